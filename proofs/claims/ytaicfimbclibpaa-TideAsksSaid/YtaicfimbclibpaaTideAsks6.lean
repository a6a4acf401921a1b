/- What the functions that the law TideAsks reaches come to, and why it holds: part 6. -/
import Derived.Test.YtaicfimbclibpaaTideAsks5
namespace Go.Proofs.Wk
open Go Go.Fw Go.Gx Go.Pl
set_option linter.unusedVariables false
structure m_laurelref01_Heights_S0 where
  minute4 : Int
  out3 : (List Int)
def m_laurelref01_Heights_L0 (s0 : Sands) (s : m_laurelref01_Heights_S0) : Option (m_laurelref01_Heights_S0 ⊕ (List Int)) :=
 (m_laurelref01_Last s0).bind fun t9 =>
 if s.minute4 ≤ t9 then
 ((m_laurelref01_Height s0 s.minute4).bind fun t16 =>
 (appc 8 s.out3 [t16]).bind fun t18 =>
 (addc s.minute4 1).bind fun t12 =>
 some (.inl (⟨t12, t18⟩ : m_laurelref01_Heights_S0))) else
 (some (.inr s.out3))
def m_laurelref01_Heights (s0 : Sands) : Option (List Int) :=
 (m_laurelref01_First s0).bind fun t6 =>
 (iterM FU (m_laurelref01_Heights_L0 s0) (⟨t6, []⟩ : m_laurelref01_Heights_S0)).bind fun o =>
 some o
set_option maxRecDepth 100000 in
set_option maxHeartbeats 4000000 in
theorem c_laurelref01_Heights (s0 : Sands) (qa0 : Option Addr) (na0 ca0 : Nat) (qa1 : Option Addr) (na1 ca1 : Nat) (qa2 : Option Addr) (na2 ca2 : Nat) (w : World) (hw : HV w (keys [] []) [] [] [(aB qa0, aO qa0, RW.enc s0.table), (aB qa1, aO qa1, RI.enc s0.floors), (aB qa2, aO qa2, RS.enc s0.sills)] w) (hna0 : s0.table.length = na0) (hqa0 : AOK na0 qa0) (hla0 : na0 ≤ ca0) (hna1 : s0.floors.length = na1) (hqa1 : AOK na1 qa1) (hla1 : na1 ≤ ca1) (hna2 : s0.sills.length = na2) (hqa2 : AOK na2 qa2) (hla2 : na2 ≤ ca2) {res : (List Int)} (hm : m_laurelref01_Heights s0 = some res) :
    Calls Try.prog 120 #[.agg #[.slice qa0 na0 ca0, .int .i64 s0.wind.lo, .int .i64 s0.wind.hi, .slice qa1 na1 ca1, .slice qa2 na2 ca2]] w (fun en w' => ∃ l : VL, en = .returned (slv l.q l.n l.cap) ∧ (VOK 1 l.n l.cap (RI.enc res) l.sp l.q) ∧ HV w (keys [] []) [] [⟨3, RI.enc res, l.sp, l.q⟩] [] w') := by
  unfold m_laurelref01_Heights at hm
  refine g_enter (args := [.agg #[.slice qa0 na0 ca0, .int .i64 s0.wind.lo, .int .i64 s0.wind.hi, .slice qa1 na1 ca1, .slice qa2 na2 ca2]]) Try.func120 rfl Try.ntmps120 rfl (e := [(0, _)]) rfl (H := HV w (keys [] []) [] [] [(aB qa0, aO qa0, RW.enc s0.table), (aB qa1, aO qa1, RI.enc s0.floors), (aB qa2, aO qa2, RS.enc s0.sills)]) hw ?_
  refine g_seq ?_
  refine g_region ?_
  refine g_boxV rfl rfl (fun b h2 => ?_)
  refine g_val rfl rfl rfl (fun _ _ => v_nilS rfl) ?_
  refine g_nil ?_
  refine g_n_then ?_
  refine g_seq ?_
  refine g_region ?_
  refine g_val rfl rfl rfl (fun _ _ => v_nilS rfl) ?_
  refine g_nil ?_
  refine g_n_then ?_
  refine g_seq ?_
  refine g_seq ?_
  refine g_region ?_
  refine g_val rfl rfl rfl (fun w hh => v_loadAgg (vs := [_, _, _, _, _]) (Try.isAgg59 w) (Try.sizeOf59 w) rfl (hh.cells 0 rfl rfl)) ?_
  obtain ⟨t6, h3, hm⟩ := bindO hm
  refine g_callH [] [] rfl rfl rfl rfl rfl rfl rfl (fun a w => Try.call108 a w) (fun w hh => c_laurelref01_First s0 qa0 na0 ca0 qa1 na1 ca1 qa2 na2 ca2 w (HV.callee (S0 := []) (vs0 := []) hh (roC (hh.rsep (S0 := []) (vs0 := []) 0 rfl) (roC (hh.rsep (S0 := []) (vs0 := []) 1 rfl) (roC (hh.rsep (S0 := []) (vs0 := []) 2 rfl) roN)))) hna0 hqa0 hla0 hna1 hqa1 hla1 hna2 hqa2 hla2 h3) (fun l h4 => ?_)
  refine g_val rfl rfl rfl (fun _ _ => v_assign rfl) ?_
  refine g_nil ?_
  refine g_n_then ?_
  refine g_vnil 3 ?_
  obtain ⟨o, h5, h6⟩ := bindO hm
  refine g_cut (ι := VL) (fun l_1 => VOK 1 l_1.n l_1.cap (RI.enc o) l_1.sp l_1.q) (fun l_1 => [(3, slv l_1.q l_1.n l_1.cap)]) (fun l_1 => [(b, .cells #[.slice qa0 na0 ca0, .int .i64 s0.wind.lo, .int .i64 s0.wind.hi, .slice qa1 na1 ca1, .slice qa2 na2 ca2] 59 (0, 0))]) (fun l_1 => [⟨3, RI.enc o, l_1.sp, l_1.q⟩]) ?_ ?_
  ·replace hm := h5
   refine g_block ?_
   refine g_loopF (ι := VL) hm (fun s l_2 => VOK 1 l_2.n l_2.cap (RI.enc s.out3) l_2.sp l_2.q) (fun s l_2 => [(1, ptr b 0), (3, slv l_2.q l_2.n l_2.cap), (4, .int .i64 s.minute4)]) (fun s l_2 => [(b, .cells #[.slice qa0 na0 ca0, .int .i64 s0.wind.lo, .int .i64 s0.wind.hi, .slice qa1 na1 ca1, .slice qa2 na2 ca2] 59 (0, 0))]) (fun s l_2 => [⟨3, RI.enc s.out3, l_2.sp, l_2.q⟩]) ⟨none, 0, 0, []⟩ (VOK.nil) ((.cons rfl (.cons rfl (.cons rfl .nil)))) (fun w hh => hh) (fun s l_2 r hpl hm h9 => ?_)
   have h8 := hpl
   unfold m_laurelref01_Heights_L0 at hm
   refine g_seq ?_
   refine g_seq ?_
   refine g_region ?_
   refine g_val rfl rfl rfl (fun _ _ => v_move rfl) ?_
   refine g_val rfl rfl rfl (fun w hh => v_loadAgg (vs := [_, _, _, _, _]) (Try.isAgg59 w) (Try.sizeOf59 w) rfl (hh.cells 0 rfl rfl)) ?_
   obtain ⟨t9, h10, hm⟩ := bindO hm
   refine g_callH [] [] rfl rfl rfl rfl rfl rfl rfl (fun a w => Try.call109 a w) (fun w hh => c_laurelref01_Last s0 qa0 na0 ca0 qa1 na1 ca1 qa2 na2 ca2 w (HV.callee (S0 := []) (vs0 := []) hh (roC (hh.rsep (S0 := []) (vs0 := []) 0 rfl) (roC (hh.rsep (S0 := []) (vs0 := []) 1 rfl) (roC (hh.rsep (S0 := []) (vs0 := []) 2 rfl) roN)))) hna0 hqa0 hla0 hna1 hqa1 hla1 hna2 hqa2 hla2 h10) (fun l_3 h11 => ?_)
   refine g_val rfl rfl rfl (fun _ _ => v_leq rfl rfl) ?_
   refine g_nil ?_
   refine g_n_then ?_
   refine g_cond rfl (fun h12 => ?_) (fun h12 => ?_)
   ·replace hm := ifT (of_decide_eq_true h12) hm
    refine g_skip ?_
    refine g_n_then ?_
    refine g_seq ?_
    refine g_block ?_
    refine g_region ?_
    refine g_val rfl rfl rfl (fun _ _ => v_move rfl) ?_
    refine g_val rfl rfl rfl (fun w hh => v_loadAgg (vs := [_, _, _, _, _]) (Try.isAgg59 w) (Try.sizeOf59 w) rfl (hh.cells 0 rfl rfl)) ?_
    refine g_val rfl rfl rfl (fun _ _ => v_move rfl) ?_
    obtain ⟨t16, h13, hm⟩ := bindO hm
    refine g_callH [] [] rfl rfl rfl rfl rfl rfl rfl (fun a w => Try.call35 a w) (fun w hh => c_laurelref01_Height s0 s.minute4 qa0 na0 ca0 qa1 na1 ca1 qa2 na2 ca2 w (HV.callee (S0 := []) (vs0 := []) hh (roC (hh.rsep (S0 := []) (vs0 := []) 0 rfl) (roC (hh.rsep (S0 := []) (vs0 := []) 1 rfl) (roC (hh.rsep (S0 := []) (vs0 := []) 2 rfl) roN)))) hna0 hqa0 hla0 hna1 hqa1 hla1 hna2 hqa2 hla2 h13) (fun l_4 h14 => ?_)
    refine g_vlit RI [t16] (ps := [(0, _)]) (cells := [_]) (fun w => Try.runUnderlying26 w) (fun w => Try.sizeOf3 w) (fun w => Try.zeroValue3 w) rfl rfl rfl rfl rfl rfl rfl rfl (fun L h15 => ?_)
    obtain ⟨t18, h16, hm⟩ := bindO hm
    refine g_vapp RI 1 h16 Try.underlying26 gxinf3 rfl rfl rfl rfl rfl h8 rfl rfl (vlen RI h15 rfl) (AOK.q (vne h15)) (fun w hh => (hh.vsegA 0 rfl h15)) rfl (fun L_1 h17 h17n => ?_)
    refine g_sel (S' := [_]) (vs' := [_, _]) [0] [0, 1] 0 (by decide) (by decide) rfl rfl rfl ?_
    refine g_val rfl rfl rfl (fun _ _ => v_assign rfl) ?_
    refine g_nil ?_
    refine g_n_blk ?_
    refine g_n_then ?_
    refine g_region ?_
    refine g_val rfl rfl rfl (fun _ _ => v_move rfl) ?_
    obtain ⟨t12, h18, hm⟩ := bindO hm
    refine g_val rfl rfl rfl (fun _ _ => v_addc h18 rfl rfl) ?_
    refine g_val rfl rfl rfl (fun _ _ => v_assign rfl) ?_
    refine g_nil ?_
    obtain rfl := Option.some.inj hm
    refine g_n_then ?_
    exact g_again' _ L_1 rfl (h17) ((.cons rfl (.cons rfl (.cons rfl .nil)))) (fun w hh => hh.sel [0] [1] 0 (by decide) (by decide) rfl rfl rfl)
   ·replace hm := ifF (of_decide_eq_false h12) hm
    refine g_exit ?_
    refine g_x_then ?_
    refine g_x_then ?_
    refine g_x_blk ?_
    obtain rfl := Option.some.inj hm
    have hbo := h9 _ rfl
    subst hbo
    exact g_leaf l_2 (h8) ((.cons rfl .nil)) (fun w hh => hh)
  ·intro l_1 hj
   have h7 := hj
   replace hm := h6
   refine g_n_then ?_
   refine g_seq ?_
   refine g_region ?_
   refine g_val rfl rfl rfl (fun _ _ => v_move rfl) ?_
   refine g_val rfl rfl rfl (fun _ _ => v_assign rfl) ?_
   refine g_nil ?_
   refine g_n_then ?_
   refine g_ret ?_
   obtain rfl := Option.some.inj hm
   refine g_done rfl (fun w hh => (.tmp rfl .nil)) (fun w hh => ⟨l_1, rfl, h7, hh.sel [] [0] 3 (by decide) (by decide) rfl rfl rfl⟩)
end Go.Proofs.Wk
namespace Go.Proofs.Wk
open Go Go.Fw Go.Gx Go.Pl
set_option linter.unusedVariables false
structure m_laurelref01_Says_S0 where
  i9 : Int
  out7 : (List Bool)
def m_laurelref01_Says_L0 (t11 : (List Int)) (s0 : Sands) (gate1 : Int) (state2 : Int) (s : m_laurelref01_Says_S0) : Option (m_laurelref01_Says_S0 ⊕ (List Bool)) :=
 if s.i9 < (t11.length : Int) then
 ((ix t11 s.i9).bind fun t22 =>
 (m_laurelref01_State s0 t22 gate1).bind fun t25 =>
 (appc 1 s.out7 [(decide (t25 = state2))]).bind fun t29 =>
 (addc s.i9 1).bind fun t17 =>
 some (.inl (⟨t17, t29⟩ : m_laurelref01_Says_S0))) else
 (some (.inr s.out7))
def m_laurelref01_Says (s0 : Sands) (gate1 : Int) (state2 : Int) : Option (List Bool) :=
 (m_laurelref01_Heights s0).bind fun t11 =>
 (iterM FU (m_laurelref01_Says_L0 t11 s0 gate1 state2) (⟨0, []⟩ : m_laurelref01_Says_S0)).bind fun o =>
 some o
set_option maxRecDepth 100000 in
set_option maxHeartbeats 4000000 in
theorem c_laurelref01_Says (s0 : Sands) (gate1 : Int) (state2 : Int) (qa0 : Option Addr) (na0 ca0 : Nat) (qa1 : Option Addr) (na1 ca1 : Nat) (qa2 : Option Addr) (na2 ca2 : Nat) (w : World) (hw : HV w (keys [] []) [] [] [(aB qa0, aO qa0, RW.enc s0.table), (aB qa1, aO qa1, RI.enc s0.floors), (aB qa2, aO qa2, RS.enc s0.sills)] w) (hna0 : s0.table.length = na0) (hqa0 : AOK na0 qa0) (hla0 : na0 ≤ ca0) (hna1 : s0.floors.length = na1) (hqa1 : AOK na1 qa1) (hla1 : na1 ≤ ca1) (hna2 : s0.sills.length = na2) (hqa2 : AOK na2 qa2) (hla2 : na2 ≤ ca2) {res : (List Bool)} (hm : m_laurelref01_Says s0 gate1 state2 = some res) :
    Calls Try.prog 49 #[.agg #[.slice qa0 na0 ca0, .int .i64 s0.wind.lo, .int .i64 s0.wind.hi, .slice qa1 na1 ca1, .slice qa2 na2 ca2], .int .i64 gate1, .int .i64 state2] w (fun en w' => ∃ l : VL, en = .returned (slv l.q l.n l.cap) ∧ (VOK 1 l.n l.cap (RB.enc res) l.sp l.q) ∧ HV w (keys [] []) [] [⟨4, RB.enc res, l.sp, l.q⟩] [] w') := by
  unfold m_laurelref01_Says at hm
  refine g_enter (args := [.agg #[.slice qa0 na0 ca0, .int .i64 s0.wind.lo, .int .i64 s0.wind.hi, .slice qa1 na1 ca1, .slice qa2 na2 ca2], .int .i64 gate1, .int .i64 state2]) Try.func49 rfl Try.ntmps49 rfl (e := [(0, _), (1, _), (2, _)]) rfl (H := HV w (keys [] []) [] [] [(aB qa0, aO qa0, RW.enc s0.table), (aB qa1, aO qa1, RI.enc s0.floors), (aB qa2, aO qa2, RS.enc s0.sills)]) hw ?_
  refine g_seq ?_
  refine g_region ?_
  refine g_boxV rfl rfl (fun b h2 => ?_)
  refine g_val rfl rfl rfl (fun _ _ => v_nilS rfl) ?_
  refine g_nil ?_
  refine g_n_then ?_
  refine g_seq ?_
  refine g_region ?_
  refine g_val rfl rfl rfl (fun _ _ => v_nilS rfl) ?_
  refine g_nil ?_
  refine g_n_then ?_
  refine g_seq ?_
  refine g_region ?_
  refine g_val rfl rfl rfl (fun w hh => v_loadAgg (vs := [_, _, _, _, _]) (Try.isAgg59 w) (Try.sizeOf59 w) rfl (hh.cells 0 rfl rfl)) ?_
  obtain ⟨t11, h3, hm⟩ := bindO hm
  refine g_callH [] [] rfl rfl rfl rfl rfl rfl rfl (fun a w => Try.call120 a w) (fun w hh => c_laurelref01_Heights s0 qa0 na0 ca0 qa1 na1 ca1 qa2 na2 ca2 w (HV.callee (S0 := []) (vs0 := []) hh (roC (hh.rsep (S0 := []) (vs0 := []) 0 rfl) (roC (hh.rsep (S0 := []) (vs0 := []) 1 rfl) (roC (hh.rsep (S0 := []) (vs0 := []) 2 rfl) roN)))) hna0 hqa0 hla0 hna1 hqa1 hla1 hna2 hqa2 hla2 h3) (fun l h4 => ?_)
  have h5 := h4
  refine g_sel (S' := [_]) (vs' := [_]) [0] [0] 0 (by decide) (by decide) rfl rfl rfl ?_
  refine g_val rfl rfl rfl (fun _ _ => v_assign rfl) ?_
  refine g_nil ?_
  refine g_n_then ?_
  refine g_seq ?_
  refine g_seq ?_
  refine g_region ?_
  refine g_val rfl rfl rfl (fun _ _ => v_assign rfl) ?_
  refine g_nil ?_
  refine g_n_then ?_
  refine g_vnil 4 ?_
  obtain ⟨o, h6, h7⟩ := bindO hm
  refine g_cut (ι := VL) (fun l_1 => VOK 1 l_1.n l_1.cap (RB.enc o) l_1.sp l_1.q) (fun l_1 => [(7, slv l_1.q l_1.n l_1.cap)]) (fun l_1 => [(b, .cells #[.slice qa0 na0 ca0, .int .i64 s0.wind.lo, .int .i64 s0.wind.hi, .slice qa1 na1 ca1, .slice qa2 na2 ca2] 59 (0, 0))]) (fun l_1 => [⟨4, RB.enc o, l_1.sp, l_1.q⟩]) ?_ ?_
  ·replace hm := h6
   refine g_block ?_
   refine g_loopF (ι := VL) hm (fun s l_2 => VOK 1 l_2.n l_2.cap (RB.enc s.out7) l_2.sp l_2.q) (fun s l_2 => [(1, .int .i64 gate1), (2, .int .i64 state2), (3, ptr b 0), (7, slv l_2.q l_2.n l_2.cap), (8, slv l.q l.n l.cap), (9, .int .i64 s.i9)]) (fun s l_2 => [(b, .cells #[.slice qa0 na0 ca0, .int .i64 s0.wind.lo, .int .i64 s0.wind.hi, .slice qa1 na1 ca1, .slice qa2 na2 ca2] 59 (0, 0))]) (fun s l_2 => [⟨4, RB.enc s.out7, l_2.sp, l_2.q⟩, ⟨3, RI.enc t11, l.sp, l.q⟩]) ⟨none, 0, 0, []⟩ (VOK.nil) ((.cons rfl (.cons rfl (.cons rfl (.cons rfl (.cons rfl (.cons rfl .nil))))))) (fun w hh => hh) (fun s l_2 r hpl hm h10 => ?_)
   have h9 := hpl
   unfold m_laurelref01_Says_L0 at hm
   refine g_seq ?_
   refine g_seq ?_
   refine g_region ?_
   refine g_val rfl rfl rfl (fun _ _ => v_move rfl) ?_
   refine g_val rfl rfl rfl (fun _ _ => v_move rfl) ?_
   refine g_val rfl rfl rfl (fun w _ => v_lenN (vlen RI h5 rfl) (Try.runUnderlying26 w) rfl) ?_
   refine g_val rfl rfl rfl (fun _ _ => v_lss rfl rfl) ?_
   refine g_nil ?_
   refine g_n_then ?_
   refine g_cond rfl (fun h11 => ?_) (fun h11 => ?_)
   ·replace hm := ifT (of_decide_eq_true h11) hm
    refine g_skip ?_
    refine g_n_then ?_
    refine g_seq ?_
    refine g_block ?_
    refine g_draw none (.free 0 (.hoist 1 (.free 2 (.free 3 (.free 4 (.hoist 5 (.free 6 (.free 8 (.one 7 (.free 9 (.one 10 (.one 11 (.free 12 .done))))))))))))) (HV _ _ [(b, .cells #[.slice qa0 na0 ca0, .int .i64 s0.wind.lo, .int .i64 s0.wind.hi, .slice qa1 na1 ca1, .slice qa2 na2 ca2] 59 (0, 0))] [⟨3, RI.enc t11, l.sp, l.q⟩] _) rfl (by decide +kernel) (fun w k hh => hh.draw k) (fun w hh => hh.sel [0] [1] 0 (by decide) (by decide) rfl rfl rfl) ?_
    refine p_free rfl rfl rfl rfl (fun _ _ => v_move rfl) ?_
    refine p_hoist rfl rfl rfl rfl (fun w hh => v_loadAgg (vs := [_, _, _, _, _]) (Try.isAgg59 w) (Try.sizeOf59 w) rfl (hh.cells 0 rfl rfl)) ?_
    refine p_free rfl rfl rfl rfl (fun _ _ => v_move rfl) ?_
    refine p_free rfl rfl rfl rfl (fun _ _ => v_move rfl) ?_
    obtain ⟨t22, h12, hm⟩ := bindO hm
    refine p_free rfl rfl rfl rfl (fun w _ => v_ixA h12 (Try.runUnderlying26 w) (Try.sizeOf3 w) rfl rfl (vlen RI h5 rfl) (vne h5)) ?_
    refine p_hoist rfl rfl rfl rfl (fun w hh => v_ldE RI 0 h12 (Try.isAgg3 w) rfl (hh.vseg 0 rfl h5) rfl (Nat.add_zero _).symm) ?_
    refine p_free rfl rfl rfl rfl (fun _ _ => v_move rfl) ?_
    refine p_free rfl rfl rfl rfl (fun _ _ => v_move rfl) ?_
    refine p_one rfl ?_
    obtain ⟨t25, h13, hm⟩ := bindO hm
    refine g_callH [] [] rfl rfl rfl rfl rfl rfl rfl (fun a w => Try.call45 a w) (fun w hh => c_laurelref01_State s0 t22 gate1 qa0 na0 ca0 qa1 na1 ca1 qa2 na2 ca2 w (HV.callee (S0 := []) (vs0 := []) hh (roC (hh.rsep (S0 := []) (vs0 := []) 0 rfl) (roC (hh.rsep (S0 := []) (vs0 := []) 1 rfl) (roC (hh.rsep (S0 := []) (vs0 := []) 2 rfl) roN)))) hna0 hqa0 hla0 hna1 hqa1 hla1 hna2 hqa2 hla2 h13) (fun l_3 h14 => ?_)
    refine p_next (fun w hh => hh.sel [0] [1] 0 (by decide) (by decide) rfl rfl rfl) ?_
    refine p_free rfl rfl rfl rfl (fun _ _ => v_eql rfl rfl) ?_
    refine p_one rfl ?_
    refine g_vlit RB [(decide (t25 = state2))] (ps := [(0, _)]) (cells := [_]) (fun w => Try.runUnderlying81 w) (fun w => Try.sizeOf4 w) (fun w => Try.zeroValue4 w) rfl rfl rfl rfl rfl rfl rfl rfl (fun L h15 => ?_)
    refine p_next (fun w hh => hh.sel [0] [2] 0 (by decide) (by decide) rfl rfl rfl) ?_
    refine p_one rfl ?_
    obtain ⟨t29, h16, hm⟩ := bindO hm
    refine g_vapp RB 1 h16 Try.underlying81 gxinf4 rfl rfl rfl rfl rfl h9 rfl rfl (vlen RB h15 rfl) (AOK.q (vne h15)) (fun w hh => (hh.vsegA 0 rfl h15)) rfl (fun L_1 h17 h17n => ?_)
    refine g_sel (S' := [_]) (vs' := [_, _, _]) [0] [0, 1, 2] 0 (by decide) (by decide) rfl rfl rfl ?_
    refine p_next (fun w hh => hh.sel [0] [2] 0 (by decide) (by decide) rfl rfl rfl) ?_
    refine p_free rfl rfl rfl rfl (fun _ _ => v_assign rfl) ?_
    refine p_done ?_
    refine g_n_blk ?_
    refine g_n_then ?_
    refine g_region ?_
    refine g_val rfl rfl rfl (fun _ _ => v_move rfl) ?_
    obtain ⟨t17, h18, hm⟩ := bindO hm
    refine g_val rfl rfl rfl (fun _ _ => v_addc h18 rfl rfl) ?_
    refine g_val rfl rfl rfl (fun _ _ => v_assign rfl) ?_
    refine g_nil ?_
    obtain rfl := Option.some.inj hm
    refine g_n_then ?_
    exact g_again' _ L_1 rfl (h17) ((.cons rfl (.cons rfl (.cons rfl (.cons rfl (.cons rfl (.cons rfl .nil))))))) (fun w hh => hh.sel [0] [1, 2] 0 (by decide) (by decide) rfl rfl rfl)
   ·replace hm := ifF (of_decide_eq_false h11) hm
    refine g_exit ?_
    refine g_x_then ?_
    refine g_x_then ?_
    refine g_x_blk ?_
    obtain rfl := Option.some.inj hm
    have hbo := h10 _ rfl
    subst hbo
    exact g_leaf l_2 (h9) ((.cons rfl .nil)) (fun w hh => hh.sel [0] [0] 0 (by decide) (by decide) rfl rfl rfl)
  ·intro l_1 hj
   have h8 := hj
   replace hm := h7
   refine g_n_then ?_
   refine g_seq ?_
   refine g_region ?_
   refine g_val rfl rfl rfl (fun _ _ => v_move rfl) ?_
   refine g_val rfl rfl rfl (fun _ _ => v_assign rfl) ?_
   refine g_nil ?_
   refine g_n_then ?_
   refine g_ret ?_
   obtain rfl := Option.some.inj hm
   refine g_done rfl (fun w hh => (.tmp rfl .nil)) (fun w hh => ⟨l_1, rfl, h8, hh.sel [] [0] 3 (by decide) (by decide) rfl rfl rfl⟩)
end Go.Proofs.Wk
namespace Go.Proofs.Wk
open Go Go.Fw Go.Gx Go.Pl
set_option linter.unusedVariables false
structure m_laurelref01_Run_R where
  r0 : Span
  r1 : Bool
def m_laurelref01_Run_L0 (says1 : (List Bool)) (s : Int) : Option (Int ⊕ Int) :=
 (if 0 < s then
 ((subc s 1).bind fun t28 =>
 (ix says1 t28).bind fun t29 =>
 some t29) else
 (some false)).bind fun o_1 =>
 if o_1 = true then
 ((subc s 1).bind fun t33 =>
 some (.inl t33)) else
 (some (.inr s))
def m_laurelref01_Run_L1 (says1 : (List Bool)) (s_1 : Int) : Option (Int ⊕ Int) :=
 ((subc (says1.length : Int) 1).bind fun t37 =>
 if s_1 < t37 then
 ((addc s_1 1).bind fun t42 =>
 (ix says1 t42).bind fun t43 =>
 some t43) else
 (some false)).bind fun o_3 =>
 if o_3 = true then
 ((addc s_1 1).bind fun t47 =>
 some (.inl t47)) else
 (some (.inr s_1))
def m_laurelref01_Run (s0 : Sands) (says1 : (List Bool)) (minute2 : Int) : Option m_laurelref01_Run_R :=
 (m_laurelref01_First s0).bind fun t13 =>
 (subc minute2 t13).bind fun t14 =>
 (ix says1 t14).bind fun t17 =>
 if (!t17) = true then
 (some (⟨(⟨0, 0⟩ : Span), false⟩ : m_laurelref01_Run_R)) else
 ((iterM FU (m_laurelref01_Run_L0 says1) t14).bind fun o =>
 (iterM FU (m_laurelref01_Run_L1 says1) t14).bind fun o_2 =>
 (m_laurelref01_First s0).bind fun t49 =>
 (addc t49 o).bind fun t51 =>
 (m_laurelref01_First s0).bind fun t53 =>
 (addc t53 o_2).bind fun t55 =>
 some (⟨(⟨t51, t55⟩ : Span), true⟩ : m_laurelref01_Run_R))
set_option maxRecDepth 100000 in
set_option maxHeartbeats 4000000 in
theorem c_laurelref01_Run (s0 : Sands) (says1 : (List Bool)) (minute2 : Int) (qa0 : Option Addr) (na0 ca0 : Nat) (qa1 : Option Addr) (na1 ca1 : Nat) (qa2 : Option Addr) (na2 ca2 : Nat) (qa3 : Option Addr) (na3 ca3 : Nat) (w : World) (hw : HV w (keys [] []) [] [] [(aB qa0, aO qa0, RW.enc s0.table), (aB qa1, aO qa1, RI.enc s0.floors), (aB qa2, aO qa2, RS.enc s0.sills), (aB qa3, aO qa3, RB.enc says1)] w) (hna0 : s0.table.length = na0) (hqa0 : AOK na0 qa0) (hla0 : na0 ≤ ca0) (hna1 : s0.floors.length = na1) (hqa1 : AOK na1 qa1) (hla1 : na1 ≤ ca1) (hna2 : s0.sills.length = na2) (hqa2 : AOK na2 qa2) (hla2 : na2 ≤ ca2) (hna3 : says1.length = na3) (hqa3 : AOK na3 qa3) (hla3 : na3 ≤ ca3) {res : m_laurelref01_Run_R} (hm : m_laurelref01_Run s0 says1 minute2 = some res) :
    Calls Try.prog 73 #[.agg #[.slice qa0 na0 ca0, .int .i64 s0.wind.lo, .int .i64 s0.wind.hi, .slice qa1 na1 ca1, .slice qa2 na2 ca2], .slice qa3 na3 ca3, .int .i64 minute2] w (fun en w' => ∃ l : Unit, en = .returned (.tuple #[.agg #[.int .i64 res.r0.lo, .int .i64 res.r0.hi], .bool res.r1]) ∧ (True) ∧ HV w (keys [] []) [] [] [] w') := by
  unfold m_laurelref01_Run at hm
  refine g_enter (args := [.agg #[.slice qa0 na0 ca0, .int .i64 s0.wind.lo, .int .i64 s0.wind.hi, .slice qa1 na1 ca1, .slice qa2 na2 ca2], .slice qa3 na3 ca3, .int .i64 minute2]) Try.func73 rfl Try.ntmps73 rfl (e := [(0, _), (1, _), (2, _)]) rfl (H := HV w (keys [] []) [] [] [(aB qa0, aO qa0, RW.enc s0.table), (aB qa1, aO qa1, RI.enc s0.floors), (aB qa2, aO qa2, RS.enc s0.sills), (aB qa3, aO qa3, RB.enc says1)]) hw ?_
  refine g_seq ?_
  refine g_region ?_
  refine g_boxV rfl rfl (fun b h1 => ?_)
  refine g_allocV (fun w => Try.zeroValue25 w) rfl (fun b_1 h2 => ?_)
  refine g_val rfl rfl rfl (fun _ _ => v_assign rfl) ?_
  refine g_nil ?_
  refine g_n_then ?_
  refine g_seq ?_
  refine g_region ?_
  refine g_val rfl rfl rfl (fun _ _ => v_move rfl) ?_
  refine g_val rfl rfl rfl (fun w hh => v_loadAgg (vs := [_, _, _, _, _]) (Try.isAgg59 w) (Try.sizeOf59 w) rfl (hh.cells 1 rfl rfl)) ?_
  obtain ⟨t13, h3, hm⟩ := bindO hm
  refine g_callH [] [] rfl rfl rfl rfl rfl rfl rfl (fun a w => Try.call108 a w) (fun w hh => c_laurelref01_First s0 qa0 na0 ca0 qa1 na1 ca1 qa2 na2 ca2 w (HV.callee (S0 := []) (vs0 := []) hh (roC (hh.rsep (S0 := []) (vs0 := []) 0 rfl) (roC (hh.rsep (S0 := []) (vs0 := []) 1 rfl) (roC (hh.rsep (S0 := []) (vs0 := []) 2 rfl) roN)))) hna0 hqa0 hla0 hna1 hqa1 hla1 hna2 hqa2 hla2 h3) (fun l h4 => ?_)
  obtain ⟨t14, h5, hm⟩ := bindO hm
  refine g_val rfl rfl rfl (fun _ _ => v_subc h5 rfl rfl) ?_
  refine g_val rfl rfl rfl (fun _ _ => v_assign rfl) ?_
  refine g_nil ?_
  refine g_n_then ?_
  refine g_seq ?_
  refine g_seq ?_
  refine g_region ?_
  refine g_val rfl rfl rfl (fun _ _ => v_move rfl) ?_
  refine g_val rfl rfl rfl (fun _ _ => v_move rfl) ?_
  obtain ⟨t17, h6, hm⟩ := bindO hm
  refine g_val rfl rfl rfl (fun w _ => v_ixR h6 (Try.runUnderlying81 w) (Try.sizeOf4 w) rfl rfl hna3 hqa3) ?_
  refine g_val rfl rfl rfl (fun w hh => v_ldE RB 0 h6 (Try.isAgg4 w) rfl (hh.seg 3 rfl) rfl (Nat.add_zero _).symm) ?_
  refine g_val rfl rfl rfl (fun _ _ => v_not rfl) ?_
  refine g_nil ?_
  refine g_n_then ?_
  refine g_cond rfl (fun h7 => ?_) (fun h7 => ?_)
  ·replace hm := ifT (h7) hm
   refine g_seq ?_
   refine g_region ?_
   refine g_val rfl rfl rfl (fun _ _ => v_build (vs := []) (cells := [_, _]) rfl rfl) ?_
   refine g_stSA (us := #[_, _]) (cs' := [_, _]) (S' := [_, _]) 0 (fun w => Try.sizeOf25 w) rfl rfl rfl rfl rfl rfl rfl ?_
   refine g_val rfl rfl rfl (fun _ _ => v_assign rfl) ?_
   refine g_nil ?_
   refine g_n_then ?_
   refine g_ret ?_
   refine g_r_then ?_
   obtain rfl := Option.some.inj hm
   refine g_done rfl (fun w hh => (.cell rfl (loadVar_agg (vs := [_, _]) (Try.isAgg25 _) (Try.sizeOf25 _) (hh.cells 0 rfl rfl)) (.tmp rfl .nil))) (fun w hh => ⟨(), rfl, trivial, hh.sel [] [] 4 (by decide) (by decide) rfl rfl rfl⟩)
  ·replace hm := ifF ((fun hh => Bool.noConfusion ((h7).symm.trans hh))) hm
   refine g_skip ?_
   refine g_n_then ?_
   refine g_seq ?_
   refine g_region ?_
   refine g_val rfl rfl rfl (fun _ _ => v_move rfl) ?_
   refine g_val rfl rfl rfl (fun _ _ => v_move rfl) ?_
   refine g_val rfl rfl rfl (fun _ _ => v_assign rfl) ?_
   refine g_val rfl rfl rfl (fun _ _ => v_assign rfl) ?_
   refine g_nil ?_
   refine g_n_then ?_
   refine g_seq ?_
   obtain ⟨o, h8, h9⟩ := bindO hm
   refine g_cut (ι := Unit) (fun l_1 => True) (fun l_1 => [(1, .slice qa3 na3 ca3), (3, ptr b 0), (6, ptr b_1 0), (9, .int .i64 o), (10, .int .i64 t14)]) (fun l_1 => [(b_1, .cells #[.int .i64 0, .int .i64 0] 25 (0, 0)), (b, .cells #[.slice qa0 na0 ca0, .int .i64 s0.wind.lo, .int .i64 s0.wind.hi, .slice qa1 na1 ca1, .slice qa2 na2 ca2] 59 (0, 0))]) (fun l_1 => []) ?_ ?_
   ·replace hm := h8
    refine g_block ?_
    refine g_loopF (ι := Unit) hm (fun s l_2 => True) (fun s l_2 => [(1, .slice qa3 na3 ca3), (3, ptr b 0), (6, ptr b_1 0), (9, .int .i64 s), (10, .int .i64 t14)]) (fun s l_2 => [(b_1, .cells #[.int .i64 0, .int .i64 0] 25 (0, 0)), (b, .cells #[.slice qa0 na0 ca0, .int .i64 s0.wind.lo, .int .i64 s0.wind.hi, .slice qa1 na1 ca1, .slice qa2 na2 ca2] 59 (0, 0))]) (fun s l_2 => []) () (trivial) ((.cons rfl (.cons rfl (.cons rfl (.cons rfl (.cons rfl .nil)))))) (fun w hh => hh) (fun s l_2 r hpl hm h10 => ?_)
    unfold m_laurelref01_Run_L0 at hm
    refine g_seq ?_
    refine g_seq ?_
    obtain ⟨o_1, h11, h12⟩ := bindO hm
    refine g_cut (ι := Unit) (fun l_3 => True) (fun l_3 => [(1, .slice qa3 na3 ca3), (3, ptr b 0), (6, ptr b_1 0), (9, .int .i64 s), (10, .int .i64 t14), (31, .bool o_1)]) (fun l_3 => [(b_1, .cells #[.int .i64 0, .int .i64 0] 25 (0, 0)), (b, .cells #[.slice qa0 na0 ca0, .int .i64 s0.wind.lo, .int .i64 s0.wind.hi, .slice qa1 na1 ca1, .slice qa2 na2 ca2] 59 (0, 0))]) (fun l_3 => []) ?_ ?_
    ·replace hm := h11
     refine g_region ?_
     refine g_val rfl rfl rfl (fun _ _ => v_move rfl) ?_
     refine g_val rfl rfl rfl (fun _ _ => v_gtr rfl rfl) ?_
     refine g_val rfl rfl rfl (fun _ _ => v_move rfl) ?_
     refine g_case 25 rfl (fun h13 => ?_) (fun h13 => ?_)
     ·replace hm := ifT (of_decide_eq_true h13) hm
      refine v_unguard rfl rfl ?_
      refine g_val rfl rfl rfl (fun _ _ => v_move rfl) ?_
      refine v_unguard rfl rfl ?_
      refine g_val rfl rfl rfl (fun _ _ => v_move rfl) ?_
      refine v_unguard rfl rfl ?_
      obtain ⟨t28, h14, hm⟩ := bindO hm
      refine g_val rfl rfl rfl (fun _ _ => v_subc h14 rfl rfl) ?_
      refine v_unguard rfl rfl ?_
      obtain ⟨t29, h15, hm⟩ := bindO hm
      refine g_val rfl rfl rfl (fun w _ => v_ixR h15 (Try.runUnderlying81 w) (Try.sizeOf4 w) rfl rfl hna3 hqa3) ?_
      refine v_unguard rfl rfl ?_
      refine g_val rfl rfl rfl (fun w hh => v_ldE RB 0 h15 (Try.isAgg4 w) rfl (hh.seg 3 rfl) rfl (Nat.add_zero _).symm) ?_
      refine g_val rfl rfl rfl (fun _ _ => v_pickT rfl rfl) ?_
      refine g_nil ?_
      obtain rfl := Option.some.inj hm
      exact g_leaf () (trivial) ((.cons rfl (.cons rfl (.cons rfl (.cons rfl (.cons rfl (.cons rfl .nil))))))) (fun w hh => hh)
     ·replace hm := ifF (of_decide_eq_false h13) hm
      refine g_skipG rfl rfl rfl rfl rfl rfl ?_
      refine g_skipG rfl rfl rfl rfl rfl rfl ?_
      refine g_skipG rfl rfl rfl rfl rfl rfl ?_
      refine g_skipG rfl rfl rfl rfl rfl rfl ?_
      refine g_skipG rfl rfl rfl rfl rfl rfl ?_
      refine g_val rfl rfl rfl (fun _ _ => v_pickF rfl rfl) ?_
      refine g_nil ?_
      obtain rfl := Option.some.inj hm
      exact g_leaf () (trivial) ((.cons rfl (.cons rfl (.cons rfl (.cons rfl (.cons rfl (.cons rfl .nil))))))) (fun w hh => hh)
    ·intro l_3 hj
     replace hm := h12
     refine g_n_then ?_
     refine g_cond rfl (fun h16 => ?_) (fun h16 => ?_)
     ·replace hm := ifT (h16) hm
      refine g_skip ?_
      refine g_n_then ?_
      refine g_block ?_
      refine g_region ?_
      refine g_val rfl rfl rfl (fun _ _ => v_move rfl) ?_
      obtain ⟨t33, h17, hm⟩ := bindO hm
      refine g_val rfl rfl rfl (fun _ _ => v_subc h17 rfl rfl) ?_
      refine g_val rfl rfl rfl (fun _ _ => v_assign rfl) ?_
      refine g_nil ?_
      refine g_n_blk ?_
      obtain rfl := Option.some.inj hm
      refine g_n_then ?_
      exact g_again' _ () rfl (trivial) ((.cons rfl (.cons rfl (.cons rfl (.cons rfl (.cons rfl .nil)))))) (fun w hh => hh)
     ·replace hm := ifF ((fun hh => Bool.noConfusion ((h16).symm.trans hh))) hm
      refine g_exit ?_
      refine g_x_then ?_
      refine g_x_then ?_
      refine g_x_blk ?_
      obtain rfl := Option.some.inj hm
      have hbo := h10 _ rfl
      subst hbo
      exact g_leaf () (trivial) ((.cons rfl (.cons rfl (.cons rfl (.cons rfl (.cons rfl .nil)))))) (fun w hh => hh)
   ·intro l_1 hj
    replace hm := h9
    refine g_n_then ?_
    refine g_seq ?_
    obtain ⟨o_2, h18, h19⟩ := bindO hm
    refine g_cut (ι := Unit) (fun l_4 => True) (fun l_4 => [(3, ptr b 0), (6, ptr b_1 0), (9, .int .i64 o), (10, .int .i64 o_2)]) (fun l_4 => [(b_1, .cells #[.int .i64 0, .int .i64 0] 25 (0, 0)), (b, .cells #[.slice qa0 na0 ca0, .int .i64 s0.wind.lo, .int .i64 s0.wind.hi, .slice qa1 na1 ca1, .slice qa2 na2 ca2] 59 (0, 0))]) (fun l_4 => []) ?_ ?_
    ·replace hm := h18
     refine g_block ?_
     refine g_loopF (ι := Unit) hm (fun s_1 l_5 => True) (fun s_1 l_5 => [(1, .slice qa3 na3 ca3), (3, ptr b 0), (6, ptr b_1 0), (9, .int .i64 o), (10, .int .i64 s_1)]) (fun s_1 l_5 => [(b_1, .cells #[.int .i64 0, .int .i64 0] 25 (0, 0)), (b, .cells #[.slice qa0 na0 ca0, .int .i64 s0.wind.lo, .int .i64 s0.wind.hi, .slice qa1 na1 ca1, .slice qa2 na2 ca2] 59 (0, 0))]) (fun s_1 l_5 => []) () (trivial) ((.cons rfl (.cons rfl (.cons rfl (.cons rfl (.cons rfl .nil)))))) (fun w hh => hh) (fun s_1 l_5 r_1 hpl hm h20 => ?_)
     unfold m_laurelref01_Run_L1 at hm
     refine g_seq ?_
     refine g_seq ?_
     obtain ⟨o_3, h21, h22⟩ := bindO hm
     refine g_cut (ι := Unit) (fun l_6 => True) (fun l_6 => [(1, .slice qa3 na3 ca3), (3, ptr b 0), (6, ptr b_1 0), (9, .int .i64 o), (10, .int .i64 s_1), (45, .bool o_3)]) (fun l_6 => [(b_1, .cells #[.int .i64 0, .int .i64 0] 25 (0, 0)), (b, .cells #[.slice qa0 na0 ca0, .int .i64 s0.wind.lo, .int .i64 s0.wind.hi, .slice qa1 na1 ca1, .slice qa2 na2 ca2] 59 (0, 0))]) (fun l_6 => []) ?_ ?_
     ·replace hm := h21
      refine g_region ?_
      refine g_val rfl rfl rfl (fun _ _ => v_move rfl) ?_
      refine g_val rfl rfl rfl (fun _ _ => v_move rfl) ?_
      refine g_val rfl rfl rfl (fun w _ => v_lenR hna3 (Try.runUnderlying81 w) rfl) ?_
      obtain ⟨t37, h23, hm⟩ := bindO hm
      refine g_val rfl rfl rfl (fun _ _ => v_subc h23 rfl rfl) ?_
      refine g_val rfl rfl rfl (fun _ _ => v_lss rfl rfl) ?_
      refine g_val rfl rfl rfl (fun _ _ => v_move rfl) ?_
      refine g_case 39 rfl (fun h24 => ?_) (fun h24 => ?_)
      ·replace hm := ifT (of_decide_eq_true h24) hm
       refine v_unguard rfl rfl ?_
       refine g_val rfl rfl rfl (fun _ _ => v_move rfl) ?_
       refine v_unguard rfl rfl ?_
       refine g_val rfl rfl rfl (fun _ _ => v_move rfl) ?_
       refine v_unguard rfl rfl ?_
       obtain ⟨t42, h25, hm⟩ := bindO hm
       refine g_val rfl rfl rfl (fun _ _ => v_addc h25 rfl rfl) ?_
       refine v_unguard rfl rfl ?_
       obtain ⟨t43, h26, hm⟩ := bindO hm
       refine g_val rfl rfl rfl (fun w _ => v_ixR h26 (Try.runUnderlying81 w) (Try.sizeOf4 w) rfl rfl hna3 hqa3) ?_
       refine v_unguard rfl rfl ?_
       refine g_val rfl rfl rfl (fun w hh => v_ldE RB 0 h26 (Try.isAgg4 w) rfl (hh.seg 3 rfl) rfl (Nat.add_zero _).symm) ?_
       refine g_val rfl rfl rfl (fun _ _ => v_pickT rfl rfl) ?_
       refine g_nil ?_
       obtain rfl := Option.some.inj hm
       exact g_leaf () (trivial) ((.cons rfl (.cons rfl (.cons rfl (.cons rfl (.cons rfl (.cons rfl .nil))))))) (fun w hh => hh)
      ·replace hm := ifF (of_decide_eq_false h24) hm
       refine g_skipG rfl rfl rfl rfl rfl rfl ?_
       refine g_skipG rfl rfl rfl rfl rfl rfl ?_
       refine g_skipG rfl rfl rfl rfl rfl rfl ?_
       refine g_skipG rfl rfl rfl rfl rfl rfl ?_
       refine g_skipG rfl rfl rfl rfl rfl rfl ?_
       refine g_val rfl rfl rfl (fun _ _ => v_pickF rfl rfl) ?_
       refine g_nil ?_
       obtain rfl := Option.some.inj hm
       exact g_leaf () (trivial) ((.cons rfl (.cons rfl (.cons rfl (.cons rfl (.cons rfl (.cons rfl .nil))))))) (fun w hh => hh)
     ·intro l_6 hj
      replace hm := h22
      refine g_n_then ?_
      refine g_cond rfl (fun h27 => ?_) (fun h27 => ?_)
      ·replace hm := ifT (h27) hm
       refine g_skip ?_
       refine g_n_then ?_
       refine g_block ?_
       refine g_region ?_
       refine g_val rfl rfl rfl (fun _ _ => v_move rfl) ?_
       obtain ⟨t47, h28, hm⟩ := bindO hm
       refine g_val rfl rfl rfl (fun _ _ => v_addc h28 rfl rfl) ?_
       refine g_val rfl rfl rfl (fun _ _ => v_assign rfl) ?_
       refine g_nil ?_
       refine g_n_blk ?_
       obtain rfl := Option.some.inj hm
       refine g_n_then ?_
       exact g_again' _ () rfl (trivial) ((.cons rfl (.cons rfl (.cons rfl (.cons rfl (.cons rfl .nil)))))) (fun w hh => hh)
      ·replace hm := ifF ((fun hh => Bool.noConfusion ((h27).symm.trans hh))) hm
       refine g_exit ?_
       refine g_x_then ?_
       refine g_x_then ?_
       refine g_x_blk ?_
       obtain rfl := Option.some.inj hm
       have hbo := h20 _ rfl
       subst hbo
       exact g_leaf () (trivial) ((.cons rfl (.cons rfl (.cons rfl (.cons rfl .nil))))) (fun w hh => hh)
    ·intro l_4 hj
     replace hm := h19
     refine g_n_then ?_
     refine g_seq ?_
     refine g_draw none (.hoist 0 (.free 2 (.hoist 4 (.free 6 (.one 1 (.free 3 (.one 5 (.free 7 (.free 8 (.one 9 (.free 10 .done))))))))))) (HV _ _ [(b, .cells #[.slice qa0 na0 ca0, .int .i64 s0.wind.lo, .int .i64 s0.wind.hi, .slice qa1 na1 ca1, .slice qa2 na2 ca2] 59 (0, 0))] [] _) rfl (by decide +kernel) (fun w k hh => hh.draw k) (fun w hh => hh.sel [1] [] 0 (by decide) (by decide) rfl rfl rfl) ?_
     refine p_hoist rfl rfl rfl rfl (fun w hh => v_loadAgg (vs := [_, _, _, _, _]) (Try.isAgg59 w) (Try.sizeOf59 w) rfl (hh.cells 0 rfl rfl)) ?_
     refine p_free rfl rfl rfl rfl (fun _ _ => v_move rfl) ?_
     refine p_hoist rfl rfl rfl rfl (fun w hh => v_loadAgg (vs := [_, _, _, _, _]) (Try.isAgg59 w) (Try.sizeOf59 w) rfl (hh.cells 0 rfl rfl)) ?_
     refine p_free rfl rfl rfl rfl (fun _ _ => v_move rfl) ?_
     refine p_one rfl ?_
     obtain ⟨t49, h29, hm⟩ := bindO hm
     refine g_callH [] [] rfl rfl rfl rfl rfl rfl rfl (fun a w => Try.call108 a w) (fun w hh => c_laurelref01_First s0 qa0 na0 ca0 qa1 na1 ca1 qa2 na2 ca2 w (HV.callee (S0 := []) (vs0 := []) hh (roC (hh.rsep (S0 := []) (vs0 := []) 0 rfl) (roC (hh.rsep (S0 := []) (vs0 := []) 1 rfl) (roC (hh.rsep (S0 := []) (vs0 := []) 2 rfl) roN)))) hna0 hqa0 hla0 hna1 hqa1 hla1 hna2 hqa2 hla2 h29) (fun l_7 h30 => ?_)
     refine p_next (fun w hh => hh.sel [1] [] 0 (by decide) (by decide) rfl rfl rfl) ?_
     obtain ⟨t51, h31, hm⟩ := bindO hm
     refine p_free rfl rfl rfl rfl (fun _ _ => v_addc h31 rfl rfl) ?_
     refine p_one rfl ?_
     obtain ⟨t53, h32, hm⟩ := bindO hm
     refine g_callH [] [] rfl rfl rfl rfl rfl rfl rfl (fun a w => Try.call108 a w) (fun w hh => c_laurelref01_First s0 qa0 na0 ca0 qa1 na1 ca1 qa2 na2 ca2 w (HV.callee (S0 := []) (vs0 := []) hh (roC (hh.rsep (S0 := []) (vs0 := []) 0 rfl) (roC (hh.rsep (S0 := []) (vs0 := []) 1 rfl) (roC (hh.rsep (S0 := []) (vs0 := []) 2 rfl) roN)))) hna0 hqa0 hla0 hna1 hqa1 hla1 hna2 hqa2 hla2 h32) (fun l_8 h33 => ?_)
     refine p_next (fun w hh => hh.sel [1] [] 0 (by decide) (by decide) rfl rfl rfl) ?_
     obtain ⟨t55, h34, hm⟩ := bindO hm
     refine p_free rfl rfl rfl rfl (fun _ _ => v_addc h34 rfl rfl) ?_
     refine p_free rfl rfl rfl rfl (fun _ _ => v_build (vs := [(0, _), (1, _)]) (cells := [_, _]) rfl rfl) ?_
     refine p_one rfl ?_
     refine g_stSA (us := #[_, _]) (cs' := [_, _]) (S' := [_, _]) 0 (fun w => Try.sizeOf25 w) rfl rfl rfl rfl rfl rfl rfl ?_
     refine p_next (fun w hh => hh.sel [1] [] 0 (by decide) (by decide) rfl rfl rfl) ?_
     refine p_free rfl rfl rfl rfl (fun _ _ => v_assign rfl) ?_
     refine p_done ?_
     refine g_n_then ?_
     refine g_ret ?_
     obtain rfl := Option.some.inj hm
     refine g_done rfl (fun w hh => (.cell rfl (loadVar_agg (vs := [_, _]) (Try.isAgg25 _) (Try.sizeOf25 _) (hh.cells 0 rfl rfl)) (.tmp rfl .nil))) (fun w hh => ⟨(), rfl, trivial, hh.sel [] [] 4 (by decide) (by decide) rfl rfl rfl⟩)
end Go.Proofs.Wk
namespace Go.Proofs.Wk
open Go Go.Fw Go.Gx Go.Pl
set_option linter.unusedVariables false
structure m_laurelref01_Spans_S0 where
  minute6 : Int
  out5 : (List Span)
def m_laurelref01_Spans_L0 (s0 : Sands) (says1 : (List Bool)) (s : m_laurelref01_Spans_S0) : Option (m_laurelref01_Spans_S0 ⊕ (List Span)) :=
 (m_laurelref01_Last s0).bind fun t13 =>
 if s.minute6 ≤ t13 then
 (((m_laurelref01_Run s0 says1 s.minute6).bind fun t21 =>
 (if t21.r1 = true then
 (some (decide (t21.r0.lo = s.minute6))) else
 (some false)).bind fun o_2 =>
 if o_2 = true then
 ((appc 16 s.out5 [t21.r0]).bind fun t34 =>
 some t34) else
 (some s.out5)).bind fun o_1 =>
 (addc s.minute6 1).bind fun t16 =>
 some (.inl (⟨t16, o_1⟩ : m_laurelref01_Spans_S0))) else
 (some (.inr s.out5))
def m_laurelref01_Spans (s0 : Sands) (says1 : (List Bool)) : Option (List Span) :=
 (m_laurelref01_First s0).bind fun t10 =>
 (iterM FU (m_laurelref01_Spans_L0 s0 says1) (⟨t10, []⟩ : m_laurelref01_Spans_S0)).bind fun o =>
 some o
set_option maxRecDepth 100000 in
set_option maxHeartbeats 4000000 in
theorem c_laurelref01_Spans (s0 : Sands) (says1 : (List Bool)) (qa0 : Option Addr) (na0 ca0 : Nat) (qa1 : Option Addr) (na1 ca1 : Nat) (qa2 : Option Addr) (na2 ca2 : Nat) (qa3 : Option Addr) (na3 ca3 : Nat) (w : World) (hw : HV w (keys [] []) [] [] [(aB qa0, aO qa0, RW.enc s0.table), (aB qa1, aO qa1, RI.enc s0.floors), (aB qa2, aO qa2, RS.enc s0.sills), (aB qa3, aO qa3, RB.enc says1)] w) (hna0 : s0.table.length = na0) (hqa0 : AOK na0 qa0) (hla0 : na0 ≤ ca0) (hna1 : s0.floors.length = na1) (hqa1 : AOK na1 qa1) (hla1 : na1 ≤ ca1) (hna2 : s0.sills.length = na2) (hqa2 : AOK na2 qa2) (hla2 : na2 ≤ ca2) (hna3 : says1.length = na3) (hqa3 : AOK na3 qa3) (hla3 : na3 ≤ ca3) {res : (List Span)} (hm : m_laurelref01_Spans s0 says1 = some res) :
    Calls Try.prog 48 #[.agg #[.slice qa0 na0 ca0, .int .i64 s0.wind.lo, .int .i64 s0.wind.hi, .slice qa1 na1 ca1, .slice qa2 na2 ca2], .slice qa3 na3 ca3] w (fun en w' => ∃ l : VL, en = .returned (slv l.q l.n l.cap) ∧ (VOK 2 l.n l.cap (RP.enc res) l.sp l.q) ∧ HV w (keys [] []) [] [⟨25, RP.enc res, l.sp, l.q⟩] [] w') := by
  unfold m_laurelref01_Spans at hm
  refine g_enter (args := [.agg #[.slice qa0 na0 ca0, .int .i64 s0.wind.lo, .int .i64 s0.wind.hi, .slice qa1 na1 ca1, .slice qa2 na2 ca2], .slice qa3 na3 ca3]) Try.func48 rfl Try.ntmps48 rfl (e := [(0, _), (1, _)]) rfl (H := HV w (keys [] []) [] [] [(aB qa0, aO qa0, RW.enc s0.table), (aB qa1, aO qa1, RI.enc s0.floors), (aB qa2, aO qa2, RS.enc s0.sills), (aB qa3, aO qa3, RB.enc says1)]) hw ?_
  refine g_seq ?_
  refine g_region ?_
  refine g_boxV rfl rfl (fun b h2 => ?_)
  refine g_val rfl rfl rfl (fun _ _ => v_nilS rfl) ?_
  refine g_nil ?_
  refine g_n_then ?_
  refine g_seq ?_
  refine g_region ?_
  refine g_val rfl rfl rfl (fun _ _ => v_nilS rfl) ?_
  refine g_nil ?_
  refine g_n_then ?_
  refine g_seq ?_
  refine g_seq ?_
  refine g_region ?_
  refine g_val rfl rfl rfl (fun w hh => v_loadAgg (vs := [_, _, _, _, _]) (Try.isAgg59 w) (Try.sizeOf59 w) rfl (hh.cells 0 rfl rfl)) ?_
  obtain ⟨t10, h3, hm⟩ := bindO hm
  refine g_callH [] [] rfl rfl rfl rfl rfl rfl rfl (fun a w => Try.call108 a w) (fun w hh => c_laurelref01_First s0 qa0 na0 ca0 qa1 na1 ca1 qa2 na2 ca2 w (HV.callee (S0 := []) (vs0 := []) hh (roC (hh.rsep (S0 := []) (vs0 := []) 0 rfl) (roC (hh.rsep (S0 := []) (vs0 := []) 1 rfl) (roC (hh.rsep (S0 := []) (vs0 := []) 2 rfl) roN)))) hna0 hqa0 hla0 hna1 hqa1 hla1 hna2 hqa2 hla2 h3) (fun l h4 => ?_)
  refine g_val rfl rfl rfl (fun _ _ => v_assign rfl) ?_
  refine g_nil ?_
  refine g_n_then ?_
  refine g_vnil 25 ?_
  obtain ⟨o, h5, h6⟩ := bindO hm
  refine g_cut (ι := VL) (fun l_1 => VOK 2 l_1.n l_1.cap (RP.enc o) l_1.sp l_1.q) (fun l_1 => [(5, slv l_1.q l_1.n l_1.cap)]) (fun l_1 => [(b, .cells #[.slice qa0 na0 ca0, .int .i64 s0.wind.lo, .int .i64 s0.wind.hi, .slice qa1 na1 ca1, .slice qa2 na2 ca2] 59 (0, 0))]) (fun l_1 => [⟨25, RP.enc o, l_1.sp, l_1.q⟩]) ?_ ?_
  ·replace hm := h5
   refine g_block ?_
   refine g_loopF (ι := VL) hm (fun s l_2 => VOK 2 l_2.n l_2.cap (RP.enc s.out5) l_2.sp l_2.q) (fun s l_2 => [(1, .slice qa3 na3 ca3), (2, ptr b 0), (5, slv l_2.q l_2.n l_2.cap), (6, .int .i64 s.minute6)]) (fun s l_2 => [(b, .cells #[.slice qa0 na0 ca0, .int .i64 s0.wind.lo, .int .i64 s0.wind.hi, .slice qa1 na1 ca1, .slice qa2 na2 ca2] 59 (0, 0))]) (fun s l_2 => [⟨25, RP.enc s.out5, l_2.sp, l_2.q⟩]) ⟨none, 0, 0, []⟩ (VOK.nil) ((.cons rfl (.cons rfl (.cons rfl (.cons rfl .nil))))) (fun w hh => hh) (fun s l_2 r hpl hm h9 => ?_)
   have h8 := hpl
   unfold m_laurelref01_Spans_L0 at hm
   refine g_seq ?_
   refine g_seq ?_
   refine g_region ?_
   refine g_val rfl rfl rfl (fun _ _ => v_move rfl) ?_
   refine g_val rfl rfl rfl (fun w hh => v_loadAgg (vs := [_, _, _, _, _]) (Try.isAgg59 w) (Try.sizeOf59 w) rfl (hh.cells 0 rfl rfl)) ?_
   obtain ⟨t13, h10, hm⟩ := bindO hm
   refine g_callH [] [] rfl rfl rfl rfl rfl rfl rfl (fun a w => Try.call109 a w) (fun w hh => c_laurelref01_Last s0 qa0 na0 ca0 qa1 na1 ca1 qa2 na2 ca2 w (HV.callee (S0 := []) (vs0 := []) hh (roC (hh.rsep (S0 := []) (vs0 := []) 0 rfl) (roC (hh.rsep (S0 := []) (vs0 := []) 1 rfl) (roC (hh.rsep (S0 := []) (vs0 := []) 2 rfl) roN)))) hna0 hqa0 hla0 hna1 hqa1 hla1 hna2 hqa2 hla2 h10) (fun l_3 h11 => ?_)
   refine g_val rfl rfl rfl (fun _ _ => v_leq rfl rfl) ?_
   refine g_nil ?_
   refine g_n_then ?_
   refine g_cond rfl (fun h12 => ?_) (fun h12 => ?_)
   ·replace hm := ifT (of_decide_eq_true h12) hm
    refine g_skip ?_
    refine g_n_then ?_
    refine g_seq ?_
    obtain ⟨o_1, h13, h14⟩ := bindO hm
    refine g_cut (ι := VL) (fun l_4 => VOK 2 l_4.n l_4.cap (RP.enc o_1) l_4.sp l_4.q) (fun l_4 => [(1, .slice qa3 na3 ca3), (2, ptr b 0), (5, slv l_4.q l_4.n l_4.cap), (6, .int .i64 s.minute6)]) (fun l_4 => [(b, .cells #[.slice qa0 na0 ca0, .int .i64 s0.wind.lo, .int .i64 s0.wind.hi, .slice qa1 na1 ca1, .slice qa2 na2 ca2] 59 (0, 0))]) (fun l_4 => [⟨25, RP.enc o_1, l_4.sp, l_4.q⟩]) ?_ ?_
    ·replace hm := h13
     refine g_block ?_
     refine g_seq ?_
     refine g_region ?_
     refine g_val rfl rfl rfl (fun w hh => v_loadAgg (vs := [_, _, _, _, _]) (Try.isAgg59 w) (Try.sizeOf59 w) rfl (hh.cells 0 rfl rfl)) ?_
     refine g_val rfl rfl rfl (fun _ _ => v_move rfl) ?_
     refine g_val rfl rfl rfl (fun _ _ => v_move rfl) ?_
     obtain ⟨t21, h16, hm⟩ := bindO hm
     refine g_callH [] [] rfl rfl rfl rfl rfl rfl rfl (fun a w => Try.call73 a w) (fun w hh => c_laurelref01_Run s0 says1 s.minute6 qa0 na0 ca0 qa1 na1 ca1 qa2 na2 ca2 qa3 na3 ca3 w (HV.callee (S0 := []) (vs0 := []) hh (roC (hh.rsep (S0 := []) (vs0 := []) 0 rfl) (roC (hh.rsep (S0 := []) (vs0 := []) 1 rfl) (roC (hh.rsep (S0 := []) (vs0 := []) 2 rfl) (roC (hh.rsep (S0 := []) (vs0 := []) 3 rfl) roN))))) hna0 hqa0 hla0 hna1 hqa1 hla1 hna2 hqa2 hla2 hna3 hqa3 hla3 h16) (fun l_5 h17 => ?_)
     refine g_val rfl rfl rfl (fun _ _ => v_move rfl) ?_
     refine g_val rfl rfl rfl (fun _ _ => v_extract rfl rfl) ?_
     refine g_val rfl rfl rfl (fun _ _ => v_extract rfl rfl) ?_
     refine g_allocV (fun w => Try.zeroValue25 w) rfl (fun b_1 h18 => ?_)
     refine g_stSA (us := #[_, _]) (cs' := [_, _]) (S' := [_, _]) 0 (fun w => Try.sizeOf25 w) rfl rfl rfl rfl rfl rfl rfl ?_
     refine g_val rfl rfl rfl (fun _ _ => v_assign rfl) ?_
     refine g_nil ?_
     refine g_n_then ?_
     refine g_seq ?_
     obtain ⟨o_2, h19, h20⟩ := bindO hm
     refine g_cut (ι := Unit) (fun l_6 => True) (fun l_6 => [(1, .slice qa3 na3 ca3), (2, ptr b 0), (5, slv l_2.q l_2.n l_2.cap), (6, .int .i64 s.minute6), (7, ptr b_1 0), (30, .bool o_2)]) (fun l_6 => [(b_1, .cells #[.int .i64 t21.r0.lo, .int .i64 t21.r0.hi] 25 (0, 0)), (b, .cells #[.slice qa0 na0 ca0, .int .i64 s0.wind.lo, .int .i64 s0.wind.hi, .slice qa1 na1 ca1, .slice qa2 na2 ca2] 59 (0, 0))]) (fun l_6 => [⟨25, RP.enc s.out5, l_2.sp, l_2.q⟩]) ?_ ?_
     ·replace hm := h19
      refine g_region ?_
      refine g_val rfl rfl rfl (fun _ _ => v_move rfl) ?_
      refine g_val rfl rfl rfl (fun _ _ => v_move rfl) ?_
      refine g_case 25 rfl (fun h21 => ?_) (fun h21 => ?_)
      ·replace hm := ifT (h21) hm
       refine v_unguard rfl rfl ?_
       refine g_val rfl rfl rfl (fun w _ => v_fieldAddr 0 (Try.runUnderlying25 w) rfl (Try.sizeOf3 w) rfl) ?_
       refine v_unguard rfl rfl ?_
       refine g_val rfl rfl rfl (fun w hh => v_load (Try.isAgg3 w) rfl (hh.cell 0 rfl rfl)) ?_
       refine v_unguard rfl rfl ?_
       refine g_val rfl rfl rfl (fun _ _ => v_move rfl) ?_
       refine v_unguard rfl rfl ?_
       refine g_val rfl rfl rfl (fun _ _ => v_eql rfl rfl) ?_
       refine g_val rfl rfl rfl (fun _ _ => v_pickT rfl rfl) ?_
       refine g_nil ?_
       obtain rfl := Option.some.inj hm
       exact g_leaf () (trivial) ((.cons rfl (.cons rfl (.cons rfl (.cons rfl (.cons rfl (.cons rfl .nil))))))) (fun w hh => hh)
      ·replace hm := ifF ((fun hh => Bool.noConfusion ((h21).symm.trans hh))) hm
       refine g_skipG rfl rfl rfl rfl rfl rfl ?_
       refine g_skipG rfl rfl rfl rfl rfl rfl ?_
       refine g_skipG rfl rfl rfl rfl rfl rfl ?_
       refine g_skipG rfl rfl rfl rfl rfl rfl ?_
       refine g_val rfl rfl rfl (fun _ _ => v_pickF rfl rfl) ?_
       refine g_nil ?_
       obtain rfl := Option.some.inj hm
       exact g_leaf () (trivial) ((.cons rfl (.cons rfl (.cons rfl (.cons rfl (.cons rfl (.cons rfl .nil))))))) (fun w hh => hh)
     ·intro l_6 hj
      replace hm := h20
      refine g_n_then ?_
      refine g_cond rfl (fun h22 => ?_) (fun h22 => ?_)
      ·replace hm := ifT (h22) hm
       refine g_region ?_
       refine g_val rfl rfl rfl (fun _ _ => v_move rfl) ?_
       refine g_val rfl rfl rfl (fun w hh => v_loadAgg (vs := [_, _]) (Try.isAgg25 w) (Try.sizeOf25 w) rfl (hh.cells 0 rfl rfl)) ?_
       refine g_vlit RP [t21.r0] (ps := [(0, _)]) (cells := [_, _]) (fun w => Try.runUnderlying77 w) (fun w => Try.sizeOf25 w) (fun w => Try.zeroValue25 w) rfl rfl rfl rfl rfl rfl rfl rfl (fun L h23 => ?_)
       obtain ⟨t34, h24, hm⟩ := bindO hm
       refine g_vapp RP 1 h24 Try.underlying77 gxinf25 rfl rfl rfl rfl rfl h8 rfl rfl (vlen RP h23 rfl) (AOK.q (vne h23)) (fun w hh => (hh.vsegA 0 rfl h23)) rfl (fun L_1 h25 h25n => ?_)
       refine g_sel (S' := [_, _]) (vs' := [_, _]) [0, 1] [0, 1] 0 (by decide) (by decide) rfl rfl rfl ?_
       refine g_val rfl rfl rfl (fun _ _ => v_assign rfl) ?_
       refine g_nil ?_
       refine g_n_blk ?_
       obtain rfl := Option.some.inj hm
       exact g_leaf L_1 (h25) ((.cons rfl (.cons rfl (.cons rfl (.cons rfl .nil))))) (fun w hh => hh.sel [1] [1] 0 (by decide) (by decide) rfl rfl rfl)
      ·replace hm := ifF ((fun hh => Bool.noConfusion ((h22).symm.trans hh))) hm
       refine g_skip ?_
       refine g_n_blk ?_
       obtain rfl := Option.some.inj hm
       exact g_leaf l_2 (h8) ((.cons rfl (.cons rfl (.cons rfl (.cons rfl .nil))))) (fun w hh => hh.sel [1] [0] 0 (by decide) (by decide) rfl rfl rfl)
    ·intro l_4 hj
     have h15 := hj
     replace hm := h14
     refine g_n_then ?_
     refine g_region ?_
     refine g_val rfl rfl rfl (fun _ _ => v_move rfl) ?_
     obtain ⟨t16, h26, hm⟩ := bindO hm
     refine g_val rfl rfl rfl (fun _ _ => v_addc h26 rfl rfl) ?_
     refine g_val rfl rfl rfl (fun _ _ => v_assign rfl) ?_
     refine g_nil ?_
     obtain rfl := Option.some.inj hm
     refine g_n_then ?_
     exact g_again' _ l_4 rfl (h15) ((.cons rfl (.cons rfl (.cons rfl (.cons rfl .nil))))) (fun w hh => hh)
   ·replace hm := ifF (of_decide_eq_false h12) hm
    refine g_exit ?_
    refine g_x_then ?_
    refine g_x_then ?_
    refine g_x_blk ?_
    obtain rfl := Option.some.inj hm
    have hbo := h9 _ rfl
    subst hbo
    exact g_leaf l_2 (h8) ((.cons rfl .nil)) (fun w hh => hh)
  ·intro l_1 hj
   have h7 := hj
   replace hm := h6
   refine g_n_then ?_
   refine g_seq ?_
   refine g_region ?_
   refine g_val rfl rfl rfl (fun _ _ => v_move rfl) ?_
   refine g_val rfl rfl rfl (fun _ _ => v_assign rfl) ?_
   refine g_nil ?_
   refine g_n_then ?_
   refine g_ret ?_
   obtain rfl := Option.some.inj hm
   refine g_done rfl (fun w hh => (.tmp rfl .nil)) (fun w hh => ⟨l_1, rfl, h7, hh.sel [] [0] 4 (by decide) (by decide) rfl rfl rfl⟩)
end Go.Proofs.Wk
namespace Go.Proofs.Wk
open Go Go.Fw Go.Gx Go.Pl
set_option linter.unusedVariables false
def m_slices_Equal_apiSpanapiSpan_L0 (s10 : (List Span)) (s21 : (List Span)) (s : Int) : Option (Int ⊕ (Unit ⊕ Bool)) :=
 if s < (s10.length : Int) then
 ((ix s10 s).bind fun t18 =>
 (ix s21 s).bind fun t22 =>
 if t18 = (⟨t22.lo, t22.hi⟩ : Span) then
 ((addc s 1).bind fun t25 =>
 some (.inl t25)) else
 (some (.inr (.inr false)))) else
 (some (.inr (.inl ())))
def m_slices_Equal_apiSpanapiSpan (s10 : (List Span)) (s21 : (List Span)) : Option Bool :=
 if (s10.length : Int) = (s21.length : Int) then
 ((iterM FU (m_slices_Equal_apiSpanapiSpan_L0 s10 s21) 0).bind fun o =>
 oc o (fun j => some true) (fun r_1 => some r_1)) else
 (some false)
set_option maxRecDepth 100000 in
set_option maxHeartbeats 4000000 in
theorem c_slices_Equal_apiSpanapiSpan (s10 : (List Span)) (s21 : (List Span)) (qa0 : Option Addr) (na0 ca0 : Nat) (qa1 : Option Addr) (na1 ca1 : Nat) (w : World) (hw : HV w (keys [] []) [] [] [(aB qa0, aO qa0, RP.enc s10), (aB qa1, aO qa1, RP.enc s21)] w) (hna0 : s10.length = na0) (hqa0 : AOK na0 qa0) (hla0 : na0 ≤ ca0) (hna1 : s21.length = na1) (hqa1 : AOK na1 qa1) (hla1 : na1 ≤ ca1) {res : Bool} (hm : m_slices_Equal_apiSpanapiSpan s10 s21 = some res) :
    Calls Try.prog 121 #[.slice qa0 na0 ca0, .slice qa1 na1 ca1] w (fun en w' => ∃ l : Unit, en = .returned (.bool res) ∧ (True) ∧ HV w (keys [] []) [] [] [] w') := by
  unfold m_slices_Equal_apiSpanapiSpan at hm
  refine g_enter (args := [.slice qa0 na0 ca0, .slice qa1 na1 ca1]) Try.func121 rfl Try.ntmps121 rfl (e := [(0, _), (1, _)]) rfl (H := HV w (keys [] []) [] [] [(aB qa0, aO qa0, RP.enc s10), (aB qa1, aO qa1, RP.enc s21)]) hw ?_
  refine g_seq ?_
  refine g_region ?_
  refine g_val rfl rfl rfl (fun _ _ => v_assign rfl) ?_
  refine g_nil ?_
  refine g_n_then ?_
  refine g_seq ?_
  refine g_seq ?_
  refine g_region ?_
  refine g_val rfl rfl rfl (fun _ _ => v_move rfl) ?_
  refine g_val rfl rfl rfl (fun w _ => v_lenR hna0 (Try.runUnderlying77 w) rfl) ?_
  refine g_val rfl rfl rfl (fun _ _ => v_move rfl) ?_
  refine g_val rfl rfl rfl (fun w _ => v_lenR hna1 (Try.runUnderlying77 w) rfl) ?_
  refine g_val rfl rfl rfl (fun _ _ => v_neq rfl rfl) ?_
  refine g_nil ?_
  refine g_n_then ?_
  refine g_cond rfl (fun h1 => ?_) (fun h1 => ?_)
  ·replace hm := ifF (of_ndec_true h1) hm
   refine g_seq ?_
   refine g_region ?_
   refine g_val rfl rfl rfl (fun _ _ => v_assign rfl) ?_
   refine g_nil ?_
   refine g_n_then ?_
   refine g_ret ?_
   refine g_r_then ?_
   obtain rfl := Option.some.inj hm
   refine g_done rfl (fun w hh => (.tmp rfl .nil)) (fun w hh => ⟨(), rfl, trivial, hh.sel [] [] 2 (by decide) (by decide) rfl rfl rfl⟩)
  ·replace hm := ifT (of_ndec_false h1) hm
   refine g_skip ?_
   refine g_n_then ?_
   refine g_seq ?_
   refine g_seq ?_
   refine g_region ?_
   refine g_val rfl rfl rfl (fun _ _ => v_move rfl) ?_
   refine g_val rfl rfl rfl (fun w _ => v_lenR hna0 (Try.runUnderlying77 w) rfl) ?_
   refine g_val rfl rfl rfl (fun _ _ => v_move rfl) ?_
   refine g_nil ?_
   refine g_n_then ?_
   obtain ⟨o, h2, h3⟩ := bindO hm
   refine g_cut (ι := Unit) (fun j => o = .inl j) (fun j => []) (fun j => []) (fun j => []) ?_ ?_
   ·replace hm := h2
    refine g_block ?_
    refine g_loopF (ι := Unit) hm (fun s l => True) (fun s l => [(0, .slice qa0 na0 ca0), (1, .slice qa1 na1 ca1), (12, .int .i64 (s10.length : Int)), (13, .int .i64 s)]) (fun s l => []) (fun s l => []) () (trivial) ((.cons rfl (.cons rfl (.cons rfl (.cons rfl .nil))))) (fun w hh => hh) (fun s l r hpl hm h4 => ?_)
    unfold m_slices_Equal_apiSpanapiSpan_L0 at hm
    refine g_seq ?_
    refine g_region ?_
    refine g_val rfl rfl rfl (fun _ _ => v_lss rfl rfl) ?_
    refine g_nil ?_
    refine g_n_then ?_
    refine g_seq ?_
    refine g_cond rfl (fun h5 => ?_) (fun h5 => ?_)
    ·replace hm := ifT (of_decide_eq_true h5) hm
     refine g_skip ?_
     refine g_n_then ?_
     refine g_seq ?_
     refine g_block ?_
     refine g_seq ?_
     refine g_region ?_
     refine g_val rfl rfl rfl (fun _ _ => v_move rfl) ?_
     refine g_val rfl rfl rfl (fun _ _ => v_assign rfl) ?_
     refine g_nil ?_
     refine g_n_then ?_
     refine g_seq ?_
     refine g_draw none (.free 0 (.free 1 (.free 2 (.hoist 3 (.free 4 (.free 5 (.free 6 (.hoist 7 (.free 8 .done))))))))) _ rfl (by decide +kernel) (fun w k hh => hh.draw k) (fun w hh => hh) ?_
     refine p_free rfl rfl rfl rfl (fun _ _ => v_move rfl) ?_
     refine p_free rfl rfl rfl rfl (fun _ _ => v_move rfl) ?_
     obtain ⟨t18, h6, hm⟩ := bindO hm
     refine p_free rfl rfl rfl rfl (fun w _ => v_ixR h6 (Try.runUnderlying77 w) (Try.sizeOf25 w) rfl rfl hna0 hqa0) ?_
     refine p_hoist rfl rfl rfl rfl (fun w hh => v_ldEA RP 0 [.int .i64 t18.lo, .int .i64 t18.hi] h6 (Try.isAgg25 w) (Try.sizeOf25 w) rfl (hh.seg 0 rfl) rfl (Nat.add_zero _).symm) ?_
     refine p_free rfl rfl rfl rfl (fun _ _ => v_move rfl) ?_
     refine p_free rfl rfl rfl rfl (fun _ _ => v_move rfl) ?_
     obtain ⟨t22, h7, hm⟩ := bindO hm
     refine p_free rfl rfl rfl rfl (fun w _ => v_ixR h7 (Try.runUnderlying77 w) (Try.sizeOf25 w) rfl rfl hna1 hqa1) ?_
     refine p_hoist rfl rfl rfl rfl (fun w hh => v_ldEA RP 0 [.int .i64 t22.lo, .int .i64 t22.hi] h7 (Try.isAgg25 w) (Try.sizeOf25 w) rfl (hh.seg 1 rfl) rfl (Nat.add_zero _).symm) ?_
     refine p_free rfl rfl rfl rfl (fun w _ => v_neqAgg (gxeq25 t18 (⟨t22.lo, t22.hi⟩ : Span) w) gxeqg25 rfl rfl) ?_
     refine p_done ?_
     refine g_n_then ?_
     refine g_cond rfl (fun h8 => ?_) (fun h8 => ?_)
     ·replace hm := ifF (of_ndec_true h8) hm
      refine g_seq ?_
      refine g_region ?_
      refine g_val rfl rfl rfl (fun _ _ => v_assign rfl) ?_
      refine g_nil ?_
      refine g_n_then ?_
      refine g_ret ?_
      refine g_r_blk ?_
      refine g_r_then ?_
      refine g_r_then ?_
      refine g_r_blk ?_
      obtain rfl := Option.some.inj hm
      have hbo := h4 _ rfl
      subst hbo
      refine g_r_then ?_
      replace hm := ocR h3
      refine g_r_then ?_
      obtain rfl := Option.some.inj hm
      refine g_done rfl (fun w hh => (.tmp rfl .nil)) (fun w hh => ⟨(), rfl, trivial, hh.sel [] [] 2 (by decide) (by decide) rfl rfl rfl⟩)
     ·replace hm := ifT (of_ndec_false h8) hm
      refine g_skip ?_
      refine g_n_blk ?_
      refine g_n_then ?_
      refine g_region ?_
      obtain ⟨t25, h9, hm⟩ := bindO hm
      refine g_val rfl rfl rfl (fun _ _ => v_addc h9 rfl rfl) ?_
      refine g_val rfl rfl rfl (fun _ _ => v_move rfl) ?_
      refine g_nil ?_
      obtain rfl := Option.some.inj hm
      refine g_n_then ?_
      exact g_again' _ () rfl (trivial) ((.cons rfl (.cons rfl (.cons rfl (.cons rfl .nil))))) (fun w hh => hh)
    ·replace hm := ifF (of_decide_eq_false h5) hm
     refine g_exit ?_
     refine g_x_then ?_
     refine g_x_then ?_
     refine g_x_blk ?_
     obtain rfl := Option.some.inj hm
     have hbo := h4 _ rfl
     subst hbo
     exact g_leaf () (rfl) (.nil) (fun w hh => hh)
   ·intro j hj
    have h10 := hj
    subst h10
    replace hm := ocL h3
    refine g_n_then ?_
    refine g_seq ?_
    refine g_region ?_
    refine g_val rfl rfl rfl (fun _ _ => v_assign rfl) ?_
    refine g_nil ?_
    refine g_n_then ?_
    refine g_ret ?_
    obtain rfl := Option.some.inj hm
    refine g_done rfl (fun w hh => (.tmp rfl .nil)) (fun w hh => ⟨(), rfl, trivial, hh.sel [] [] 2 (by decide) (by decide) rfl rfl rfl⟩)
end Go.Proofs.Wk
namespace Go.Proofs.Wk
open Go Go.Fw Go.Gx Go.Pl
set_option linter.unusedVariables false
def m_laurelkit_Eq_apiSpan (a0 : (List Span)) (b1 : (List Span)) : Option Bool :=
 (m_slices_Equal_apiSpanapiSpan a0 b1).bind fun t7 =>
 some t7
set_option maxRecDepth 100000 in
set_option maxHeartbeats 4000000 in
theorem c_laurelkit_Eq_apiSpan (a0 : (List Span)) (b1 : (List Span)) (qa0 : Option Addr) (na0 ca0 : Nat) (qa1 : Option Addr) (na1 ca1 : Nat) (w : World) (hw : HV w (keys [] []) [] [] [(aB qa0, aO qa0, RP.enc a0), (aB qa1, aO qa1, RP.enc b1)] w) (hna0 : a0.length = na0) (hqa0 : AOK na0 qa0) (hla0 : na0 ≤ ca0) (hna1 : b1.length = na1) (hqa1 : AOK na1 qa1) (hla1 : na1 ≤ ca1) {res : Bool} (hm : m_laurelkit_Eq_apiSpan a0 b1 = some res) :
    Calls Try.prog 50 #[.slice qa0 na0 ca0, .slice qa1 na1 ca1] w (fun en w' => ∃ l : Unit, en = .returned (.bool res) ∧ (True) ∧ HV w (keys [] []) [] [] [] w') := by
  unfold m_laurelkit_Eq_apiSpan at hm
  refine g_enter (args := [.slice qa0 na0 ca0, .slice qa1 na1 ca1]) Try.func50 rfl Try.ntmps50 rfl (e := [(0, _), (1, _)]) rfl (H := HV w (keys [] []) [] [] [(aB qa0, aO qa0, RP.enc a0), (aB qa1, aO qa1, RP.enc b1)]) hw ?_
  refine g_seq ?_
  refine g_region ?_
  refine g_val rfl rfl rfl (fun _ _ => v_assign rfl) ?_
  refine g_nil ?_
  refine g_n_then ?_
  refine g_seq ?_
  refine g_region ?_
  refine g_val rfl rfl rfl (fun _ _ => v_move rfl) ?_
  refine g_val rfl rfl rfl (fun _ _ => v_move rfl) ?_
  obtain ⟨t7, h1, hm⟩ := bindO hm
  refine g_callH [] [] rfl rfl rfl rfl rfl rfl rfl (fun a w => Try.call121 a w) (fun w hh => c_slices_Equal_apiSpanapiSpan a0 b1 qa0 na0 ca0 qa1 na1 ca1 w (HV.callee (S0 := []) (vs0 := []) hh (roC (hh.rsep (S0 := []) (vs0 := []) 0 rfl) (roC (hh.rsep (S0 := []) (vs0 := []) 1 rfl) roN))) hna0 hqa0 hla0 hna1 hqa1 hla1 h1) (fun l h2 => ?_)
  refine g_val rfl rfl rfl (fun _ _ => v_assign rfl) ?_
  refine g_nil ?_
  refine g_n_then ?_
  refine g_ret ?_
  obtain rfl := Option.some.inj hm
  refine g_done rfl (fun w hh => (.tmp rfl .nil)) (fun w hh => ⟨(), rfl, trivial, hh.sel [] [] 2 (by decide) (by decide) rfl rfl rfl⟩)
end Go.Proofs.Wk
namespace Go.Proofs.Wk
open Go Go.Fw Go.Gx Go.Pl
set_option linter.unusedVariables false
structure m_laurelref01_Ask_R where
  r0 : Look
  r1 : Int
structure m_laurelref01_Ask_C0 where
  few8 : Int
  best7_min : Int
  best7_place : Int
  best7_wet : Bool
structure m_laurelref01_Ask_S0 where
  few8 : Int
  i10 : Int
  best7_min : Int
  best7_place : Int
  best7_wet : Bool
structure m_laurelref01_Ask_C1 where
  few8 : Int
  best7_min : Int
  best7_place : Int
  best7_wet : Bool
structure m_laurelref01_Ask_S1 where
  few8 : Int
  p11 : Int
  best7_min : Int
  best7_place : Int
  best7_wet : Bool
structure m_laurelref01_Ask_C2 where
  few8 : Int
  best7_min : Int
  best7_place : Int
  best7_wet : Bool
structure m_laurelref01_Ask_S2 where
  yes12 : Int
  w13 : Int
def m_laurelref01_Ask_L2 (s0 : Sands) (t27 : (List Int)) (s : m_laurelref01_Ask_S0) (gates1 : (List Int)) (s_1 : m_laurelref01_Ask_S1) (s_2 : m_laurelref01_Ask_S2) : Option (m_laurelref01_Ask_S2 ⊕ Int) :=
 if s_2.w13 ≤ s0.wind.hi then
 (((ix t27 s.i10).bind fun t52 =>
 (addc t52 s_2.w13).bind fun t55 =>
 (ix gates1 s_1.p11).bind fun t58 =>
 if t58 < t55 then
 ((addc s_2.yes12 1).bind fun t62 =>
 some t62) else
 (some s_2.yes12)).bind fun o_4 =>
 (addc s_2.w13 1).bind fun t49 =>
 some (.inl (⟨o_4, t49⟩ : m_laurelref01_Ask_S2))) else
 (some (.inr s_2.yes12))
def m_laurelref01_Ask_L1 (gates1 : (List Int)) (s0 : Sands) (t27 : (List Int)) (s : m_laurelref01_Ask_S0) (t22 : Int) (s_1 : m_laurelref01_Ask_S1) : Option (m_laurelref01_Ask_S1 ⊕ m_laurelref01_Ask_C1) :=
 if s_1.p11 < (gates1.length : Int) then
 (((iterM FU (m_laurelref01_Ask_L2 s0 t27 s gates1 s_1) (⟨0, s0.wind.lo⟩ : m_laurelref01_Ask_S2)).bind fun o_3 =>
 (subc t22 o_3).bind fun t66 =>
 if (max o_3 t66) < s_1.few8 then
 ((m_laurelref01_First s0).bind fun t72 =>
 (addc t72 s.i10).bind fun t74 =>
 some (⟨(max o_3 t66), t74, s_1.p11, true⟩ : m_laurelref01_Ask_C2)) else
 (some (⟨s_1.few8, s_1.best7_min, s_1.best7_place, s_1.best7_wet⟩ : m_laurelref01_Ask_C2))).bind fun o_2 =>
 (addc s_1.p11 1).bind fun t39 =>
 some (.inl (⟨o_2.few8, t39, o_2.best7_min, o_2.best7_place, o_2.best7_wet⟩ : m_laurelref01_Ask_S1))) else
 (some (.inr (⟨s_1.few8, s_1.best7_min, s_1.best7_place, s_1.best7_wet⟩ : m_laurelref01_Ask_C1)))
def m_laurelref01_Ask_L0 (t27 : (List Int)) (gates1 : (List Int)) (s0 : Sands) (t22 : Int) (s : m_laurelref01_Ask_S0) : Option (m_laurelref01_Ask_S0 ⊕ m_laurelref01_Ask_C0) :=
 if s.i10 < (t27.length : Int) then
 ((iterM FU (m_laurelref01_Ask_L1 gates1 s0 t27 s t22) (⟨s.few8, 0, s.best7_min, s.best7_place, s.best7_wet⟩ : m_laurelref01_Ask_S1)).bind fun o_1 =>
 (addc s.i10 1).bind fun t33 =>
 some (.inl (⟨o_1.few8, t33, o_1.best7_min, o_1.best7_place, o_1.best7_wet⟩ : m_laurelref01_Ask_S0))) else
 (some (.inr (⟨s.few8, s.best7_min, s.best7_place, s.best7_wet⟩ : m_laurelref01_Ask_C0)))
def m_laurelref01_Ask (s0 : Sands) (gates1 : (List Int)) : Option m_laurelref01_Ask_R :=
 (subc s0.wind.hi s0.wind.lo).bind fun t21 =>
 (addc t21 1).bind fun t22 =>
 (addc t22 1).bind fun t25 =>
 (m_laurelref01_Heights s0).bind fun t27 =>
 (iterM FU (m_laurelref01_Ask_L0 t27 gates1 s0 t22) (⟨t25, 0, 0, 0, false⟩ : m_laurelref01_Ask_S0)).bind fun o =>
 some (⟨(⟨o.best7_min, o.best7_place, o.best7_wet⟩ : Look), o.few8⟩ : m_laurelref01_Ask_R)
set_option maxRecDepth 100000 in
set_option maxHeartbeats 4000000 in
theorem c_laurelref01_Ask (s0 : Sands) (gates1 : (List Int)) (qa0 : Option Addr) (na0 ca0 : Nat) (qa1 : Option Addr) (na1 ca1 : Nat) (qa2 : Option Addr) (na2 ca2 : Nat) (qa3 : Option Addr) (na3 ca3 : Nat) (w : World) (hw : HV w (keys [] []) [] [] [(aB qa0, aO qa0, RW.enc s0.table), (aB qa1, aO qa1, RI.enc s0.floors), (aB qa2, aO qa2, RS.enc s0.sills), (aB qa3, aO qa3, RI.enc gates1)] w) (hna0 : s0.table.length = na0) (hqa0 : AOK na0 qa0) (hla0 : na0 ≤ ca0) (hna1 : s0.floors.length = na1) (hqa1 : AOK na1 qa1) (hla1 : na1 ≤ ca1) (hna2 : s0.sills.length = na2) (hqa2 : AOK na2 qa2) (hla2 : na2 ≤ ca2) (hna3 : gates1.length = na3) (hqa3 : AOK na3 qa3) (hla3 : na3 ≤ ca3) {res : m_laurelref01_Ask_R} (hm : m_laurelref01_Ask s0 gates1 = some res) :
    Calls Try.prog 61 #[.agg #[.slice qa0 na0 ca0, .int .i64 s0.wind.lo, .int .i64 s0.wind.hi, .slice qa1 na1 ca1, .slice qa2 na2 ca2], .slice qa3 na3 ca3] w (fun en w' => ∃ l : Unit, en = .returned (.tuple #[.agg #[.int .i64 res.r0.min, .int .i64 res.r0.place, .bool res.r0.wet], .int .i64 res.r1]) ∧ (True) ∧ HV w (keys [] []) [] [] [] w') := by
  unfold m_laurelref01_Ask at hm
  refine g_enter (args := [.agg #[.slice qa0 na0 ca0, .int .i64 s0.wind.lo, .int .i64 s0.wind.hi, .slice qa1 na1 ca1, .slice qa2 na2 ca2], .slice qa3 na3 ca3]) Try.func61 rfl Try.ntmps61 rfl (e := [(0, _), (1, _)]) rfl (H := HV w (keys [] []) [] [] [(aB qa0, aO qa0, RW.enc s0.table), (aB qa1, aO qa1, RI.enc s0.floors), (aB qa2, aO qa2, RS.enc s0.sills), (aB qa3, aO qa3, RI.enc gates1)]) hw ?_
  refine g_seq ?_
  refine g_region ?_
  refine g_boxV rfl rfl (fun b h1 => ?_)
  refine g_allocV (fun w => Try.zeroValue101 w) rfl (fun b_1 h2 => ?_)
  refine g_val rfl rfl rfl (fun _ _ => v_assign rfl) ?_
  refine g_nil ?_
  refine g_n_then ?_
  refine g_seq ?_
  refine g_region ?_
  refine g_val rfl rfl rfl (fun w _ => v_fieldAddr 1 (Try.runUnderlying59 w) rfl (Try.sizeOf25 w) rfl) ?_
  refine g_val rfl rfl rfl (fun w _ => v_fieldAddr 1 (Try.runUnderlying25 w) rfl (Try.sizeOf3 w) rfl) ?_
  refine g_val rfl rfl rfl (fun w hh => v_load (Try.isAgg3 w) rfl (hh.cell 1 rfl rfl)) ?_
  refine g_val rfl rfl rfl (fun w _ => v_fieldAddr 1 (Try.runUnderlying59 w) rfl (Try.sizeOf25 w) rfl) ?_
  refine g_val rfl rfl rfl (fun w _ => v_fieldAddr 0 (Try.runUnderlying25 w) rfl (Try.sizeOf3 w) rfl) ?_
  refine g_val rfl rfl rfl (fun w hh => v_load (Try.isAgg3 w) rfl (hh.cell 1 rfl rfl)) ?_
  obtain ⟨t21, h3, hm⟩ := bindO hm
  refine g_val rfl rfl rfl (fun _ _ => v_subc h3 rfl rfl) ?_
  obtain ⟨t22, h4, hm⟩ := bindO hm
  refine g_val rfl rfl rfl (fun _ _ => v_addc h4 rfl rfl) ?_
  refine g_val rfl rfl rfl (fun _ _ => v_assign rfl) ?_
  refine g_nil ?_
  refine g_n_then ?_
  refine g_seq ?_
  refine g_region ?_
  refine g_val rfl rfl rfl (fun _ _ => v_build (vs := []) (cells := [_, _, _]) rfl rfl) ?_
  refine g_val rfl rfl rfl (fun _ _ => v_move rfl) ?_
  obtain ⟨t25, h5, hm⟩ := bindO hm
  refine g_val rfl rfl rfl (fun _ _ => v_addc h5 rfl rfl) ?_
  refine g_allocV (fun w => Try.zeroValue101 w) rfl (fun b_2 h6 => ?_)
  refine g_stSA (us := #[_, _, _]) (cs' := [_, _, _]) (S' := [_, _, _]) 0 (fun w => Try.sizeOf101 w) rfl rfl rfl rfl rfl rfl rfl ?_
  refine g_val rfl rfl rfl (fun _ _ => v_assign rfl) ?_
  refine g_nil ?_
  refine g_n_then ?_
  refine g_seq ?_
  refine g_region ?_
  refine g_val rfl rfl rfl (fun w hh => v_loadAgg (vs := [_, _, _, _, _]) (Try.isAgg59 w) (Try.sizeOf59 w) rfl (hh.cells 2 rfl rfl)) ?_
  obtain ⟨t27, h7, hm⟩ := bindO hm
  refine g_callH [] [] rfl rfl rfl rfl rfl rfl rfl (fun a w => Try.call120 a w) (fun w hh => c_laurelref01_Heights s0 qa0 na0 ca0 qa1 na1 ca1 qa2 na2 ca2 w (HV.callee (S0 := []) (vs0 := []) hh (roC (hh.rsep (S0 := []) (vs0 := []) 0 rfl) (roC (hh.rsep (S0 := []) (vs0 := []) 1 rfl) (roC (hh.rsep (S0 := []) (vs0 := []) 2 rfl) roN)))) hna0 hqa0 hla0 hna1 hqa1 hla1 hna2 hqa2 hla2 h7) (fun l h8 => ?_)
  have h9 := h8
  refine g_sel (S' := [_, _, _]) (vs' := [_]) [0, 1, 2] [0] 0 (by decide) (by decide) rfl rfl rfl ?_
  refine g_val rfl rfl rfl (fun _ _ => v_assign rfl) ?_
  refine g_nil ?_
  refine g_n_then ?_
  refine g_seq ?_
  refine g_seq ?_
  refine g_region ?_
  refine g_val rfl rfl rfl (fun _ _ => v_assign rfl) ?_
  refine g_nil ?_
  refine g_n_then ?_
  obtain ⟨o, h10, h11⟩ := bindO hm
  refine g_cut (ι := Unit) (fun l_1 => True) (fun l_1 => [(4, ptr b_1 0), (7, ptr b_2 0), (8, .int .i64 o.few8)]) (fun l_1 => [(b_2, .cells #[.int .i64 o.best7_min, .int .i64 o.best7_place, .bool o.best7_wet] 101 (0, 0)), (b_1, .cells #[.int .i64 0, .int .i64 0, .bool false] 101 (0, 0)), (b, .cells #[.slice qa0 na0 ca0, .int .i64 s0.wind.lo, .int .i64 s0.wind.hi, .slice qa1 na1 ca1, .slice qa2 na2 ca2] 59 (0, 0))]) (fun l_1 => []) ?_ ?_
  ·replace hm := h10
   refine g_block ?_
   refine g_loopF (ι := Unit) hm (fun s l_2 => True) (fun s l_2 => [(1, .slice qa3 na3 ca3), (2, ptr b 0), (4, ptr b_1 0), (6, .int .i64 t22), (7, ptr b_2 0), (8, .int .i64 s.few8), (9, slv l.q l.n l.cap), (10, .int .i64 s.i10)]) (fun s l_2 => [(b_2, .cells #[.int .i64 s.best7_min, .int .i64 s.best7_place, .bool s.best7_wet] 101 (0, 0)), (b_1, .cells #[.int .i64 0, .int .i64 0, .bool false] 101 (0, 0)), (b, .cells #[.slice qa0 na0 ca0, .int .i64 s0.wind.lo, .int .i64 s0.wind.hi, .slice qa1 na1 ca1, .slice qa2 na2 ca2] 59 (0, 0))]) (fun s l_2 => [⟨3, RI.enc t27, l.sp, l.q⟩]) () (trivial) ((.cons rfl (.cons rfl (.cons rfl (.cons rfl (.cons rfl (.cons rfl (.cons rfl (.cons rfl .nil))))))))) (fun w hh => hh) (fun s l_2 r hpl hm h12 => ?_)
   unfold m_laurelref01_Ask_L0 at hm
   refine g_seq ?_
   refine g_seq ?_
   refine g_region ?_
   refine g_val rfl rfl rfl (fun _ _ => v_move rfl) ?_
   refine g_val rfl rfl rfl (fun _ _ => v_move rfl) ?_
   refine g_val rfl rfl rfl (fun w _ => v_lenN (vlen RI h9 rfl) (Try.runUnderlying26 w) rfl) ?_
   refine g_val rfl rfl rfl (fun _ _ => v_lss rfl rfl) ?_
   refine g_nil ?_
   refine g_n_then ?_
   refine g_cond rfl (fun h13 => ?_) (fun h13 => ?_)
   ·replace hm := ifT (of_decide_eq_true h13) hm
    refine g_skip ?_
    refine g_n_then ?_
    refine g_seq ?_
    refine g_block ?_
    refine g_seq ?_
    refine g_region ?_
    refine g_val rfl rfl rfl (fun _ _ => v_assign rfl) ?_
    refine g_nil ?_
    refine g_n_then ?_
    obtain ⟨o_1, h14, h15⟩ := bindO hm
    refine g_cut (ι := Unit) (fun l_3 => True) (fun l_3 => [(1, .slice qa3 na3 ca3), (2, ptr b 0), (4, ptr b_1 0), (6, .int .i64 t22), (7, ptr b_2 0), (8, .int .i64 o_1.few8), (9, slv l.q l.n l.cap), (10, .int .i64 s.i10)]) (fun l_3 => [(b_2, .cells #[.int .i64 o_1.best7_min, .int .i64 o_1.best7_place, .bool o_1.best7_wet] 101 (0, 0)), (b_1, .cells #[.int .i64 0, .int .i64 0, .bool false] 101 (0, 0)), (b, .cells #[.slice qa0 na0 ca0, .int .i64 s0.wind.lo, .int .i64 s0.wind.hi, .slice qa1 na1 ca1, .slice qa2 na2 ca2] 59 (0, 0))]) (fun l_3 => [⟨3, RI.enc t27, l.sp, l.q⟩]) ?_ ?_
    ·replace hm := h14
     refine g_block ?_
     refine g_loopF (ι := Unit) hm (fun s_1 l_4 => True) (fun s_1 l_4 => [(1, .slice qa3 na3 ca3), (2, ptr b 0), (4, ptr b_1 0), (6, .int .i64 t22), (7, ptr b_2 0), (8, .int .i64 s_1.few8), (9, slv l.q l.n l.cap), (10, .int .i64 s.i10), (11, .int .i64 s_1.p11)]) (fun s_1 l_4 => [(b_2, .cells #[.int .i64 s_1.best7_min, .int .i64 s_1.best7_place, .bool s_1.best7_wet] 101 (0, 0)), (b_1, .cells #[.int .i64 0, .int .i64 0, .bool false] 101 (0, 0)), (b, .cells #[.slice qa0 na0 ca0, .int .i64 s0.wind.lo, .int .i64 s0.wind.hi, .slice qa1 na1 ca1, .slice qa2 na2 ca2] 59 (0, 0))]) (fun s_1 l_4 => [⟨3, RI.enc t27, l.sp, l.q⟩]) () (trivial) ((.cons rfl (.cons rfl (.cons rfl (.cons rfl (.cons rfl (.cons rfl (.cons rfl (.cons rfl (.cons rfl .nil)))))))))) (fun w hh => hh) (fun s_1 l_4 r_1 hpl hm h16 => ?_)
     unfold m_laurelref01_Ask_L1 at hm
     refine g_seq ?_
     refine g_seq ?_
     refine g_region ?_
     refine g_val rfl rfl rfl (fun _ _ => v_move rfl) ?_
     refine g_val rfl rfl rfl (fun _ _ => v_move rfl) ?_
     refine g_val rfl rfl rfl (fun w _ => v_lenR hna3 (Try.runUnderlying26 w) rfl) ?_
     refine g_val rfl rfl rfl (fun _ _ => v_lss rfl rfl) ?_
     refine g_nil ?_
     refine g_n_then ?_
     refine g_cond rfl (fun h17 => ?_) (fun h17 => ?_)
     ·replace hm := ifT (of_decide_eq_true h17) hm
      refine g_skip ?_
      refine g_n_then ?_
      refine g_seq ?_
      obtain ⟨o_2, h18, h19⟩ := bindO hm
      refine g_cut (ι := Unit) (fun l_5 => True) (fun l_5 => [(1, .slice qa3 na3 ca3), (2, ptr b 0), (4, ptr b_1 0), (6, .int .i64 t22), (7, ptr b_2 0), (8, .int .i64 o_2.few8), (9, slv l.q l.n l.cap), (10, .int .i64 s.i10), (11, .int .i64 s_1.p11)]) (fun l_5 => [(b_2, .cells #[.int .i64 o_2.best7_min, .int .i64 o_2.best7_place, .bool o_2.best7_wet] 101 (0, 0)), (b_1, .cells #[.int .i64 0, .int .i64 0, .bool false] 101 (0, 0)), (b, .cells #[.slice qa0 na0 ca0, .int .i64 s0.wind.lo, .int .i64 s0.wind.hi, .slice qa1 na1 ca1, .slice qa2 na2 ca2] 59 (0, 0))]) (fun l_5 => [⟨3, RI.enc t27, l.sp, l.q⟩]) ?_ ?_
      ·replace hm := h18
       refine g_block ?_
       refine g_seq ?_
       refine g_region ?_
       refine g_val rfl rfl rfl (fun _ _ => v_assign rfl) ?_
       refine g_nil ?_
       refine g_n_then ?_
       refine g_seq ?_
       refine g_seq ?_
       refine g_region ?_
       refine g_val rfl rfl rfl (fun w _ => v_fieldAddr 1 (Try.runUnderlying59 w) rfl (Try.sizeOf25 w) rfl) ?_
       refine g_val rfl rfl rfl (fun w _ => v_fieldAddr 0 (Try.runUnderlying25 w) rfl (Try.sizeOf3 w) rfl) ?_
       refine g_val rfl rfl rfl (fun w hh => v_load (Try.isAgg3 w) rfl (hh.cell 2 rfl rfl)) ?_
       refine g_val rfl rfl rfl (fun _ _ => v_assign rfl) ?_
       refine g_nil ?_
       refine g_n_then ?_
       obtain ⟨o_3, h20, h21⟩ := bindO hm
       refine g_cut (ι := Unit) (fun l_6 => True) (fun l_6 => [(1, .slice qa3 na3 ca3), (2, ptr b 0), (4, ptr b_1 0), (6, .int .i64 t22), (7, ptr b_2 0), (8, .int .i64 s_1.few8), (9, slv l.q l.n l.cap), (10, .int .i64 s.i10), (11, .int .i64 s_1.p11), (12, .int .i64 o_3)]) (fun l_6 => [(b_2, .cells #[.int .i64 s_1.best7_min, .int .i64 s_1.best7_place, .bool s_1.best7_wet] 101 (0, 0)), (b_1, .cells #[.int .i64 0, .int .i64 0, .bool false] 101 (0, 0)), (b, .cells #[.slice qa0 na0 ca0, .int .i64 s0.wind.lo, .int .i64 s0.wind.hi, .slice qa1 na1 ca1, .slice qa2 na2 ca2] 59 (0, 0))]) (fun l_6 => [⟨3, RI.enc t27, l.sp, l.q⟩]) ?_ ?_
       ·replace hm := h20
        refine g_block ?_
        refine g_loopF (ι := Unit) hm (fun s_2 l_7 => True) (fun s_2 l_7 => [(1, .slice qa3 na3 ca3), (2, ptr b 0), (4, ptr b_1 0), (6, .int .i64 t22), (7, ptr b_2 0), (8, .int .i64 s_1.few8), (9, slv l.q l.n l.cap), (10, .int .i64 s.i10), (11, .int .i64 s_1.p11), (12, .int .i64 s_2.yes12), (13, .int .i64 s_2.w13)]) (fun s_2 l_7 => [(b_2, .cells #[.int .i64 s_1.best7_min, .int .i64 s_1.best7_place, .bool s_1.best7_wet] 101 (0, 0)), (b_1, .cells #[.int .i64 0, .int .i64 0, .bool false] 101 (0, 0)), (b, .cells #[.slice qa0 na0 ca0, .int .i64 s0.wind.lo, .int .i64 s0.wind.hi, .slice qa1 na1 ca1, .slice qa2 na2 ca2] 59 (0, 0))]) (fun s_2 l_7 => [⟨3, RI.enc t27, l.sp, l.q⟩]) () (trivial) ((.cons rfl (.cons rfl (.cons rfl (.cons rfl (.cons rfl (.cons rfl (.cons rfl (.cons rfl (.cons rfl (.cons rfl (.cons rfl .nil)))))))))))) (fun w hh => hh) (fun s_2 l_7 r_2 hpl hm h22 => ?_)
        unfold m_laurelref01_Ask_L2 at hm
        refine g_seq ?_
        refine g_seq ?_
        refine g_region ?_
        refine g_val rfl rfl rfl (fun _ _ => v_move rfl) ?_
        refine g_val rfl rfl rfl (fun w _ => v_fieldAddr 1 (Try.runUnderlying59 w) rfl (Try.sizeOf25 w) rfl) ?_
        refine g_val rfl rfl rfl (fun w _ => v_fieldAddr 1 (Try.runUnderlying25 w) rfl (Try.sizeOf3 w) rfl) ?_
        refine g_val rfl rfl rfl (fun w hh => v_load (Try.isAgg3 w) rfl (hh.cell 2 rfl rfl)) ?_
        refine g_val rfl rfl rfl (fun _ _ => v_leq rfl rfl) ?_
        refine g_nil ?_
        refine g_n_then ?_
        refine g_cond rfl (fun h23 => ?_) (fun h23 => ?_)
        ·replace hm := ifT (of_decide_eq_true h23) hm
         refine g_skip ?_
         refine g_n_then ?_
         refine g_seq ?_
         obtain ⟨o_4, h24, h25⟩ := bindO hm
         refine g_cut (ι := Unit) (fun l_8 => True) (fun l_8 => [(1, .slice qa3 na3 ca3), (2, ptr b 0), (4, ptr b_1 0), (6, .int .i64 t22), (7, ptr b_2 0), (8, .int .i64 s_1.few8), (9, slv l.q l.n l.cap), (10, .int .i64 s.i10), (11, .int .i64 s_1.p11), (12, .int .i64 o_4), (13, .int .i64 s_2.w13)]) (fun l_8 => [(b_2, .cells #[.int .i64 s_1.best7_min, .int .i64 s_1.best7_place, .bool s_1.best7_wet] 101 (0, 0)), (b_1, .cells #[.int .i64 0, .int .i64 0, .bool false] 101 (0, 0)), (b, .cells #[.slice qa0 na0 ca0, .int .i64 s0.wind.lo, .int .i64 s0.wind.hi, .slice qa1 na1 ca1, .slice qa2 na2 ca2] 59 (0, 0))]) (fun l_8 => [⟨3, RI.enc t27, l.sp, l.q⟩]) ?_ ?_
         ·replace hm := h24
          refine g_block ?_
          refine g_seq ?_
          refine g_draw none (.free 0 (.free 1 (.free 2 (.hoist 3 (.free 4 (.free 5 (.free 6 (.free 7 (.free 8 (.hoist 9 (.free 10 .done))))))))))) _ rfl (by decide +kernel) (fun w k hh => hh.draw k) (fun w hh => hh) ?_
          refine p_free rfl rfl rfl rfl (fun _ _ => v_move rfl) ?_
          refine p_free rfl rfl rfl rfl (fun _ _ => v_move rfl) ?_
          obtain ⟨t52, h26, hm⟩ := bindO hm
          refine p_free rfl rfl rfl rfl (fun w _ => v_ixA h26 (Try.runUnderlying26 w) (Try.sizeOf3 w) rfl rfl (vlen RI h9 rfl) (vne h9)) ?_
          refine p_hoist rfl rfl rfl rfl (fun w hh => v_ldE RI 0 h26 (Try.isAgg3 w) rfl (hh.vseg 0 rfl h9) rfl (Nat.add_zero _).symm) ?_
          refine p_free rfl rfl rfl rfl (fun _ _ => v_move rfl) ?_
          obtain ⟨t55, h27, hm⟩ := bindO hm
          refine p_free rfl rfl rfl rfl (fun _ _ => v_addc h27 rfl rfl) ?_
          refine p_free rfl rfl rfl rfl (fun _ _ => v_move rfl) ?_
          refine p_free rfl rfl rfl rfl (fun _ _ => v_move rfl) ?_
          obtain ⟨t58, h28, hm⟩ := bindO hm
          refine p_free rfl rfl rfl rfl (fun w _ => v_ixR h28 (Try.runUnderlying26 w) (Try.sizeOf3 w) rfl rfl hna3 hqa3) ?_
          refine p_hoist rfl rfl rfl rfl (fun w hh => v_ldE RI 0 h28 (Try.isAgg3 w) rfl (hh.seg 3 rfl) rfl (Nat.add_zero _).symm) ?_
          refine p_free rfl rfl rfl rfl (fun _ _ => v_gtr rfl rfl) ?_
          refine p_done ?_
          refine g_n_then ?_
          refine g_cond rfl (fun h29 => ?_) (fun h29 => ?_)
          ·replace hm := ifT (of_decide_eq_true h29) hm
           refine g_region ?_
           refine g_val rfl rfl rfl (fun _ _ => v_move rfl) ?_
           obtain ⟨t62, h30, hm⟩ := bindO hm
           refine g_val rfl rfl rfl (fun _ _ => v_addc h30 rfl rfl) ?_
           refine g_val rfl rfl rfl (fun _ _ => v_assign rfl) ?_
           refine g_nil ?_
           refine g_n_blk ?_
           obtain rfl := Option.some.inj hm
           exact g_leaf () (trivial) ((.cons rfl (.cons rfl (.cons rfl (.cons rfl (.cons rfl (.cons rfl (.cons rfl (.cons rfl (.cons rfl (.cons rfl (.cons rfl .nil)))))))))))) (fun w hh => hh)
          ·replace hm := ifF (of_decide_eq_false h29) hm
           refine g_skip ?_
           refine g_n_blk ?_
           obtain rfl := Option.some.inj hm
           exact g_leaf () (trivial) ((.cons rfl (.cons rfl (.cons rfl (.cons rfl (.cons rfl (.cons rfl (.cons rfl (.cons rfl (.cons rfl (.cons rfl (.cons rfl .nil)))))))))))) (fun w hh => hh)
         ·intro l_8 hj
          replace hm := h25
          refine g_n_then ?_
          refine g_region ?_
          refine g_val rfl rfl rfl (fun _ _ => v_move rfl) ?_
          obtain ⟨t49, h31, hm⟩ := bindO hm
          refine g_val rfl rfl rfl (fun _ _ => v_addc h31 rfl rfl) ?_
          refine g_val rfl rfl rfl (fun _ _ => v_assign rfl) ?_
          refine g_nil ?_
          obtain rfl := Option.some.inj hm
          refine g_n_then ?_
          exact g_again' _ () rfl (trivial) ((.cons rfl (.cons rfl (.cons rfl (.cons rfl (.cons rfl (.cons rfl (.cons rfl (.cons rfl (.cons rfl (.cons rfl (.cons rfl .nil)))))))))))) (fun w hh => hh)
        ·replace hm := ifF (of_decide_eq_false h23) hm
         refine g_exit ?_
         refine g_x_then ?_
         refine g_x_then ?_
         refine g_x_blk ?_
         obtain rfl := Option.some.inj hm
         have hbo := h22 _ rfl
         subst hbo
         exact g_leaf () (trivial) ((.cons rfl (.cons rfl (.cons rfl (.cons rfl (.cons rfl (.cons rfl (.cons rfl (.cons rfl (.cons rfl (.cons rfl .nil))))))))))) (fun w hh => hh)
       ·intro l_6 hj
        replace hm := h21
        refine g_n_then ?_
        refine g_seq ?_
        refine g_region ?_
        refine g_val rfl rfl rfl (fun _ _ => v_move rfl) ?_
        refine g_val rfl rfl rfl (fun _ _ => v_move rfl) ?_
        refine g_val rfl rfl rfl (fun _ _ => v_move rfl) ?_
        obtain ⟨t66, h32, hm⟩ := bindO hm
        refine g_val rfl rfl rfl (fun _ _ => v_subc h32 rfl rfl) ?_
        refine g_val rfl rfl rfl (fun _ _ => v_max rfl rfl) ?_
        refine g_val rfl rfl rfl (fun _ _ => v_assign rfl) ?_
        refine g_nil ?_
        refine g_n_then ?_
        refine g_seq ?_
        refine g_region ?_
        refine g_val rfl rfl rfl (fun _ _ => v_move rfl) ?_
        refine g_val rfl rfl rfl (fun _ _ => v_move rfl) ?_
        refine g_val rfl rfl rfl (fun _ _ => v_lss rfl rfl) ?_
        refine g_nil ?_
        refine g_n_then ?_
        refine g_cond rfl (fun h33 => ?_) (fun h33 => ?_)
        ·replace hm := ifT (of_decide_eq_true h33) hm
         refine g_region ?_
         refine g_val rfl rfl rfl (fun w hh => v_loadAgg (vs := [_, _, _, _, _]) (Try.isAgg59 w) (Try.sizeOf59 w) rfl (hh.cells 2 rfl rfl)) ?_
         obtain ⟨t72, h34, hm⟩ := bindO hm
         refine g_callH [] [] rfl rfl rfl rfl rfl rfl rfl (fun a w => Try.call108 a w) (fun w hh => c_laurelref01_First s0 qa0 na0 ca0 qa1 na1 ca1 qa2 na2 ca2 w (HV.callee (S0 := []) (vs0 := []) hh (roC (hh.rsep (S0 := []) (vs0 := []) 0 rfl) (roC (hh.rsep (S0 := []) (vs0 := []) 1 rfl) (roC (hh.rsep (S0 := []) (vs0 := []) 2 rfl) roN)))) hna0 hqa0 hla0 hna1 hqa1 hla1 hna2 hqa2 hla2 h34) (fun l_9 h35 => ?_)
         refine g_val rfl rfl rfl (fun _ _ => v_move rfl) ?_
         obtain ⟨t74, h36, hm⟩ := bindO hm
         refine g_val rfl rfl rfl (fun _ _ => v_addc h36 rfl rfl) ?_
         refine g_val rfl rfl rfl (fun _ _ => v_move rfl) ?_
         refine g_val rfl rfl rfl (fun _ _ => v_build (vs := [(0, _), (1, _), (2, _)]) (cells := [_, _, _]) rfl rfl) ?_
         refine g_val rfl rfl rfl (fun _ _ => v_move rfl) ?_
         refine g_stSA (us := #[_, _, _]) (cs' := [_, _, _]) (S' := [_, _, _]) 0 (fun w => Try.sizeOf101 w) rfl rfl rfl rfl rfl rfl rfl ?_
         refine g_val rfl rfl rfl (fun _ _ => v_assign rfl) ?_
         refine g_nil ?_
         refine g_n_blk ?_
         obtain rfl := Option.some.inj hm
         exact g_leaf () (trivial) ((.cons rfl (.cons rfl (.cons rfl (.cons rfl (.cons rfl (.cons rfl (.cons rfl (.cons rfl (.cons rfl .nil)))))))))) (fun w hh => hh)
        ·replace hm := ifF (of_decide_eq_false h33) hm
         refine g_skip ?_
         refine g_n_blk ?_
         obtain rfl := Option.some.inj hm
         exact g_leaf () (trivial) ((.cons rfl (.cons rfl (.cons rfl (.cons rfl (.cons rfl (.cons rfl (.cons rfl (.cons rfl (.cons rfl .nil)))))))))) (fun w hh => hh)
      ·intro l_5 hj
       replace hm := h19
       refine g_n_then ?_
       refine g_region ?_
       refine g_val rfl rfl rfl (fun _ _ => v_move rfl) ?_
       obtain ⟨t39, h37, hm⟩ := bindO hm
       refine g_val rfl rfl rfl (fun _ _ => v_addc h37 rfl rfl) ?_
       refine g_val rfl rfl rfl (fun _ _ => v_assign rfl) ?_
       refine g_nil ?_
       obtain rfl := Option.some.inj hm
       refine g_n_then ?_
       exact g_again' _ () rfl (trivial) ((.cons rfl (.cons rfl (.cons rfl (.cons rfl (.cons rfl (.cons rfl (.cons rfl (.cons rfl (.cons rfl .nil)))))))))) (fun w hh => hh)
     ·replace hm := ifF (of_decide_eq_false h17) hm
      refine g_exit ?_
      refine g_x_then ?_
      refine g_x_then ?_
      refine g_x_blk ?_
      obtain rfl := Option.some.inj hm
      have hbo := h16 _ rfl
      subst hbo
      exact g_leaf () (trivial) ((.cons rfl (.cons rfl (.cons rfl (.cons rfl (.cons rfl (.cons rfl (.cons rfl (.cons rfl .nil))))))))) (fun w hh => hh)
    ·intro l_3 hj
     replace hm := h15
     refine g_n_blk ?_
     refine g_n_then ?_
     refine g_region ?_
     refine g_val rfl rfl rfl (fun _ _ => v_move rfl) ?_
     obtain ⟨t33, h38, hm⟩ := bindO hm
     refine g_val rfl rfl rfl (fun _ _ => v_addc h38 rfl rfl) ?_
     refine g_val rfl rfl rfl (fun _ _ => v_assign rfl) ?_
     refine g_nil ?_
     obtain rfl := Option.some.inj hm
     refine g_n_then ?_
     exact g_again' _ () rfl (trivial) ((.cons rfl (.cons rfl (.cons rfl (.cons rfl (.cons rfl (.cons rfl (.cons rfl (.cons rfl .nil))))))))) (fun w hh => hh)
   ·replace hm := ifF (of_decide_eq_false h13) hm
    refine g_exit ?_
    refine g_x_then ?_
    refine g_x_then ?_
    refine g_x_blk ?_
    obtain rfl := Option.some.inj hm
    have hbo := h12 _ rfl
    subst hbo
    exact g_leaf () (trivial) ((.cons rfl (.cons rfl (.cons rfl .nil)))) (fun w hh => hh.sel [0, 1, 2] [] 0 (by decide) (by decide) rfl rfl rfl)
  ·intro l_1 hj
   replace hm := h11
   refine g_n_then ?_
   refine g_seq ?_
   refine g_region ?_
   refine g_val rfl rfl rfl (fun w hh => v_loadAgg (vs := [_, _, _]) (Try.isAgg101 w) (Try.sizeOf101 w) rfl (hh.cells 0 rfl rfl)) ?_
   refine g_val rfl rfl rfl (fun _ _ => v_move rfl) ?_
   refine g_stSA (us := #[_, _, _]) (cs' := [_, _, _]) (S' := [_, _, _]) 1 (fun w => Try.sizeOf101 w) rfl rfl rfl rfl rfl rfl rfl ?_
   refine g_val rfl rfl rfl (fun _ _ => v_assign rfl) ?_
   refine g_nil ?_
   refine g_n_then ?_
   refine g_ret ?_
   obtain rfl := Option.some.inj hm
   refine g_done rfl (fun w hh => (.cell rfl (loadVar_agg (vs := [_, _, _]) (Try.isAgg101 _) (Try.sizeOf101 _) (hh.cells 1 rfl rfl)) (.tmp rfl .nil))) (fun w hh => ⟨(), rfl, trivial, hh.sel [] [] 4 (by decide) (by decide) rfl rfl rfl⟩)
end Go.Proofs.Wk
namespace Go.Proofs.Wk
open Go Go.Fw Go.Gx Go.Pl
set_option linter.unusedVariables false
structure m_tide_Ask_1_R where
  r0 : Look
  r1 : Int
  r2 : Int
structure m_tide_Ask_1_C0 where
  least9 : Int
  best8_min : Int
  best8_place : Int
  best8_wet : Bool
structure m_tide_Ask_1_S0 where
  least9 : Int
  minute10 : Int
  best8_min : Int
  best8_place : Int
  best8_wet : Bool
structure m_tide_Ask_1_C1 where
  least9 : Int
  best8_min : Int
  best8_place : Int
  best8_wet : Bool
structure m_tide_Ask_1_S1 where
  least9 : Int
  t61 : Int
  best8_min : Int
  best8_place : Int
  best8_wet : Bool
structure m_tide_Ask_1_C2 where
  least9 : Int
  best8_min : Int
  best8_place : Int
  best8_wet : Bool
def m_tide_Ask_1_L1 (s0 : Sands) (s : m_tide_Ask_1_S0) (t38 : Int) (s_1 : m_tide_Ask_1_S1) : Option (m_tide_Ask_1_S1 ⊕ m_tide_Ask_1_C1) :=
 if s_1.t61 < (s0.floors.length : Int) then
 (((x_left s0  [(⟨s.minute10, s_1.t61, true⟩ : Look)]).bind fun t70 =>
 (subc t70.hi t70.lo).bind fun t75 =>
 (addc t75 1).bind fun t76 =>
 (subc t38 (max 0 t76)).bind fun t81 =>
 if (max (max 0 t76) t81) < s_1.least9 then
 (some (⟨(max (max 0 t76) t81), s.minute10, s_1.t61, true⟩ : m_tide_Ask_1_C2)) else
 (some (⟨s_1.least9, s_1.best8_min, s_1.best8_place, s_1.best8_wet⟩ : m_tide_Ask_1_C2))).bind fun o_2 =>
 (addc s_1.t61 1).bind fun t88 =>
 some (.inl (⟨o_2.least9, t88, o_2.best8_min, o_2.best8_place, o_2.best8_wet⟩ : m_tide_Ask_1_S1))) else
 (some (.inr (⟨s_1.least9, s_1.best8_min, s_1.best8_place, s_1.best8_wet⟩ : m_tide_Ask_1_C1)))
def m_tide_Ask_1_L0 (s0 : Sands) (t38 : Int) (s : m_tide_Ask_1_S0) : Option (m_tide_Ask_1_S0 ⊕ m_tide_Ask_1_C0) :=
 (x_day s0 s.minute10).bind fun t55 =>
 if t55 = true then
 ((iterM FU (m_tide_Ask_1_L1 s0 s t38) (⟨s.least9, 0, s.best8_min, s.best8_place, s.best8_wet⟩ : m_tide_Ask_1_S1)).bind fun o_1 =>
 (addc s.minute10 1).bind fun t57 =>
 some (.inl (⟨o_1.least9, t57, o_1.best8_min, o_1.best8_place, o_1.best8_wet⟩ : m_tide_Ask_1_S0))) else
 (some (.inr (⟨s.least9, s.best8_min, s.best8_place, s.best8_wet⟩ : m_tide_Ask_1_C0)))
def m_tide_Ask_1 (s0 : Sands) : Option m_tide_Ask_1_R :=
 if s0.table.length ≤ 8796093022208 ∧ s0.floors.length ≤ 17592186044416 ∧ s0.sills.length ≤ 5864062014805 then (if check s0 = 0 then
 ((subc s0.wind.hi s0.wind.lo).bind fun t37 =>
 (addc t37 1).bind fun t38 =>
 if t38 = 1 then
 (some (⟨(⟨0, 0, false⟩ : Look), 0, 6⟩ : m_tide_Ask_1_R)) else
 ((addc t38 1).bind fun t44 =>
 (ix s0.table 0).bind fun t50 =>
 (iterM FU (m_tide_Ask_1_L0 s0 t38) (⟨t44, t50.min, 0, 0, false⟩ : m_tide_Ask_1_S0)).bind fun o =>
 some (⟨(⟨o.best8_min, o.best8_place, o.best8_wet⟩ : Look), o.least9, 0⟩ : m_tide_Ask_1_R))) else
 (some (⟨(⟨0, 0, false⟩ : Look), 0, (check s0)⟩ : m_tide_Ask_1_R))) else none
set_option maxRecDepth 100000 in
set_option maxHeartbeats 4000000 in
theorem c_tide_Ask_1 (s0 : Sands) (qa0 : Option (Nat × Nat)) (na0 ca0 : Nat) (qa1 : Option (Nat × Nat)) (na1 ca1 : Nat) (qa2 : Option (Nat × Nat)) (na2 ca2 : Nat) (w : World) (hw : HV w (keys [] []) [] [] [(bk qa0, off qa0, RW.enc s0.table), (bk qa1, off qa1, RI.enc s0.floors), (bk qa2, off qa2, RS.enc s0.sills)] w) (hna0 : s0.table.length = na0) (hqa0 : 0 < na0 → qa0 ≠ none) (hla0 : na0 ≤ ca0) (hna1 : s0.floors.length = na1) (hqa1 : 0 < na1 → qa1 ≠ none) (hla1 : na1 ≤ ca1) (hna2 : s0.sills.length = na2) (hqa2 : 0 < na2 → qa2 ≠ none) (hla2 : na2 ≤ ca2) {res : m_tide_Ask_1_R} (hm : m_tide_Ask_1 s0 = some res) :
    Calls Try.prog 62 #[.agg #[slv qa0 na0 ca0, .int .i64 s0.wind.lo, .int .i64 s0.wind.hi, slv qa1 na1 ca1, slv qa2 na2 ca2]] w (fun en w' => ∃ l : Unit, en = .returned (.tuple #[.agg #[.int .i64 res.r0.min, .int .i64 res.r0.place, .bool res.r0.wet], .int .i64 res.r1, .int .i64 res.r2]) ∧ (True) ∧ HV w (keys [] []) [] [] [] w') := by
  unfold m_tide_Ask_1 at hm
  refine g_enter (args := [.agg #[slv qa0 na0 ca0, .int .i64 s0.wind.lo, .int .i64 s0.wind.hi, slv qa1 na1 ca1, slv qa2 na2 ca2]]) Try.func62 rfl Try.ntmps62 rfl (e := [(0, _)]) rfl (H := HV w (keys [] []) [] [] [(bk qa0, off qa0, RW.enc s0.table), (bk qa1, off qa1, RI.enc s0.floors), (bk qa2, off qa2, RS.enc s0.sills)]) hw ?_
  refine g_seq ?_
  refine g_region ?_
  refine g_boxV rfl rfl (fun b h1 => ?_)
  refine g_allocV (fun w => Try.zeroValue89 w) rfl (fun b_1 h2 => ?_)
  refine g_val rfl rfl rfl (fun _ _ => v_assign rfl) ?_
  refine g_val rfl rfl rfl (fun _ _ => v_assign rfl) ?_
  refine g_nil ?_
  refine g_n_then ?_
  refine g_seq ?_
  refine g_region ?_
  refine g_val rfl rfl rfl (fun w hh => v_loadAgg (vs := [_, _, _, _, _]) (Try.isAgg29 w) (Try.sizeOf29 w) rfl (hh.cells 1 rfl rfl)) ?_
  obtain ⟨h3, hm⟩ := ifO hm
  refine dec_cases (p := check s0 = 0) (fun h4 => ?_) (fun h4 => ?_)
  ·replace hm := ifT h4 hm
   refine g_callFV rfl rfl rfl rfl rfl rfl rfl (fun a w => Try.call102 a w) (fun w hh => cx_opened s0 qa0 na0 ca0 qa1 na1 ca1 qa2 na2 ca2 w (HV.callee (S0 := []) (vs0 := []) hh (roC (hh.rsep (S0 := []) (vs0 := []) 0 rfl) (roC (hh.rsep (S0 := []) (vs0 := []) 1 rfl) (roC (hh.rsep (S0 := []) (vs0 := []) 2 rfl) roN)))) hna0 hqa0 hla0 hna1 hqa1 hla1 hna2 hqa2 hla2 h3 h4) (fun b_2 => ?_)
   refine g_val rfl rfl rfl (fun _ _ => v_move rfl) ?_
   refine g_val rfl rfl rfl (fun _ _ => v_extract rfl rfl) ?_
   refine g_val rfl rfl rfl (fun _ _ => v_extract rfl rfl) ?_
   refine g_val rfl rfl rfl (fun _ _ => v_assign rfl) ?_
   refine g_val rfl rfl rfl (fun _ _ => v_assign rfl) ?_
   refine g_nil ?_
   refine g_n_then ?_
   refine g_seq ?_
   refine g_seq ?_
   refine g_region ?_
   refine g_val rfl rfl rfl (fun _ _ => v_move rfl) ?_
   refine g_val rfl rfl rfl (fun _ _ => v_neq rfl rfl) ?_
   refine g_nil ?_
   refine g_n_then ?_
   refine g_condF rfl rfl ?_
   refine g_skip ?_
   refine g_n_then ?_
   refine g_seq ?_
   refine g_draw none (.free 0 (.free 1 (.free 2 (.free 3 (.free 4 (.hoist 5 (.free 6 (.free 7 (.free 8 (.free 9 (.free 10 (.hoist 11 (.free 12 (.free 13 (.free 14 .done))))))))))))))) _ rfl (by decide +kernel) (fun w k hh => hh.draw k) (fun w hh => hh) ?_
   refine p_free rfl rfl rfl rfl (fun _ _ => v_move rfl) ?_
   refine p_free rfl rfl rfl rfl (fun _ _ => v_nilCheck rfl) ?_
   refine p_free rfl rfl rfl rfl (fun w _ => v_fieldAddr 0 (Try.runUnderlying157 w) rfl (Try.sizeOf29 w) rfl) ?_
   refine p_free rfl rfl rfl rfl (fun w _ => v_fieldAddr 1 (Try.runUnderlying29 w) rfl (Try.sizeOf25 w) rfl) ?_
   refine p_free rfl rfl rfl rfl (fun w _ => v_fieldAddr 1 (Try.runUnderlying25 w) rfl (Try.sizeOf3 w) rfl) ?_
   refine p_hoist rfl rfl rfl rfl (fun w hh => v_load (Try.isAgg3 w) rfl (hh.cell 0 rfl rfl)) ?_
   refine p_free rfl rfl rfl rfl (fun _ _ => v_move rfl) ?_
   refine p_free rfl rfl rfl rfl (fun _ _ => v_nilCheck rfl) ?_
   refine p_free rfl rfl rfl rfl (fun w _ => v_fieldAddr 0 (Try.runUnderlying157 w) rfl (Try.sizeOf29 w) rfl) ?_
   refine p_free rfl rfl rfl rfl (fun w _ => v_fieldAddr 1 (Try.runUnderlying29 w) rfl (Try.sizeOf25 w) rfl) ?_
   refine p_free rfl rfl rfl rfl (fun w _ => v_fieldAddr 0 (Try.runUnderlying25 w) rfl (Try.sizeOf3 w) rfl) ?_
   refine p_hoist rfl rfl rfl rfl (fun w hh => v_load (Try.isAgg3 w) rfl (hh.cell 0 rfl rfl)) ?_
   obtain ⟨t37, h5, hm⟩ := bindO hm
   refine p_free rfl rfl rfl rfl (fun _ _ => v_subc h5 rfl rfl) ?_
   obtain ⟨t38, h6, hm⟩ := bindO hm
   refine p_free rfl rfl rfl rfl (fun _ _ => v_addc h6 rfl rfl) ?_
   refine p_free rfl rfl rfl rfl (fun _ _ => v_assign rfl) ?_
   refine p_done ?_
   refine g_n_then ?_
   refine g_seq ?_
   refine g_seq ?_
   refine g_region ?_
   refine g_val rfl rfl rfl (fun _ _ => v_move rfl) ?_
   refine g_val rfl rfl rfl (fun _ _ => v_eql rfl rfl) ?_
   refine g_nil ?_
   refine g_n_then ?_
   refine g_cond rfl (fun h7 => ?_) (fun h7 => ?_)
   ·replace hm := ifT (of_decide_eq_true h7) hm
    refine g_seq ?_
    refine g_region ?_
    refine g_val rfl rfl rfl (fun _ _ => v_build (vs := []) (cells := [_, _, _]) rfl rfl) ?_
    refine g_stSA (us := #[_, _, _]) (cs' := [_, _, _]) (S' := [_, _, _]) 1 (fun w => Try.sizeOf89 w) rfl rfl rfl rfl rfl rfl rfl ?_
    refine g_val rfl rfl rfl (fun _ _ => v_assign rfl) ?_
    refine g_val rfl rfl rfl (fun _ _ => v_assign rfl) ?_
    refine g_nil ?_
    refine g_n_then ?_
    refine g_ret ?_
    refine g_r_then ?_
    obtain rfl := Option.some.inj hm
    refine g_done rfl (fun w hh => (.cell rfl (loadVar_agg (vs := [_, _, _]) (Try.isAgg89 _) (Try.sizeOf89 _) (hh.cells 1 rfl rfl)) (.tmp rfl (.tmp rfl .nil)))) (fun w hh => ⟨(), rfl, trivial, hh.sel [] [] 3 (by decide) (by decide) rfl rfl rfl⟩)
   ·replace hm := ifF (of_decide_eq_false h7) hm
    refine g_skip ?_
    refine g_n_then ?_
    refine g_seq ?_
    refine g_region ?_
    refine g_val rfl rfl rfl (fun _ _ => v_build (vs := []) (cells := [_, _, _]) rfl rfl) ?_
    refine g_val rfl rfl rfl (fun _ _ => v_move rfl) ?_
    obtain ⟨t44, h8, hm⟩ := bindO hm
    refine g_val rfl rfl rfl (fun _ _ => v_addc h8 rfl rfl) ?_
    refine g_allocV (fun w => Try.zeroValue89 w) rfl (fun b_3 h9 => ?_)
    refine g_stSA (us := #[_, _, _]) (cs' := [_, _, _]) (S' := [_, _, _, _]) 0 (fun w => Try.sizeOf89 w) rfl rfl rfl rfl rfl rfl rfl ?_
    refine g_val rfl rfl rfl (fun _ _ => v_assign rfl) ?_
    refine g_nil ?_
    refine g_n_then ?_
    refine g_seq ?_
    refine g_seq ?_
    refine g_region ?_
    refine g_val rfl rfl rfl (fun _ _ => v_move rfl) ?_
    refine g_val rfl rfl rfl (fun _ _ => v_nilCheck rfl) ?_
    refine g_val rfl rfl rfl (fun w _ => v_fieldAddr 0 (Try.runUnderlying157 w) rfl (Try.sizeOf29 w) rfl) ?_
    refine g_val rfl rfl rfl (fun w _ => v_fieldAddr 0 (Try.runUnderlying29 w) rfl (Try.sizeOf23 w) rfl) ?_
    refine g_val rfl rfl rfl (fun w hh => v_load (Try.isAgg23 w) rfl (hh.cell 1 rfl rfl)) ?_
    obtain ⟨t50, h10, hm⟩ := bindO hm
    refine g_val rfl rfl rfl (fun w _ => v_ixA h10 (Try.runUnderlying23 w) (Try.sizeOf68 w) rfl rfl hna0 hqa0) ?_
    refine g_val rfl rfl rfl (fun w _ => v_fieldAddr 0 (Try.runUnderlying68 w) rfl (Try.sizeOf3 w) rfl) ?_
    refine g_val rfl rfl rfl (fun w hh => v_ldE RW 0 h10 (Try.isAgg3 w) rfl (hh.seg 0 rfl) rfl rfl) ?_
    refine g_val rfl rfl rfl (fun _ _ => v_assign rfl) ?_
    refine g_nil ?_
    refine g_n_then ?_
    obtain ⟨o, h11, h12⟩ := bindO hm
    refine g_cut (ι := Unit) (fun l => True) (fun l => [(2, ptr b_1 0), (8, ptr b_3 0), (9, .int .i64 o.least9)]) (fun l => [(b_3, .cells #[.int .i64 o.best8_min, .int .i64 o.best8_place, .bool o.best8_wet] 89 (0, 0)), (b_2, .cells #[slv qa0 na0 ca0, .int .i64 s0.wind.lo, .int .i64 s0.wind.hi, slv qa1 na1 ca1, slv qa2 na2 ca2, .int .i64 ((gatesOf s0).getD 0 0), .int .i64 ((gatesOf s0).getD 1 0), .int .i64 ((gatesOf s0).getD 2 0), .int .i64 ((gatesOf s0).getD 3 0), .int .i64 ((gatesOf s0).getD 4 0), .int .i64 ((gatesOf s0).getD 5 0), .int .i64 ((gatesOf s0).getD 6 0), .int .i64 ((gatesOf s0).getD 7 0)] 157 (0, 0)), (b_1, .cells #[.int .i64 0, .int .i64 0, .bool false] 89 (0, 0)), (b, .cells #[slv qa0 na0 ca0, .int .i64 s0.wind.lo, .int .i64 s0.wind.hi, slv qa1 na1 ca1, slv qa2 na2 ca2] 29 (0, 0))]) (fun l => []) ?_ ?_
    ·replace hm := h11
     refine g_block ?_
     refine g_loopF (ι := Unit) hm (fun s l_1 => True) (fun s l_1 => [(1, ptr b 0), (2, ptr b_1 0), (5, ptr b_2 0), (7, .int .i64 t38), (8, ptr b_3 0), (9, .int .i64 s.least9), (10, .int .i64 s.minute10)]) (fun s l_1 => [(b_3, .cells #[.int .i64 s.best8_min, .int .i64 s.best8_place, .bool s.best8_wet] 89 (0, 0)), (b_2, .cells #[slv qa0 na0 ca0, .int .i64 s0.wind.lo, .int .i64 s0.wind.hi, slv qa1 na1 ca1, slv qa2 na2 ca2, .int .i64 ((gatesOf s0).getD 0 0), .int .i64 ((gatesOf s0).getD 1 0), .int .i64 ((gatesOf s0).getD 2 0), .int .i64 ((gatesOf s0).getD 3 0), .int .i64 ((gatesOf s0).getD 4 0), .int .i64 ((gatesOf s0).getD 5 0), .int .i64 ((gatesOf s0).getD 6 0), .int .i64 ((gatesOf s0).getD 7 0)] 157 (0, 0)), (b_1, .cells #[.int .i64 0, .int .i64 0, .bool false] 89 (0, 0)), (b, .cells #[slv qa0 na0 ca0, .int .i64 s0.wind.lo, .int .i64 s0.wind.hi, slv qa1 na1 ca1, slv qa2 na2 ca2] 29 (0, 0))]) (fun s l_1 => []) () (trivial) ((.cons rfl (.cons rfl (.cons rfl (.cons rfl (.cons rfl (.cons rfl (.cons rfl .nil)))))))) (fun w hh => hh) (fun s l_1 r hpl hm h13 => ?_)
     unfold m_tide_Ask_1_L0 at hm
     refine g_seq ?_
     refine g_seq ?_
     refine g_region ?_
     refine g_val rfl rfl rfl (fun _ _ => v_move rfl) ?_
     refine g_val rfl rfl rfl (fun _ _ => v_move rfl) ?_
     obtain ⟨t55, h14, hm⟩ := bindO hm
     refine g_callN rfl rfl rfl rfl rfl rfl rfl (fun a w => Try.call103 a w) (fun w hh => cx_day s0 s.minute10 b_2 qa0 na0 ca0 qa1 na1 ca1 qa2 na2 ca2 w (HV.callee (S0 := []) (vs0 := []) hh (roC (bsep (hh.bseg 1 rfl)) (roC (hh.rsep (S0 := []) (vs0 := []) 0 rfl) (roC (hh.rsep (S0 := []) (vs0 := []) 1 rfl) (roC (hh.rsep (S0 := []) (vs0 := []) 2 rfl) roN))))) hna0 hqa0 hla0 hna1 hqa1 hla1 hna2 hqa2 hla2 h14) (fun l_2 h15 => ?_)
     refine g_nil ?_
     refine g_n_then ?_
     refine g_cond rfl (fun h16 => ?_) (fun h16 => ?_)
     ·replace hm := ifT (h16) hm
      refine g_skip ?_
      refine g_n_then ?_
      refine g_seq ?_
      refine g_block ?_
      refine g_seq ?_
      refine g_region ?_
      refine g_val rfl rfl rfl (fun w _ => v_fieldAddr 3 (Try.runUnderlying29 w) rfl (Try.sizeOf26 w) rfl) ?_
      refine g_val rfl rfl rfl (fun w hh => v_load (Try.isAgg26 w) rfl (hh.cell 3 rfl rfl)) ?_
      refine g_val rfl rfl rfl (fun w _ => v_lenN hna1 (Try.runUnderlying26 w) rfl) ?_
      refine g_val rfl rfl rfl (fun _ _ => v_move rfl) ?_
      refine g_nil ?_
      refine g_n_then ?_
      obtain ⟨o_1, h17, h18⟩ := bindO hm
      refine g_cut (ι := Unit) (fun l_3 => True) (fun l_3 => [(1, ptr b 0), (2, ptr b_1 0), (5, ptr b_2 0), (7, .int .i64 t38), (8, ptr b_3 0), (9, .int .i64 o_1.least9), (10, .int .i64 s.minute10)]) (fun l_3 => [(b_3, .cells #[.int .i64 o_1.best8_min, .int .i64 o_1.best8_place, .bool o_1.best8_wet] 89 (0, 0)), (b_2, .cells #[slv qa0 na0 ca0, .int .i64 s0.wind.lo, .int .i64 s0.wind.hi, slv qa1 na1 ca1, slv qa2 na2 ca2, .int .i64 ((gatesOf s0).getD 0 0), .int .i64 ((gatesOf s0).getD 1 0), .int .i64 ((gatesOf s0).getD 2 0), .int .i64 ((gatesOf s0).getD 3 0), .int .i64 ((gatesOf s0).getD 4 0), .int .i64 ((gatesOf s0).getD 5 0), .int .i64 ((gatesOf s0).getD 6 0), .int .i64 ((gatesOf s0).getD 7 0)] 157 (0, 0)), (b_1, .cells #[.int .i64 0, .int .i64 0, .bool false] 89 (0, 0)), (b, .cells #[slv qa0 na0 ca0, .int .i64 s0.wind.lo, .int .i64 s0.wind.hi, slv qa1 na1 ca1, slv qa2 na2 ca2] 29 (0, 0))]) (fun l_3 => []) ?_ ?_
      ·replace hm := h17
       refine g_block ?_
       refine g_loopF (ι := Unit) hm (fun s_1 l_4 => True) (fun s_1 l_4 => [(1, ptr b 0), (2, ptr b_1 0), (5, ptr b_2 0), (7, .int .i64 t38), (8, ptr b_3 0), (9, .int .i64 s_1.least9), (10, .int .i64 s.minute10), (60, .int .i64 (s0.floors.length : Int)), (61, .int .i64 s_1.t61)]) (fun s_1 l_4 => [(b_3, .cells #[.int .i64 s_1.best8_min, .int .i64 s_1.best8_place, .bool s_1.best8_wet] 89 (0, 0)), (b_2, .cells #[slv qa0 na0 ca0, .int .i64 s0.wind.lo, .int .i64 s0.wind.hi, slv qa1 na1 ca1, slv qa2 na2 ca2, .int .i64 ((gatesOf s0).getD 0 0), .int .i64 ((gatesOf s0).getD 1 0), .int .i64 ((gatesOf s0).getD 2 0), .int .i64 ((gatesOf s0).getD 3 0), .int .i64 ((gatesOf s0).getD 4 0), .int .i64 ((gatesOf s0).getD 5 0), .int .i64 ((gatesOf s0).getD 6 0), .int .i64 ((gatesOf s0).getD 7 0)] 157 (0, 0)), (b_1, .cells #[.int .i64 0, .int .i64 0, .bool false] 89 (0, 0)), (b, .cells #[slv qa0 na0 ca0, .int .i64 s0.wind.lo, .int .i64 s0.wind.hi, slv qa1 na1 ca1, slv qa2 na2 ca2] 29 (0, 0))]) (fun s_1 l_4 => []) () (trivial) ((.cons rfl (.cons rfl (.cons rfl (.cons rfl (.cons rfl (.cons rfl (.cons rfl (.cons rfl (.cons rfl .nil)))))))))) (fun w hh => hh) (fun s_1 l_4 r_1 hpl hm h19 => ?_)
       unfold m_tide_Ask_1_L1 at hm
       refine g_seq ?_
       refine g_region ?_
       refine g_val rfl rfl rfl (fun _ _ => v_lss rfl rfl) ?_
       refine g_nil ?_
       refine g_n_then ?_
       refine g_seq ?_
       refine g_cond rfl (fun h20 => ?_) (fun h20 => ?_)
       ·replace hm := ifT (of_decide_eq_true h20) hm
        refine g_skip ?_
        refine g_n_then ?_
        refine g_seq ?_
        obtain ⟨o_2, h21, h22⟩ := bindO hm
        refine g_cut (ι := Unit) (fun l_5 => True) (fun l_5 => [(1, ptr b 0), (2, ptr b_1 0), (5, ptr b_2 0), (7, .int .i64 t38), (8, ptr b_3 0), (9, .int .i64 o_2.least9), (10, .int .i64 s.minute10), (60, .int .i64 (s0.floors.length : Int)), (61, .int .i64 s_1.t61)]) (fun l_5 => [(b_3, .cells #[.int .i64 o_2.best8_min, .int .i64 o_2.best8_place, .bool o_2.best8_wet] 89 (0, 0)), (b_2, .cells #[slv qa0 na0 ca0, .int .i64 s0.wind.lo, .int .i64 s0.wind.hi, slv qa1 na1 ca1, slv qa2 na2 ca2, .int .i64 ((gatesOf s0).getD 0 0), .int .i64 ((gatesOf s0).getD 1 0), .int .i64 ((gatesOf s0).getD 2 0), .int .i64 ((gatesOf s0).getD 3 0), .int .i64 ((gatesOf s0).getD 4 0), .int .i64 ((gatesOf s0).getD 5 0), .int .i64 ((gatesOf s0).getD 6 0), .int .i64 ((gatesOf s0).getD 7 0)] 157 (0, 0)), (b_1, .cells #[.int .i64 0, .int .i64 0, .bool false] 89 (0, 0)), (b, .cells #[slv qa0 na0 ca0, .int .i64 s0.wind.lo, .int .i64 s0.wind.hi, slv qa1 na1 ca1, slv qa2 na2 ca2] 29 (0, 0))]) (fun l_5 => []) ?_ ?_
        ·replace hm := h21
         refine g_block ?_
         refine g_seq ?_
         refine g_region ?_
         refine g_val rfl rfl rfl (fun _ _ => v_move rfl) ?_
         refine g_val rfl rfl rfl (fun _ _ => v_assign rfl) ?_
         refine g_nil ?_
         refine g_n_then ?_
         refine g_seq ?_
         refine g_region ?_
         refine g_val rfl rfl rfl (fun _ _ => v_move rfl) ?_
         refine g_val rfl rfl rfl (fun _ _ => v_move rfl) ?_
         refine g_val rfl rfl rfl (fun _ _ => v_build (vs := [(0, _), (1, _), (2, _)]) (cells := [_, _, _]) rfl rfl) ?_
         refine g_allocV (fun w => Try.zeroValue89 w) rfl (fun b_4 h23 => ?_)
         refine g_stSA (us := #[_, _, _]) (cs' := [_, _, _]) (S' := [_, _, _, _, _]) 0 (fun w => Try.sizeOf89 w) rfl rfl rfl rfl rfl rfl rfl ?_
         refine g_nil ?_
         refine g_n_then ?_
         refine g_seq ?_
         refine g_region ?_
         refine g_val rfl rfl rfl (fun _ _ => v_move rfl) ?_
         refine g_val rfl rfl rfl (fun w hh => v_loadAgg (vs := [_, _, _]) (Try.isAgg89 w) (Try.sizeOf89 w) rfl (hh.cells 0 rfl rfl)) ?_
         refine g_vlit RL [(⟨s.minute10, s_1.t61, true⟩ : Look)] (ps := [(0, _)]) (cells := [_, _, _]) (fun w => Try.runUnderlying35 w) (fun w => Try.sizeOf89 w) (fun w => Try.zeroValue89 w) rfl rfl rfl rfl rfl rfl rfl rfl (fun L h24 => ?_)
         obtain ⟨t70, h25, hm⟩ := bindO hm
         refine g_callN rfl rfl rfl rfl rfl rfl rfl (fun a w => Try.call87 a w) (fun w hh => cx_left s0  [(⟨s.minute10, s_1.t61, true⟩ : Look)] b_2 qa0 na0 ca0 qa1 na1 ca1 qa2 na2 ca2 L.q L.n L.cap w (HV.callee (S0 := []) (vs0 := []) hh (roC (bsep (hh.bseg 2 rfl)) (roC (hh.rsep (S0 := []) (vs0 := []) 0 rfl) (roC (hh.rsep (S0 := []) (vs0 := []) 1 rfl) (roC (hh.rsep (S0 := []) (vs0 := []) 2 rfl) (roC (hh.vsep (S0 := []) (vs0 := []) 0 rfl h24) roN)))))) hna0 hqa0 hla0 hna1 hqa1 hla1 hna2 hqa2 hla2 (vlen RL h24 rfl) (vne h24) (h24).hle h25) (fun l_6 h26 => ?_)
         refine g_allocV (fun w => Try.zeroValue25 w) rfl (fun b_5 h27 => ?_)
         refine g_stSA (us := #[_, _]) (cs' := [_, _]) (S' := [_, _, _, _, _, _]) 0 (fun w => Try.sizeOf25 w) rfl rfl rfl rfl rfl rfl rfl ?_
         refine g_nil ?_
         refine g_n_then ?_
         refine g_seq ?_
         refine g_region ?_
         refine g_val rfl rfl rfl (fun w _ => v_fieldAddr 1 (Try.runUnderlying25 w) rfl (Try.sizeOf3 w) rfl) ?_
         refine g_val rfl rfl rfl (fun w hh => v_load (Try.isAgg3 w) rfl (hh.cell 0 rfl rfl)) ?_
         refine g_val rfl rfl rfl (fun w _ => v_fieldAddr 0 (Try.runUnderlying25 w) rfl (Try.sizeOf3 w) rfl) ?_
         refine g_val rfl rfl rfl (fun w hh => v_load (Try.isAgg3 w) rfl (hh.cell 0 rfl rfl)) ?_
         obtain ⟨t75, h28, hm⟩ := bindO hm
         refine g_val rfl rfl rfl (fun _ _ => v_subc h28 rfl rfl) ?_
         obtain ⟨t76, h29, hm⟩ := bindO hm
         refine g_val rfl rfl rfl (fun _ _ => v_addc h29 rfl rfl) ?_
         refine g_val rfl rfl rfl (fun _ _ => v_max rfl rfl) ?_
         refine g_val rfl rfl rfl (fun _ _ => v_assign rfl) ?_
         refine g_nil ?_
         refine g_n_then ?_
         refine g_seq ?_
         refine g_region ?_
         refine g_val rfl rfl rfl (fun _ _ => v_move rfl) ?_
         refine g_val rfl rfl rfl (fun _ _ => v_move rfl) ?_
         refine g_val rfl rfl rfl (fun _ _ => v_move rfl) ?_
         obtain ⟨t81, h30, hm⟩ := bindO hm
         refine g_val rfl rfl rfl (fun _ _ => v_subc h30 rfl rfl) ?_
         refine g_val rfl rfl rfl (fun _ _ => v_max rfl rfl) ?_
         refine g_val rfl rfl rfl (fun _ _ => v_assign rfl) ?_
         refine g_nil ?_
         refine g_n_then ?_
         refine g_seq ?_
         refine g_region ?_
         refine g_val rfl rfl rfl (fun _ _ => v_move rfl) ?_
         refine g_val rfl rfl rfl (fun _ _ => v_move rfl) ?_
         refine g_val rfl rfl rfl (fun _ _ => v_lss rfl rfl) ?_
         refine g_nil ?_
         refine g_n_then ?_
         refine g_cond rfl (fun h31 => ?_) (fun h31 => ?_)
         ·replace hm := ifT (of_decide_eq_true h31) hm
          refine g_region ?_
          refine g_val rfl rfl rfl (fun w hh => v_loadAgg (vs := [_, _, _]) (Try.isAgg89 w) (Try.sizeOf89 w) rfl (hh.cells 1 rfl rfl)) ?_
          refine g_val rfl rfl rfl (fun _ _ => v_move rfl) ?_
          refine g_stSA (us := #[_, _, _]) (cs' := [_, _, _]) (S' := [_, _, _, _, _, _]) 2 (fun w => Try.sizeOf89 w) rfl rfl rfl rfl rfl rfl rfl ?_
          refine g_val rfl rfl rfl (fun _ _ => v_assign rfl) ?_
          refine g_nil ?_
          refine g_n_blk ?_
          obtain rfl := Option.some.inj hm
          exact g_leaf () (trivial) ((.cons rfl (.cons rfl (.cons rfl (.cons rfl (.cons rfl (.cons rfl (.cons rfl (.cons rfl (.cons rfl .nil)))))))))) (fun w hh => hh.sel [2, 3, 4, 5] [] 0 (by decide) (by decide) rfl rfl rfl)
         ·replace hm := ifF (of_decide_eq_false h31) hm
          refine g_skip ?_
          refine g_n_blk ?_
          obtain rfl := Option.some.inj hm
          exact g_leaf () (trivial) ((.cons rfl (.cons rfl (.cons rfl (.cons rfl (.cons rfl (.cons rfl (.cons rfl (.cons rfl (.cons rfl .nil)))))))))) (fun w hh => hh.sel [2, 3, 4, 5] [] 0 (by decide) (by decide) rfl rfl rfl)
        ·intro l_5 hj
         replace hm := h22
         refine g_n_then ?_
         refine g_region ?_
         obtain ⟨t88, h32, hm⟩ := bindO hm
         refine g_val rfl rfl rfl (fun _ _ => v_addc h32 rfl rfl) ?_
         refine g_val rfl rfl rfl (fun _ _ => v_move rfl) ?_
         refine g_nil ?_
         obtain rfl := Option.some.inj hm
         refine g_n_then ?_
         exact g_again' _ () rfl (trivial) ((.cons rfl (.cons rfl (.cons rfl (.cons rfl (.cons rfl (.cons rfl (.cons rfl (.cons rfl (.cons rfl .nil)))))))))) (fun w hh => hh)
       ·replace hm := ifF (of_decide_eq_false h20) hm
        refine g_exit ?_
        refine g_x_then ?_
        refine g_x_then ?_
        refine g_x_blk ?_
        obtain rfl := Option.some.inj hm
        have hbo := h19 _ rfl
        subst hbo
        exact g_leaf () (trivial) ((.cons rfl (.cons rfl (.cons rfl (.cons rfl (.cons rfl (.cons rfl (.cons rfl .nil)))))))) (fun w hh => hh)
      ·intro l_3 hj
       replace hm := h18
       refine g_n_blk ?_
       refine g_n_then ?_
       refine g_region ?_
       refine g_val rfl rfl rfl (fun _ _ => v_move rfl) ?_
       obtain ⟨t57, h33, hm⟩ := bindO hm
       refine g_val rfl rfl rfl (fun _ _ => v_addc h33 rfl rfl) ?_
       refine g_val rfl rfl rfl (fun _ _ => v_assign rfl) ?_
       refine g_nil ?_
       obtain rfl := Option.some.inj hm
       refine g_n_then ?_
       exact g_again' _ () rfl (trivial) ((.cons rfl (.cons rfl (.cons rfl (.cons rfl (.cons rfl (.cons rfl (.cons rfl .nil)))))))) (fun w hh => hh)
     ·replace hm := ifF ((fun hh => Bool.noConfusion ((h16).symm.trans hh))) hm
      refine g_exit ?_
      refine g_x_then ?_
      refine g_x_then ?_
      refine g_x_blk ?_
      obtain rfl := Option.some.inj hm
      have hbo := h13 _ rfl
      subst hbo
      exact g_leaf () (trivial) ((.cons rfl (.cons rfl (.cons rfl .nil)))) (fun w hh => hh)
    ·intro l hj
     replace hm := h12
     refine g_n_then ?_
     refine g_seq ?_
     refine g_region ?_
     refine g_val rfl rfl rfl (fun w hh => v_loadAgg (vs := [_, _, _]) (Try.isAgg89 w) (Try.sizeOf89 w) rfl (hh.cells 0 rfl rfl)) ?_
     refine g_val rfl rfl rfl (fun _ _ => v_move rfl) ?_
     refine g_stSA (us := #[_, _, _]) (cs' := [_, _, _]) (S' := [_, _, _, _]) 2 (fun w => Try.sizeOf89 w) rfl rfl rfl rfl rfl rfl rfl ?_
     refine g_val rfl rfl rfl (fun _ _ => v_assign rfl) ?_
     refine g_val rfl rfl rfl (fun _ _ => v_assign rfl) ?_
     refine g_nil ?_
     refine g_n_then ?_
     refine g_ret ?_
     obtain rfl := Option.some.inj hm
     refine g_done rfl (fun w hh => (.cell rfl (loadVar_agg (vs := [_, _, _]) (Try.isAgg89 _) (Try.sizeOf89 _) (hh.cells 2 rfl rfl)) (.tmp rfl (.tmp rfl .nil)))) (fun w hh => ⟨(), rfl, trivial, hh.sel [] [] 3 (by decide) (by decide) rfl rfl rfl⟩)
  ·replace hm := ifF h4 hm
   refine g_callN rfl rfl rfl rfl rfl rfl rfl (fun a w => Try.call102 a w) (fun w hh => cx_openedE s0 qa0 na0 ca0 qa1 na1 ca1 qa2 na2 ca2 w (HV.callee (S0 := []) (vs0 := []) hh (roC (hh.rsep (S0 := []) (vs0 := []) 0 rfl) (roC (hh.rsep (S0 := []) (vs0 := []) 1 rfl) (roC (hh.rsep (S0 := []) (vs0 := []) 2 rfl) roN)))) hna0 hqa0 hla0 hna1 hqa1 hla1 hna2 hqa2 hla2 h3 h4) (fun l_7 h34 => ?_)
   refine g_val rfl rfl rfl (fun _ _ => v_move rfl) ?_
   refine g_val rfl rfl rfl (fun _ _ => v_extract rfl rfl) ?_
   refine g_val rfl rfl rfl (fun _ _ => v_extract rfl rfl) ?_
   refine g_val rfl rfl rfl (fun _ _ => v_assign rfl) ?_
   refine g_val rfl rfl rfl (fun _ _ => v_assign rfl) ?_
   refine g_nil ?_
   refine g_n_then ?_
   refine g_seq ?_
   refine g_seq ?_
   refine g_region ?_
   refine g_val rfl rfl rfl (fun _ _ => v_move rfl) ?_
   refine g_val rfl rfl rfl (fun _ _ => v_neqT h4 rfl rfl) ?_
   refine g_nil ?_
   refine g_n_then ?_
   refine g_condT rfl rfl ?_
   refine g_seq ?_
   refine g_region ?_
   refine g_val rfl rfl rfl (fun _ _ => v_build (vs := []) (cells := [_, _, _]) rfl rfl) ?_
   refine g_val rfl rfl rfl (fun _ _ => v_move rfl) ?_
   refine g_stSA (us := #[_, _, _]) (cs' := [_, _, _]) (S' := [_, _]) 0 (fun w => Try.sizeOf89 w) rfl rfl rfl rfl rfl rfl rfl ?_
   refine g_val rfl rfl rfl (fun _ _ => v_assign rfl) ?_
   refine g_val rfl rfl rfl (fun _ _ => v_assign rfl) ?_
   refine g_nil ?_
   refine g_n_then ?_
   refine g_ret ?_
   refine g_r_then ?_
   obtain rfl := Option.some.inj hm
   refine g_done rfl (fun w hh => (.cell rfl (loadVar_agg (vs := [_, _, _]) (Try.isAgg89 _) (Try.sizeOf89 _) (hh.cells 0 rfl rfl)) (.tmp rfl (.tmp rfl .nil)))) (fun w hh => ⟨(), rfl, trivial, hh.sel [] [] 3 (by decide) (by decide) rfl rfl rfl⟩)
end Go.Proofs.Wk
namespace Go.Proofs.Wk
open Go Go.Fw Go.Gx Go.Pl
set_option linter.unusedVariables false
structure m_laurellaw01_TideAsks_C0 where
  own3 : Sands
  x4 : Sands
def m_laurellaw01_TideAsks_Q0 : Plan := (.one 1 (.one 3 (.one 6 (.one 7 .done))))
def m_laurellaw01_TideAsks_Q1 : Plan := (.br (.alt 3 (.one 4 (.one 6 (.one 7 .done))) (.alt 4 (.one 3 (.one 6 (.one 7 .done))) .nil)))
def m_laurellaw01_TideAsks_Q2 : Plan := (.br (.alt 1 m_laurellaw01_TideAsks_Q1 (.alt 4 m_laurellaw01_TideAsks_Q0 .nil)))
def m_laurellaw01_TideAsks_Q3 : Plan := (.br (.alt 3 (.one 5 (.one 6 (.one 7 .done))) (.alt 5 (.one 3 (.one 6 (.one 7 .done))) .nil)))
def m_laurellaw01_TideAsks_Q4 : Plan := (.br (.alt 1 m_laurellaw01_TideAsks_Q3 (.alt 5 m_laurellaw01_TideAsks_Q0 .nil)))
def m_laurellaw01_TideAsks_Q5 : Plan := (.br (.alt 4 (.one 5 (.one 6 (.one 7 .done))) (.alt 5 (.one 4 (.one 6 (.one 7 .done))) .nil)))
def m_laurellaw01_TideAsks_Q6 : Plan := (.br (.alt 3 m_laurellaw01_TideAsks_Q5 (.alt 4 m_laurellaw01_TideAsks_Q3 (.alt 5 m_laurellaw01_TideAsks_Q1 .nil))))
structure m_laurellaw01_TideAsks_C1 where
  w5 : Int
  few7 : Int
  want6_min : Int
  want6_place : Int
  want6_wet : Bool
def m_laurellaw01_TideAsks (s0 : Sands) : Option Bool :=
 (m_laurellaw01_large s0).bind fun t12 =>
 if t12 = true then
 ((x_awake).bind fun t13 =>
 some t13) else
 (((m_laurellaw01_Own s0).bind fun t15 =>
 (m_laurellaw01_theirs s0).bind fun t17 =>
 some (⟨t15, t17⟩ : m_laurellaw01_TideAsks_C0)).bind fun o =>
 (m_laurelref01_Check o.x4).bind fun t19 =>
 (if t19 = 0 then
 (if s0.wind.lo = s0.wind.hi then
 (some (⟨6, 0, 0, 0, false⟩ : m_laurellaw01_TideAsks_C1)) else
 ((m_laurelref01_Gates o.x4).bind fun t33 =>
 (m_laurelref01_Ask o.x4 t33).bind fun t34 =>
 some (⟨t19, t34.r1, t34.r0.min, t34.r0.place, t34.r0.wet⟩ : m_laurellaw01_TideAsks_C1))) else
 (some (⟨t19, 0, 0, 0, false⟩ : m_laurellaw01_TideAsks_C1))).bind fun o_1 =>
 (m_tide_Ask_1 o.own3).bind fun t39 =>
 (if t39.r2 = o_1.w5 then
 (if t39.r1 = o_1.few7 then
 (if t39.r0 = (⟨o_1.want6_min, o_1.want6_place, o_1.want6_wet⟩ : Look) then
 ((m_laurellaw01_same o.own3 s0).bind fun t59 =>
 if t59 = true then
 ((x_awake).bind fun t62 =>
 some t62) else
 (some false)) else
 (some false)) else
 (some false)) else
 (some false)).bind fun o_2 =>
 some o_2)
set_option maxRecDepth 100000 in
set_option maxHeartbeats 4000000 in
theorem c_laurellaw01_TideAsks (s0 : Sands) (qa0 : Option Addr) (na0 ca0 : Nat) (qa1 : Option Addr) (na1 ca1 : Nat) (qa2 : Option Addr) (na2 ca2 : Nat) (w : World) (hw : HV w (keys [] []) [] [] [(aB qa0, aO qa0, RW.enc s0.table), (aB qa1, aO qa1, RI.enc s0.floors), (aB qa2, aO qa2, RS.enc s0.sills)] w) (hna0 : s0.table.length = na0) (hqa0 : AOK na0 qa0) (hla0 : na0 ≤ ca0) (hna1 : s0.floors.length = na1) (hqa1 : AOK na1 qa1) (hla1 : na1 ≤ ca1) (hna2 : s0.sills.length = na2) (hqa2 : AOK na2 qa2) (hla2 : na2 ≤ ca2) {res : Bool} (hm : m_laurellaw01_TideAsks s0 = some res) :
    Calls Try.prog 10 #[.agg #[.slice qa0 na0 ca0, .int .i64 s0.wind.lo, .int .i64 s0.wind.hi, .slice qa1 na1 ca1, .slice qa2 na2 ca2]] w (fun en w' => ∃ l : Unit, en = .returned (.bool res) ∧ (True) ∧ HV w (keys [] []) [] [] [] w') := by
  unfold m_laurellaw01_TideAsks at hm
  refine g_enter (args := [.agg #[.slice qa0 na0 ca0, .int .i64 s0.wind.lo, .int .i64 s0.wind.hi, .slice qa1 na1 ca1, .slice qa2 na2 ca2]]) Try.func10 rfl Try.ntmps10 rfl (e := [(0, _)]) rfl (H := HV w (keys [] []) [] [] [(aB qa0, aO qa0, RW.enc s0.table), (aB qa1, aO qa1, RI.enc s0.floors), (aB qa2, aO qa2, RS.enc s0.sills)]) hw ?_
  refine g_seq ?_
  refine g_region ?_
  refine g_boxV rfl rfl (fun b h1 => ?_)
  refine g_val rfl rfl rfl (fun _ _ => v_assign rfl) ?_
  refine g_nil ?_
  refine g_n_then ?_
  refine g_seq ?_
  refine g_seq ?_
  refine g_region ?_
  refine g_val rfl rfl rfl (fun w hh => v_loadAgg (vs := [_, _, _, _, _]) (Try.isAgg29 w) (Try.sizeOf29 w) rfl (hh.cells 0 rfl rfl)) ?_
  obtain ⟨t12, h2, hm⟩ := bindO hm
  refine g_callH [] [] rfl rfl rfl rfl rfl rfl rfl (fun a w => Try.call42 a w) (fun w hh => c_laurellaw01_large s0 qa0 na0 ca0 qa1 na1 ca1 qa2 na2 ca2 w (HV.callee (S0 := []) (vs0 := []) hh (roC (hh.rsep (S0 := []) (vs0 := []) 0 rfl) (roC (hh.rsep (S0 := []) (vs0 := []) 1 rfl) (roC (hh.rsep (S0 := []) (vs0 := []) 2 rfl) roN)))) hna0 hqa0 hla0 hna1 hqa1 hla1 hna2 hqa2 hla2 h2) (fun l h3 => ?_)
  refine g_nil ?_
  refine g_n_then ?_
  refine g_cond rfl (fun h4 => ?_) (fun h4 => ?_)
  ·replace hm := ifT (h4) hm
   refine g_seq ?_
   refine g_region ?_
   obtain ⟨t13, h5, hm⟩ := bindO hm
   refine g_callH [] [] rfl rfl rfl rfl rfl rfl rfl (fun a w => Try.call30 a w) (fun w hh => cx_awake  w (HV.callee (S0 := []) (vs0 := []) hh roN)  h5) (fun l_1 h6 => ?_)
   refine g_val rfl rfl rfl (fun _ _ => v_assign rfl) ?_
   refine g_nil ?_
   refine g_n_then ?_
   refine g_ret ?_
   refine g_r_then ?_
   obtain rfl := Option.some.inj hm
   refine g_done rfl (fun w hh => (.tmp rfl .nil)) (fun w hh => ⟨(), rfl, trivial, hh.sel [] [] 3 (by decide) (by decide) rfl rfl rfl⟩)
  ·replace hm := ifF ((fun hh => Bool.noConfusion ((h4).symm.trans hh))) hm
   refine g_skip ?_
   refine g_n_then ?_
   refine g_seq ?_
   obtain ⟨o, h7, h8⟩ := bindO hm
   refine g_cut (ι := Nat × Nat × VL × VL × VL × VL × VL × VL) (fun l_2 => VOK 2 l_2.2.2.1.n l_2.2.2.1.cap (RW.enc o.own3.table) l_2.2.2.1.sp l_2.2.2.1.q ∧ VOK 1 l_2.2.2.2.1.n l_2.2.2.2.1.cap (RI.enc o.own3.floors) l_2.2.2.2.1.sp l_2.2.2.2.1.q ∧ VOK 3 l_2.2.2.2.2.1.n l_2.2.2.2.2.1.cap (RS.enc o.own3.sills) l_2.2.2.2.2.1.sp l_2.2.2.2.2.1.q ∧ VOK 2 l_2.2.2.2.2.2.1.n l_2.2.2.2.2.2.1.cap (RW.enc o.x4.table) l_2.2.2.2.2.2.1.sp l_2.2.2.2.2.2.1.q ∧ VOK 1 l_2.2.2.2.2.2.2.1.n l_2.2.2.2.2.2.2.1.cap (RI.enc o.x4.floors) l_2.2.2.2.2.2.2.1.sp l_2.2.2.2.2.2.2.1.q ∧ VOK 3 l_2.2.2.2.2.2.2.2.n l_2.2.2.2.2.2.2.2.cap (RS.enc o.x4.sills) l_2.2.2.2.2.2.2.2.sp l_2.2.2.2.2.2.2.2.q) (fun l_2 => [(1, ptr b 0), (3, ptr l_2.1 0), (4, ptr l_2.2.1 0)]) (fun l_2 => [(b, .cells #[.slice qa0 na0 ca0, .int .i64 s0.wind.lo, .int .i64 s0.wind.hi, .slice qa1 na1 ca1, .slice qa2 na2 ca2] 29 (0, 0)), (l_2.1, .cells #[slv l_2.2.2.1.q l_2.2.2.1.n l_2.2.2.1.cap, .int .i64 o.own3.wind.lo, .int .i64 o.own3.wind.hi, slv l_2.2.2.2.1.q l_2.2.2.2.1.n l_2.2.2.2.1.cap, slv l_2.2.2.2.2.1.q l_2.2.2.2.2.1.n l_2.2.2.2.2.1.cap] 29 (0, 0)), (l_2.2.1, .cells #[slv l_2.2.2.2.2.2.1.q l_2.2.2.2.2.2.1.n l_2.2.2.2.2.2.1.cap, .int .i64 o.x4.wind.lo, .int .i64 o.x4.wind.hi, slv l_2.2.2.2.2.2.2.1.q l_2.2.2.2.2.2.2.1.n l_2.2.2.2.2.2.2.1.cap, slv l_2.2.2.2.2.2.2.2.q l_2.2.2.2.2.2.2.2.n l_2.2.2.2.2.2.2.2.cap] 59 (0, 0))]) (fun l_2 => [⟨68, RW.enc o.own3.table, l_2.2.2.1.sp, l_2.2.2.1.q⟩, ⟨3, RI.enc o.own3.floors, l_2.2.2.2.1.sp, l_2.2.2.2.1.q⟩, ⟨51, RS.enc o.own3.sills, l_2.2.2.2.2.1.sp, l_2.2.2.2.2.1.q⟩, ⟨158, RW.enc o.x4.table, l_2.2.2.2.2.2.1.sp, l_2.2.2.2.2.2.1.q⟩, ⟨3, RI.enc o.x4.floors, l_2.2.2.2.2.2.2.1.sp, l_2.2.2.2.2.2.2.1.q⟩, ⟨159, RS.enc o.x4.sills, l_2.2.2.2.2.2.2.2.sp, l_2.2.2.2.2.2.2.2.q⟩]) ?_ ?_
   ·replace hm := h7
    obtain ⟨t15, h15, hm⟩ := bindO hm
    obtain ⟨t17, h16, hm⟩ := bindO hm
    refine g_draw none (.hoist 0 (.hoist 2 (.br (.alt 1 m_laurellaw01_TideAsks_Q6 (.alt 4 m_laurellaw01_TideAsks_Q4 (.alt 5 m_laurellaw01_TideAsks_Q2 .nil)))))) _ rfl (by decide +kernel) (fun w k hh => hh.draw k) (fun w hh => hh) ?_
    refine p_hoist rfl rfl rfl rfl (fun w hh => v_loadAgg (vs := [_, _, _, _, _]) (Try.isAgg29 w) (Try.sizeOf29 w) rfl (hh.cells 0 rfl rfl)) ?_
    refine p_hoist rfl rfl rfl rfl (fun w hh => v_loadAgg (vs := [_, _, _, _, _]) (Try.isAgg29 w) (Try.sizeOf29 w) rfl (hh.cells 0 rfl rfl)) ?_
    refine p_share (.one 7 .done) (fun g => ∀ (b_1 : Nat) (b_2 : Nat) (L : VL) (L_1 : VL) (L_2 : VL) (L_3 : VL) (L_4 : VL) (L_5 : VL), vk 2 L (RW.enc t17.table) → vk 1 L_1 (RI.enc t17.floors) → vk 3 L_2 (RS.enc t17.sills) → vk 2 L_3 (RW.enc t15.table) → vk 1 L_4 (RI.enc t15.floors) → vk 3 L_5 (RS.enc t15.sills) → g [(1, ptr b 0), (3, ptr b_1 0), (4, ptr b_2 0), (17, .agg #[sL L, .int .i64 t17.wind.lo, .int .i64 t17.wind.hi, sL L_1, sL L_2])] [(b, .cells #[.slice qa0 na0 ca0, .int .i64 s0.wind.lo, .int .i64 s0.wind.hi, .slice qa1 na1 ca1, .slice qa2 na2 ca2] 29 (0, 0)), (b_1, .cells #[sL L_3, .int .i64 t15.wind.lo, .int .i64 t15.wind.hi, sL L_4, sL L_5] 29 (0, 0)), (b_2, .cells #[slv none 0 0, .int .i64 0, .int .i64 0, slv none 0 0, slv none 0 0] 59 (0, 0))] [vL 158 L (RW.enc t17.table), vL 3 L_1 (RI.enc t17.floors), vL 159 L_2 (RS.enc t17.sills), vL 68 L_3 (RW.enc t15.table), vL 3 L_4 (RI.enc t15.floors), vL 51 L_5 (RS.enc t15.sills)]) ?_ (fun h23 => ?_)
    ·intro b_1 b_2 L L_1 L_2 L_3 L_4 L_5 h17 h18 h19 h20 h21 h22
     refine p_one rfl ?_
     refine g_stSA (us := #[_, _, _, _, _]) (cs' := [_, _, _, _, _]) (S' := [_, _, _]) 2 (fun w => Try.sizeOf59 w) rfl rfl rfl rfl rfl rfl rfl ?_
     refine p_next (fun w hh => hh.sel [0] [] 0 (by decide) (by decide) rfl rfl rfl) ?_
     refine p_done ?_
     obtain rfl := Option.some.inj hm
     exact g_leaf (b_1, b_2, L_3, L_4, L_5, L, L_1, L_2) (⟨h20, h21, h22, h17, h18, h19⟩) ((.cons rfl (.cons rfl (.cons rfl .nil)))) (fun w hh => hh.sel [0, 1, 2] [3, 4, 5, 0, 1, 2] 0 (by decide) (by decide) rfl rfl rfl)
    refine p_share (.one 6 (.one 7 .done)) (fun g => ∀ (b_3 : Nat) (b_4 : Nat) (L_6 : VL) (L_7 : VL) (L_8 : VL) (L_9 : VL) (L_10 : VL) (L_11 : VL), vk 2 L_6 (RW.enc t15.table) → vk 1 L_7 (RI.enc t15.floors) → vk 3 L_8 (RS.enc t15.sills) → vk 2 L_9 (RW.enc t17.table) → vk 1 L_10 (RI.enc t17.floors) → vk 3 L_11 (RS.enc t17.sills) → g [(1, ptr b 0), (3, ptr b_3 0), (4, ptr b_4 0), (15, .agg #[sL L_6, .int .i64 t15.wind.lo, .int .i64 t15.wind.hi, sL L_7, sL L_8]), (17, .agg #[sL L_9, .int .i64 t17.wind.lo, .int .i64 t17.wind.hi, sL L_10, sL L_11])] [(b, .cells #[.slice qa0 na0 ca0, .int .i64 s0.wind.lo, .int .i64 s0.wind.hi, .slice qa1 na1 ca1, .slice qa2 na2 ca2] 29 (0, 0)), (b_3, .cells #[slv none 0 0, .int .i64 0, .int .i64 0, slv none 0 0, slv none 0 0] 29 (0, 0)), (b_4, .cells #[slv none 0 0, .int .i64 0, .int .i64 0, slv none 0 0, slv none 0 0] 59 (0, 0))] [vL 68 L_6 (RW.enc t15.table), vL 3 L_7 (RI.enc t15.floors), vL 51 L_8 (RS.enc t15.sills), vL 158 L_9 (RW.enc t17.table), vL 3 L_10 (RI.enc t17.floors), vL 159 L_11 (RS.enc t17.sills)]) ?_ (fun h30 => ?_)
    ·intro b_3 b_4 L_6 L_7 L_8 L_9 L_10 L_11 h24 h25 h26 h27 h28 h29
     refine p_one rfl ?_
     refine g_stSA (us := #[_, _, _, _, _]) (cs' := [_, _, _, _, _]) (S' := [_, _, _]) 1 (fun w => Try.sizeOf29 w) rfl rfl rfl rfl rfl rfl rfl ?_
     refine p_next (fun w hh => hh.sel [0] [] 0 (by decide) (by decide) rfl rfl rfl) ?_
     exact p_shr (h23 b_3 b_4 L_9 L_10 L_11 L_6 L_7 L_8 h27 h28 h29 h24 h25 h26) ((.cons rfl (.cons rfl (.cons rfl (.cons rfl .nil))))) (fun w hh => hh.sel [0, 1, 2] [3, 4, 5, 0, 1, 2] 0 (by decide) (by decide) rfl rfl rfl)
    refine p_share (.one 3 (.one 6 (.one 7 .done))) (fun g => ∀ (b_5 : Nat) (b_6 : Nat) (L_12 : VL) (L_13 : VL) (L_14 : VL), vk 2 L_12 (RW.enc t15.table) → vk 1 L_13 (RI.enc t15.floors) → vk 3 L_14 (RS.enc t15.sills) → g [(1, ptr b 0), (3, ptr b_5 0), (4, ptr b_6 0), (15, .agg #[sL L_12, .int .i64 t15.wind.lo, .int .i64 t15.wind.hi, sL L_13, sL L_14]), (16, .agg #[.slice qa0 na0 ca0, .int .i64 s0.wind.lo, .int .i64 s0.wind.hi, .slice qa1 na1 ca1, .slice qa2 na2 ca2])] [(b, .cells #[.slice qa0 na0 ca0, .int .i64 s0.wind.lo, .int .i64 s0.wind.hi, .slice qa1 na1 ca1, .slice qa2 na2 ca2] 29 (0, 0)), (b_5, .cells #[slv none 0 0, .int .i64 0, .int .i64 0, slv none 0 0, slv none 0 0] 29 (0, 0)), (b_6, .cells #[slv none 0 0, .int .i64 0, .int .i64 0, slv none 0 0, slv none 0 0] 59 (0, 0))] [vL 68 L_12 (RW.enc t15.table), vL 3 L_13 (RI.enc t15.floors), vL 51 L_14 (RS.enc t15.sills)]) ?_ (fun h34 => ?_)
    ·intro b_5 b_6 L_12 L_13 L_14 h31 h32 h33
     refine p_one rfl ?_
     refine g_callH [] [] rfl rfl rfl rfl rfl rfl rfl (fun a w => Try.call32 a w) (fun w hh => c_laurellaw01_theirs s0 qa0 na0 ca0 qa1 na1 ca1 qa2 na2 ca2 w (HV.callee (S0 := []) (vs0 := []) hh (roC (hh.rsep (S0 := []) (vs0 := []) 0 rfl) (roC (hh.rsep (S0 := []) (vs0 := []) 1 rfl) (roC (hh.rsep (S0 := []) (vs0 := []) 2 rfl) roN)))) hna0 hqa0 hla0 hna1 hqa1 hla1 hna2 hqa2 hla2 h16) (fun l_3 h35 => ?_)
     obtain ⟨h36, h37, h38⟩ := h35
     refine g_sel (S' := [_, _, _]) (vs' := [_, _, _, _, _, _]) [0, 1, 2] [0, 1, 2, 3, 4, 5] 0 (by decide) (by decide) rfl rfl rfl ?_
     refine p_next (fun w hh => hh.sel [0] [] 0 (by decide) (by decide) rfl rfl rfl) ?_
     exact p_shr (h30 b_5 b_6 L_12 L_13 L_14 l_3.1 l_3.2.1 l_3.2.2 h31 h32 h33 h36 h37 h38) ((.cons rfl (.cons rfl (.cons rfl (.cons rfl (.cons rfl .nil)))))) (fun w hh => hh.sel [0, 1, 2] [3, 4, 5, 0, 1, 2] 0 (by decide) (by decide) rfl rfl rfl)
    refine p_share (.one 4 (.one 6 (.one 7 .done))) (fun g => ∀ (b_7 : Nat) (L_15 : VL) (L_16 : VL) (L_17 : VL) (L_18 : VL) (L_19 : VL) (L_20 : VL), vk 2 L_15 (RW.enc t15.table) → vk 1 L_16 (RI.enc t15.floors) → vk 3 L_17 (RS.enc t15.sills) → vk 2 L_18 (RW.enc t17.table) → vk 1 L_19 (RI.enc t17.floors) → vk 3 L_20 (RS.enc t17.sills) → g [(1, ptr b 0), (4, ptr b_7 0), (15, .agg #[sL L_15, .int .i64 t15.wind.lo, .int .i64 t15.wind.hi, sL L_16, sL L_17]), (17, .agg #[sL L_18, .int .i64 t17.wind.lo, .int .i64 t17.wind.hi, sL L_19, sL L_20])] [(b, .cells #[.slice qa0 na0 ca0, .int .i64 s0.wind.lo, .int .i64 s0.wind.hi, .slice qa1 na1 ca1, .slice qa2 na2 ca2] 29 (0, 0)), (b_7, .cells #[slv none 0 0, .int .i64 0, .int .i64 0, slv none 0 0, slv none 0 0] 59 (0, 0))] [vL 68 L_15 (RW.enc t15.table), vL 3 L_16 (RI.enc t15.floors), vL 51 L_17 (RS.enc t15.sills), vL 158 L_18 (RW.enc t17.table), vL 3 L_19 (RI.enc t17.floors), vL 159 L_20 (RS.enc t17.sills)]) ?_ (fun h45 => ?_)
    ·intro b_7 L_15 L_16 L_17 L_18 L_19 L_20 h39 h40 h41 h42 h43 h44
     refine p_one rfl ?_
     refine g_allocV (fun w => Try.zeroValue29 w) rfl (fun b_8 h46 => ?_)
     refine p_next (fun w hh => hh.sel [1] [] 0 (by decide) (by decide) rfl rfl rfl) ?_
     exact p_shr (h30 b_8 b_7 L_15 L_16 L_17 L_18 L_19 L_20 h39 h40 h41 h42 h43 h44) ((.cons rfl (.cons rfl (.cons rfl (.cons rfl (.cons rfl .nil)))))) (fun w hh => hh.sel [1, 0, 2] [0, 1, 2, 3, 4, 5] 0 (by decide) (by decide) rfl rfl rfl)
    refine p_share (.one 5 (.one 6 (.one 7 .done))) (fun g => ∀ (b_9 : Nat) (L_21 : VL) (L_22 : VL) (L_23 : VL) (L_24 : VL) (L_25 : VL) (L_26 : VL), vk 2 L_21 (RW.enc t15.table) → vk 1 L_22 (RI.enc t15.floors) → vk 3 L_23 (RS.enc t15.sills) → vk 2 L_24 (RW.enc t17.table) → vk 1 L_25 (RI.enc t17.floors) → vk 3 L_26 (RS.enc t17.sills) → g [(1, ptr b 0), (3, ptr b_9 0), (15, .agg #[sL L_21, .int .i64 t15.wind.lo, .int .i64 t15.wind.hi, sL L_22, sL L_23]), (17, .agg #[sL L_24, .int .i64 t17.wind.lo, .int .i64 t17.wind.hi, sL L_25, sL L_26])] [(b, .cells #[.slice qa0 na0 ca0, .int .i64 s0.wind.lo, .int .i64 s0.wind.hi, .slice qa1 na1 ca1, .slice qa2 na2 ca2] 29 (0, 0)), (b_9, .cells #[slv none 0 0, .int .i64 0, .int .i64 0, slv none 0 0, slv none 0 0] 29 (0, 0))] [vL 68 L_21 (RW.enc t15.table), vL 3 L_22 (RI.enc t15.floors), vL 51 L_23 (RS.enc t15.sills), vL 158 L_24 (RW.enc t17.table), vL 3 L_25 (RI.enc t17.floors), vL 159 L_26 (RS.enc t17.sills)]) ?_ (fun h53 => ?_)
    ·intro b_9 L_21 L_22 L_23 L_24 L_25 L_26 h47 h48 h49 h50 h51 h52
     refine p_one rfl ?_
     refine g_allocV (fun w => Try.zeroValue59 w) rfl (fun b_10 h54 => ?_)
     refine p_next (fun w hh => hh.sel [1] [] 0 (by decide) (by decide) rfl rfl rfl) ?_
     exact p_shr (h30 b_9 b_10 L_21 L_22 L_23 L_24 L_25 L_26 h47 h48 h49 h50 h51 h52) ((.cons rfl (.cons rfl (.cons rfl (.cons rfl (.cons rfl .nil)))))) (fun w hh => hh.sel [1, 2, 0] [0, 1, 2, 3, 4, 5] 0 (by decide) (by decide) rfl rfl rfl)
    refine p_share m_laurellaw01_TideAsks_Q0 (fun g => ∀ (b_11 : Nat) (b_12 : Nat), g [(1, ptr b 0), (3, ptr b_11 0), (4, ptr b_12 0), (14, .agg #[.slice qa0 na0 ca0, .int .i64 s0.wind.lo, .int .i64 s0.wind.hi, .slice qa1 na1 ca1, .slice qa2 na2 ca2]), (16, .agg #[.slice qa0 na0 ca0, .int .i64 s0.wind.lo, .int .i64 s0.wind.hi, .slice qa1 na1 ca1, .slice qa2 na2 ca2])] [(b, .cells #[.slice qa0 na0 ca0, .int .i64 s0.wind.lo, .int .i64 s0.wind.hi, .slice qa1 na1 ca1, .slice qa2 na2 ca2] 29 (0, 0)), (b_11, .cells #[slv none 0 0, .int .i64 0, .int .i64 0, slv none 0 0, slv none 0 0] 29 (0, 0)), (b_12, .cells #[slv none 0 0, .int .i64 0, .int .i64 0, slv none 0 0, slv none 0 0] 59 (0, 0))] []) ?_ (fun h55 => ?_)
    ·intro b_11 b_12
     refine p_one rfl ?_
     refine g_callH [] [] rfl rfl rfl rfl rfl rfl rfl (fun a w => Try.call25 a w) (fun w hh => c_laurellaw01_Own s0 qa0 na0 ca0 qa1 na1 ca1 qa2 na2 ca2 w (HV.callee (S0 := []) (vs0 := []) hh (roC (hh.rsep (S0 := []) (vs0 := []) 0 rfl) (roC (hh.rsep (S0 := []) (vs0 := []) 1 rfl) (roC (hh.rsep (S0 := []) (vs0 := []) 2 rfl) roN)))) hna0 hqa0 hla0 hna1 hqa1 hla1 hna2 hqa2 hla2 h15) (fun l_4 h56 => ?_)
     obtain ⟨h57, h58, h59⟩ := h56
     refine g_sel (S' := [_, _, _]) (vs' := [_, _, _]) [0, 1, 2] [0, 1, 2] 0 (by decide) (by decide) rfl rfl rfl ?_
     refine p_next (fun w hh => hh.sel [0] [] 0 (by decide) (by decide) rfl rfl rfl) ?_
     exact p_shr (h34 b_11 b_12 l_4.1 l_4.2.1 l_4.2.2 h57 h58 h59) ((.cons rfl (.cons rfl (.cons rfl (.cons rfl (.cons rfl .nil)))))) (fun w hh => hh)
    refine p_share m_laurellaw01_TideAsks_Q1 (fun g => ∀ (b_13 : Nat) (L_27 : VL) (L_28 : VL) (L_29 : VL), vk 2 L_27 (RW.enc t15.table) → vk 1 L_28 (RI.enc t15.floors) → vk 3 L_29 (RS.enc t15.sills) → g [(1, ptr b 0), (4, ptr b_13 0), (15, .agg #[sL L_27, .int .i64 t15.wind.lo, .int .i64 t15.wind.hi, sL L_28, sL L_29]), (16, .agg #[.slice qa0 na0 ca0, .int .i64 s0.wind.lo, .int .i64 s0.wind.hi, .slice qa1 na1 ca1, .slice qa2 na2 ca2])] [(b, .cells #[.slice qa0 na0 ca0, .int .i64 s0.wind.lo, .int .i64 s0.wind.hi, .slice qa1 na1 ca1, .slice qa2 na2 ca2] 29 (0, 0)), (b_13, .cells #[slv none 0 0, .int .i64 0, .int .i64 0, slv none 0 0, slv none 0 0] 59 (0, 0))] [vL 68 L_27 (RW.enc t15.table), vL 3 L_28 (RI.enc t15.floors), vL 51 L_29 (RS.enc t15.sills)]) ?_ (fun h63 => ?_)
    ·intro b_13 L_27 L_28 L_29 h60 h61 h62
     refine p_br ?_
     refine p_alt rfl ?_ ?_
     ·refine g_callH [] [] rfl rfl rfl rfl rfl rfl rfl (fun a w => Try.call32 a w) (fun w hh => c_laurellaw01_theirs s0 qa0 na0 ca0 qa1 na1 ca1 qa2 na2 ca2 w (HV.callee (S0 := []) (vs0 := []) hh (roC (hh.rsep (S0 := []) (vs0 := []) 0 rfl) (roC (hh.rsep (S0 := []) (vs0 := []) 1 rfl) (roC (hh.rsep (S0 := []) (vs0 := []) 2 rfl) roN)))) hna0 hqa0 hla0 hna1 hqa1 hla1 hna2 hqa2 hla2 h16) (fun l_5 h64 => ?_)
      obtain ⟨h65, h66, h67⟩ := h64
      refine g_sel (S' := [_, _]) (vs' := [_, _, _, _, _, _]) [0, 1] [0, 1, 2, 3, 4, 5] 0 (by decide) (by decide) rfl rfl rfl ?_
      refine p_next (fun w hh => hh.sel [0] [] 0 (by decide) (by decide) rfl rfl rfl) ?_
      exact p_shr (h45 b_13 L_27 L_28 L_29 l_5.1 l_5.2.1 l_5.2.2 h60 h61 h62 h65 h66 h67) ((.cons rfl (.cons rfl (.cons rfl (.cons rfl .nil))))) (fun w hh => hh.sel [0, 1] [3, 4, 5, 0, 1, 2] 0 (by decide) (by decide) rfl rfl rfl)
     refine p_alt rfl ?_ ?_
     ·refine g_allocV (fun w => Try.zeroValue29 w) rfl (fun b_14 h68 => ?_)
      refine p_next (fun w hh => hh.sel [1] [] 0 (by decide) (by decide) rfl rfl rfl) ?_
      exact p_shr (h34 b_14 b_13 L_27 L_28 L_29 h60 h61 h62) ((.cons rfl (.cons rfl (.cons rfl (.cons rfl (.cons rfl .nil)))))) (fun w hh => hh.sel [1, 0, 2] [0, 1, 2] 0 (by decide) (by decide) rfl rfl rfl)
     exact p_nil
    refine p_share m_laurellaw01_TideAsks_Q3 (fun g => ∀ (b_15 : Nat) (L_30 : VL) (L_31 : VL) (L_32 : VL), vk 2 L_30 (RW.enc t15.table) → vk 1 L_31 (RI.enc t15.floors) → vk 3 L_32 (RS.enc t15.sills) → g [(1, ptr b 0), (3, ptr b_15 0), (15, .agg #[sL L_30, .int .i64 t15.wind.lo, .int .i64 t15.wind.hi, sL L_31, sL L_32]), (16, .agg #[.slice qa0 na0 ca0, .int .i64 s0.wind.lo, .int .i64 s0.wind.hi, .slice qa1 na1 ca1, .slice qa2 na2 ca2])] [(b, .cells #[.slice qa0 na0 ca0, .int .i64 s0.wind.lo, .int .i64 s0.wind.hi, .slice qa1 na1 ca1, .slice qa2 na2 ca2] 29 (0, 0)), (b_15, .cells #[slv none 0 0, .int .i64 0, .int .i64 0, slv none 0 0, slv none 0 0] 29 (0, 0))] [vL 68 L_30 (RW.enc t15.table), vL 3 L_31 (RI.enc t15.floors), vL 51 L_32 (RS.enc t15.sills)]) ?_ (fun h72 => ?_)
    ·intro b_15 L_30 L_31 L_32 h69 h70 h71
     refine p_br ?_
     refine p_alt rfl ?_ ?_
     ·refine g_callH [] [] rfl rfl rfl rfl rfl rfl rfl (fun a w => Try.call32 a w) (fun w hh => c_laurellaw01_theirs s0 qa0 na0 ca0 qa1 na1 ca1 qa2 na2 ca2 w (HV.callee (S0 := []) (vs0 := []) hh (roC (hh.rsep (S0 := []) (vs0 := []) 0 rfl) (roC (hh.rsep (S0 := []) (vs0 := []) 1 rfl) (roC (hh.rsep (S0 := []) (vs0 := []) 2 rfl) roN)))) hna0 hqa0 hla0 hna1 hqa1 hla1 hna2 hqa2 hla2 h16) (fun l_6 h73 => ?_)
      obtain ⟨h74, h75, h76⟩ := h73
      refine g_sel (S' := [_, _]) (vs' := [_, _, _, _, _, _]) [0, 1] [0, 1, 2, 3, 4, 5] 0 (by decide) (by decide) rfl rfl rfl ?_
      refine p_next (fun w hh => hh.sel [0] [] 0 (by decide) (by decide) rfl rfl rfl) ?_
      exact p_shr (h53 b_15 L_30 L_31 L_32 l_6.1 l_6.2.1 l_6.2.2 h69 h70 h71 h74 h75 h76) ((.cons rfl (.cons rfl (.cons rfl (.cons rfl .nil))))) (fun w hh => hh.sel [0, 1] [3, 4, 5, 0, 1, 2] 0 (by decide) (by decide) rfl rfl rfl)
     refine p_alt rfl ?_ ?_
     ·refine g_allocV (fun w => Try.zeroValue59 w) rfl (fun b_16 h77 => ?_)
      refine p_next (fun w hh => hh.sel [1] [] 0 (by decide) (by decide) rfl rfl rfl) ?_
      exact p_shr (h34 b_15 b_16 L_30 L_31 L_32 h69 h70 h71) ((.cons rfl (.cons rfl (.cons rfl (.cons rfl (.cons rfl .nil)))))) (fun w hh => hh.sel [1, 2, 0] [0, 1, 2] 0 (by decide) (by decide) rfl rfl rfl)
     exact p_nil
    refine p_br ?_
    refine p_alt rfl ?_ ?_
    ·refine g_callH [] [] rfl rfl rfl rfl rfl rfl rfl (fun a w => Try.call25 a w) (fun w hh => c_laurellaw01_Own s0 qa0 na0 ca0 qa1 na1 ca1 qa2 na2 ca2 w (HV.callee (S0 := []) (vs0 := []) hh (roC (hh.rsep (S0 := []) (vs0 := []) 0 rfl) (roC (hh.rsep (S0 := []) (vs0 := []) 1 rfl) (roC (hh.rsep (S0 := []) (vs0 := []) 2 rfl) roN)))) hna0 hqa0 hla0 hna1 hqa1 hla1 hna2 hqa2 hla2 h15) (fun l_7 h78 => ?_)
     obtain ⟨h79, h80, h81⟩ := h78
     refine g_sel (S' := [_]) (vs' := [_, _, _]) [0] [0, 1, 2] 0 (by decide) (by decide) rfl rfl rfl ?_
     refine p_next (fun w hh => hh.sel [0] [] 0 (by decide) (by decide) rfl rfl rfl) ?_
     refine p_br ?_
     refine p_alt rfl ?_ ?_
     ·refine g_callH [] [] rfl rfl rfl rfl rfl rfl rfl (fun a w => Try.call32 a w) (fun w hh => c_laurellaw01_theirs s0 qa0 na0 ca0 qa1 na1 ca1 qa2 na2 ca2 w (HV.callee (S0 := []) (vs0 := []) hh (roC (hh.rsep (S0 := []) (vs0 := []) 0 rfl) (roC (hh.rsep (S0 := []) (vs0 := []) 1 rfl) (roC (hh.rsep (S0 := []) (vs0 := []) 2 rfl) roN)))) hna0 hqa0 hla0 hna1 hqa1 hla1 hna2 hqa2 hla2 h16) (fun l_8 h82 => ?_)
      obtain ⟨h83, h84, h85⟩ := h82
      refine g_sel (S' := [_]) (vs' := [_, _, _, _, _, _]) [0] [0, 1, 2, 3, 4, 5] 0 (by decide) (by decide) rfl rfl rfl ?_
      refine p_next (fun w hh => hh.sel [0] [] 0 (by decide) (by decide) rfl rfl rfl) ?_
      refine p_br ?_
      refine p_alt rfl ?_ ?_
      ·refine g_allocV (fun w => Try.zeroValue29 w) rfl (fun b_17 h86 => ?_)
       refine p_next (fun w hh => hh.sel [1] [] 0 (by decide) (by decide) rfl rfl rfl) ?_
       exact p_shr (h53 b_17 l_7.1 l_7.2.1 l_7.2.2 l_8.1 l_8.2.1 l_8.2.2 h79 h80 h81 h83 h84 h85) ((.cons rfl (.cons rfl (.cons rfl (.cons rfl .nil))))) (fun w hh => hh.sel [1, 0] [3, 4, 5, 0, 1, 2] 0 (by decide) (by decide) rfl rfl rfl)
      refine p_alt rfl ?_ ?_
      ·refine g_allocV (fun w => Try.zeroValue59 w) rfl (fun b_18 h87 => ?_)
       refine p_next (fun w hh => hh.sel [1] [] 0 (by decide) (by decide) rfl rfl rfl) ?_
       exact p_shr (h45 b_18 l_7.1 l_7.2.1 l_7.2.2 l_8.1 l_8.2.1 l_8.2.2 h79 h80 h81 h83 h84 h85) ((.cons rfl (.cons rfl (.cons rfl (.cons rfl .nil))))) (fun w hh => hh.sel [1, 0] [3, 4, 5, 0, 1, 2] 0 (by decide) (by decide) rfl rfl rfl)
      exact p_nil
     refine p_alt rfl ?_ ?_
     ·refine g_allocV (fun w => Try.zeroValue29 w) rfl (fun b_19 h88 => ?_)
      refine p_next (fun w hh => hh.sel [1] [] 0 (by decide) (by decide) rfl rfl rfl) ?_
      exact p_shr (h72 b_19 l_7.1 l_7.2.1 l_7.2.2 h79 h80 h81) ((.cons rfl (.cons rfl (.cons rfl (.cons rfl .nil))))) (fun w hh => hh.sel [1, 0] [0, 1, 2] 0 (by decide) (by decide) rfl rfl rfl)
     refine p_alt rfl ?_ ?_
     ·refine g_allocV (fun w => Try.zeroValue59 w) rfl (fun b_20 h89 => ?_)
      refine p_next (fun w hh => hh.sel [1] [] 0 (by decide) (by decide) rfl rfl rfl) ?_
      exact p_shr (h63 b_20 l_7.1 l_7.2.1 l_7.2.2 h79 h80 h81) ((.cons rfl (.cons rfl (.cons rfl (.cons rfl .nil))))) (fun w hh => hh.sel [1, 0] [0, 1, 2] 0 (by decide) (by decide) rfl rfl rfl)
     exact p_nil
    refine p_alt rfl ?_ ?_
    ·refine g_allocV (fun w => Try.zeroValue29 w) rfl (fun b_21 h90 => ?_)
     refine p_next (fun w hh => hh.sel [1] [] 0 (by decide) (by decide) rfl rfl rfl) ?_
     refine p_br ?_
     refine p_alt rfl ?_ ?_
     ·refine g_callH [] [] rfl rfl rfl rfl rfl rfl rfl (fun a w => Try.call25 a w) (fun w hh => c_laurellaw01_Own s0 qa0 na0 ca0 qa1 na1 ca1 qa2 na2 ca2 w (HV.callee (S0 := []) (vs0 := []) hh (roC (hh.rsep (S0 := []) (vs0 := []) 0 rfl) (roC (hh.rsep (S0 := []) (vs0 := []) 1 rfl) (roC (hh.rsep (S0 := []) (vs0 := []) 2 rfl) roN)))) hna0 hqa0 hla0 hna1 hqa1 hla1 hna2 hqa2 hla2 h15) (fun l_9 h91 => ?_)
      obtain ⟨h92, h93, h94⟩ := h91
      refine g_sel (S' := [_, _]) (vs' := [_, _, _]) [0, 1] [0, 1, 2] 0 (by decide) (by decide) rfl rfl rfl ?_
      refine p_next (fun w hh => hh.sel [1] [] 0 (by decide) (by decide) rfl rfl rfl) ?_
      exact p_shr (h72 b_21 l_9.1 l_9.2.1 l_9.2.2 h92 h93 h94) ((.cons rfl (.cons rfl (.cons rfl (.cons rfl .nil))))) (fun w hh => hh.sel [1, 0] [0, 1, 2] 0 (by decide) (by decide) rfl rfl rfl)
     refine p_alt rfl ?_ ?_
     ·refine g_allocV (fun w => Try.zeroValue59 w) rfl (fun b_22 h95 => ?_)
      refine p_next (fun w hh => hh.sel [2] [] 0 (by decide) (by decide) rfl rfl rfl) ?_
      exact p_shr (h55 b_21 b_22) ((.cons rfl (.cons rfl (.cons rfl (.cons rfl (.cons rfl .nil)))))) (fun w hh => hh.sel [2, 1, 0] [] 0 (by decide) (by decide) rfl rfl rfl)
     exact p_nil
    refine p_alt rfl ?_ ?_
    ·refine g_allocV (fun w => Try.zeroValue59 w) rfl (fun b_23 h96 => ?_)
     refine p_next (fun w hh => hh.sel [1] [] 0 (by decide) (by decide) rfl rfl rfl) ?_
     refine p_br ?_
     refine p_alt rfl ?_ ?_
     ·refine g_callH [] [] rfl rfl rfl rfl rfl rfl rfl (fun a w => Try.call25 a w) (fun w hh => c_laurellaw01_Own s0 qa0 na0 ca0 qa1 na1 ca1 qa2 na2 ca2 w (HV.callee (S0 := []) (vs0 := []) hh (roC (hh.rsep (S0 := []) (vs0 := []) 0 rfl) (roC (hh.rsep (S0 := []) (vs0 := []) 1 rfl) (roC (hh.rsep (S0 := []) (vs0 := []) 2 rfl) roN)))) hna0 hqa0 hla0 hna1 hqa1 hla1 hna2 hqa2 hla2 h15) (fun l_10 h97 => ?_)
      obtain ⟨h98, h99, h100⟩ := h97
      refine g_sel (S' := [_, _]) (vs' := [_, _, _]) [0, 1] [0, 1, 2] 0 (by decide) (by decide) rfl rfl rfl ?_
      refine p_next (fun w hh => hh.sel [1] [] 0 (by decide) (by decide) rfl rfl rfl) ?_
      exact p_shr (h63 b_23 l_10.1 l_10.2.1 l_10.2.2 h98 h99 h100) ((.cons rfl (.cons rfl (.cons rfl (.cons rfl .nil))))) (fun w hh => hh.sel [1, 0] [0, 1, 2] 0 (by decide) (by decide) rfl rfl rfl)
     refine p_alt rfl ?_ ?_
     ·refine g_allocV (fun w => Try.zeroValue29 w) rfl (fun b_24 h101 => ?_)
      refine p_next (fun w hh => hh.sel [2] [] 0 (by decide) (by decide) rfl rfl rfl) ?_
      exact p_shr (h55 b_24 b_23) ((.cons rfl (.cons rfl (.cons rfl (.cons rfl (.cons rfl .nil)))))) (fun w hh => hh.sel [2, 0, 1] [] 0 (by decide) (by decide) rfl rfl rfl)
     exact p_nil
    exact p_nil
   ·intro l_2 hj
    obtain ⟨h9, h10, h11, h12, h13, h14⟩ := hj
    replace hm := h8
    refine g_n_then ?_
    refine g_seq ?_
    refine g_region ?_
    refine g_val rfl rfl rfl (fun w hh => v_loadAgg (vs := [_, _, _, _, _]) (Try.isAgg59 w) (Try.sizeOf59 w) rfl (hh.cells 2 rfl rfl)) ?_
    obtain ⟨t19, h102, hm⟩ := bindO hm
    refine g_callH [] [] rfl rfl rfl rfl rfl rfl rfl (fun a w => Try.call33 a w) (fun w hh => c_laurelref01_Check o.x4 (qA l_2.2.2.2.2.2.1.q) l_2.2.2.2.2.2.1.n l_2.2.2.2.2.2.1.cap (qA l_2.2.2.2.2.2.2.1.q) l_2.2.2.2.2.2.2.1.n l_2.2.2.2.2.2.2.1.cap (qA l_2.2.2.2.2.2.2.2.q) l_2.2.2.2.2.2.2.2.n l_2.2.2.2.2.2.2.2.cap w (HV.callee (S0 := []) (vs0 := []) hh (roC (hh.vsepA (S0 := []) (vs0 := []) 3 rfl h12) (roC (hh.vsepA (S0 := []) (vs0 := []) 4 rfl h13) (roC (hh.vsepA (S0 := []) (vs0 := []) 5 rfl h14) roN)))) (vlen RW h12 rfl) (AOK.q (vne h12)) (h12).hle (vlen RI h13 rfl) (AOK.q (vne h13)) (h13).hle (vlen RS h14 rfl) (AOK.q (vne h14)) (h14).hle h102) (fun l_11 h103 => ?_)
    refine g_val rfl rfl rfl (fun _ _ => v_assign rfl) ?_
    refine g_nil ?_
    refine g_n_then ?_
    refine g_seq ?_
    refine g_region ?_
    refine g_val rfl rfl rfl (fun _ _ => v_build (vs := []) (cells := [_, _, _]) rfl rfl) ?_
    refine g_allocV (fun w => Try.zeroValue101 w) rfl (fun b_25 h104 => ?_)
    refine g_stSA (us := #[_, _, _]) (cs' := [_, _, _]) (S' := [_, _, _, _]) 0 (fun w => Try.sizeOf101 w) rfl rfl rfl rfl rfl rfl rfl ?_
    refine g_val rfl rfl rfl (fun _ _ => v_assign rfl) ?_
    refine g_nil ?_
    refine g_n_then ?_
    refine g_seq ?_
    obtain ⟨o_1, h105, h106⟩ := bindO hm
    refine g_cut (ι := Unit) (fun l_12 => True) (fun l_12 => [(1, ptr b 0), (3, ptr l_2.1 0), (5, .int .i64 o_1.w5), (6, ptr b_25 0), (7, .int .i64 o_1.few7)]) (fun l_12 => [(b_25, .cells #[.int .i64 o_1.want6_min, .int .i64 o_1.want6_place, .bool o_1.want6_wet] 101 (0, 0)), (b, .cells #[.slice qa0 na0 ca0, .int .i64 s0.wind.lo, .int .i64 s0.wind.hi, .slice qa1 na1 ca1, .slice qa2 na2 ca2] 29 (0, 0)), (l_2.1, .cells #[slv l_2.2.2.1.q l_2.2.2.1.n l_2.2.2.1.cap, .int .i64 o.own3.wind.lo, .int .i64 o.own3.wind.hi, slv l_2.2.2.2.1.q l_2.2.2.2.1.n l_2.2.2.2.1.cap, slv l_2.2.2.2.2.1.q l_2.2.2.2.2.1.n l_2.2.2.2.2.1.cap] 29 (0, 0)), (l_2.2.1, .cells #[slv l_2.2.2.2.2.2.1.q l_2.2.2.2.2.2.1.n l_2.2.2.2.2.2.1.cap, .int .i64 o.x4.wind.lo, .int .i64 o.x4.wind.hi, slv l_2.2.2.2.2.2.2.1.q l_2.2.2.2.2.2.2.1.n l_2.2.2.2.2.2.2.1.cap, slv l_2.2.2.2.2.2.2.2.q l_2.2.2.2.2.2.2.2.n l_2.2.2.2.2.2.2.2.cap] 59 (0, 0))]) (fun l_12 => [⟨68, RW.enc o.own3.table, l_2.2.2.1.sp, l_2.2.2.1.q⟩, ⟨3, RI.enc o.own3.floors, l_2.2.2.2.1.sp, l_2.2.2.2.1.q⟩, ⟨51, RS.enc o.own3.sills, l_2.2.2.2.2.1.sp, l_2.2.2.2.2.1.q⟩, ⟨158, RW.enc o.x4.table, l_2.2.2.2.2.2.1.sp, l_2.2.2.2.2.2.1.q⟩, ⟨3, RI.enc o.x4.floors, l_2.2.2.2.2.2.2.1.sp, l_2.2.2.2.2.2.2.1.q⟩, ⟨159, RS.enc o.x4.sills, l_2.2.2.2.2.2.2.2.sp, l_2.2.2.2.2.2.2.2.q⟩]) ?_ ?_
    ·replace hm := h105
     refine g_seq ?_
     refine g_region ?_
     refine g_val rfl rfl rfl (fun _ _ => v_move rfl) ?_
     refine g_val rfl rfl rfl (fun _ _ => v_eql rfl rfl) ?_
     refine g_nil ?_
     refine g_n_then ?_
     refine g_cond rfl (fun h107 => ?_) (fun h107 => ?_)
     ·replace hm := ifT (of_decide_eq_true h107) hm
      refine g_seq ?_
      refine g_region ?_
      refine g_val rfl rfl rfl (fun w _ => v_fieldAddr 1 (Try.runUnderlying29 w) rfl (Try.sizeOf25 w) rfl) ?_
      refine g_val rfl rfl rfl (fun w _ => v_fieldAddr 0 (Try.runUnderlying25 w) rfl (Try.sizeOf3 w) rfl) ?_
      refine g_val rfl rfl rfl (fun w hh => v_load (Try.isAgg3 w) rfl (hh.cell 1 rfl rfl)) ?_
      refine g_val rfl rfl rfl (fun w _ => v_fieldAddr 1 (Try.runUnderlying29 w) rfl (Try.sizeOf25 w) rfl) ?_
      refine g_val rfl rfl rfl (fun w _ => v_fieldAddr 1 (Try.runUnderlying25 w) rfl (Try.sizeOf3 w) rfl) ?_
      refine g_val rfl rfl rfl (fun w hh => v_load (Try.isAgg3 w) rfl (hh.cell 1 rfl rfl)) ?_
      refine g_val rfl rfl rfl (fun _ _ => v_eql rfl rfl) ?_
      refine g_nil ?_
      refine g_n_then ?_
      refine g_cond rfl (fun h108 => ?_) (fun h108 => ?_)
      ·replace hm := ifT (of_decide_eq_true h108) hm
       refine g_region ?_
       refine g_val rfl rfl rfl (fun _ _ => v_assign rfl) ?_
       refine g_nil ?_
       obtain rfl := Option.some.inj hm
       exact g_leaf () (trivial) ((.cons rfl (.cons rfl (.cons rfl (.cons rfl (.cons rfl .nil)))))) (fun w hh => hh)
      ·replace hm := ifF (of_decide_eq_false h108) hm
       refine g_draw none (.hoist 0 (.hoist 1 (.one 2 (.one 3 (.free 4 (.free 5 (.free 6 (.one 7 (.free 8 .done))))))))) (HV _ _ [(b, .cells #[.slice qa0 na0 ca0, .int .i64 s0.wind.lo, .int .i64 s0.wind.hi, .slice qa1 na1 ca1, .slice qa2 na2 ca2] 29 (0, 0)), (l_2.1, .cells #[slv l_2.2.2.1.q l_2.2.2.1.n l_2.2.2.1.cap, .int .i64 o.own3.wind.lo, .int .i64 o.own3.wind.hi, slv l_2.2.2.2.1.q l_2.2.2.2.1.n l_2.2.2.2.1.cap, slv l_2.2.2.2.2.1.q l_2.2.2.2.2.1.n l_2.2.2.2.2.1.cap] 29 (0, 0)), (l_2.2.1, .cells #[slv l_2.2.2.2.2.2.1.q l_2.2.2.2.2.2.1.n l_2.2.2.2.2.2.1.cap, .int .i64 o.x4.wind.lo, .int .i64 o.x4.wind.hi, slv l_2.2.2.2.2.2.2.1.q l_2.2.2.2.2.2.2.1.n l_2.2.2.2.2.2.2.1.cap, slv l_2.2.2.2.2.2.2.2.q l_2.2.2.2.2.2.2.2.n l_2.2.2.2.2.2.2.2.cap] 59 (0, 0))] [⟨68, RW.enc o.own3.table, l_2.2.2.1.sp, l_2.2.2.1.q⟩, ⟨3, RI.enc o.own3.floors, l_2.2.2.2.1.sp, l_2.2.2.2.1.q⟩, ⟨51, RS.enc o.own3.sills, l_2.2.2.2.2.1.sp, l_2.2.2.2.2.1.q⟩, ⟨158, RW.enc o.x4.table, l_2.2.2.2.2.2.1.sp, l_2.2.2.2.2.2.1.q⟩, ⟨3, RI.enc o.x4.floors, l_2.2.2.2.2.2.2.1.sp, l_2.2.2.2.2.2.2.1.q⟩, ⟨159, RS.enc o.x4.sills, l_2.2.2.2.2.2.2.2.sp, l_2.2.2.2.2.2.2.2.q⟩] _) rfl (by decide +kernel) (fun w k hh => hh.draw k) (fun w hh => hh.sel [1, 2, 3] [0, 1, 2, 3, 4, 5] 0 (by decide) (by decide) rfl rfl rfl) ?_
       refine p_hoist rfl rfl rfl rfl (fun w hh => v_loadAgg (vs := [_, _, _, _, _]) (Try.isAgg59 w) (Try.sizeOf59 w) rfl (hh.cells 2 rfl rfl)) ?_
       refine p_hoist rfl rfl rfl rfl (fun w hh => v_loadAgg (vs := [_, _, _, _, _]) (Try.isAgg59 w) (Try.sizeOf59 w) rfl (hh.cells 2 rfl rfl)) ?_
       refine p_one rfl ?_
       obtain ⟨t33, h109, hm⟩ := bindO hm
       refine g_callH [] [] rfl rfl rfl rfl rfl rfl rfl (fun a w => Try.call43 a w) (fun w hh => c_laurelref01_Gates o.x4 (qA l_2.2.2.2.2.2.1.q) l_2.2.2.2.2.2.1.n l_2.2.2.2.2.2.1.cap (qA l_2.2.2.2.2.2.2.1.q) l_2.2.2.2.2.2.2.1.n l_2.2.2.2.2.2.2.1.cap (qA l_2.2.2.2.2.2.2.2.q) l_2.2.2.2.2.2.2.2.n l_2.2.2.2.2.2.2.2.cap w (HV.callee (S0 := []) (vs0 := []) hh (roC (hh.vsepA (S0 := []) (vs0 := []) 3 rfl h12) (roC (hh.vsepA (S0 := []) (vs0 := []) 4 rfl h13) (roC (hh.vsepA (S0 := []) (vs0 := []) 5 rfl h14) roN)))) (vlen RW h12 rfl) (AOK.q (vne h12)) (h12).hle (vlen RI h13 rfl) (AOK.q (vne h13)) (h13).hle (vlen RS h14 rfl) (AOK.q (vne h14)) (h14).hle h109) (fun l_13 h110 => ?_)
       have h111 := h110
       refine g_sel (S' := [_, _, _, _]) (vs' := [_, _, _, _, _, _, _]) [0, 1, 2, 3] [0, 1, 2, 3, 4, 5, 6] 0 (by decide) (by decide) rfl rfl rfl ?_
       refine p_next (fun w hh => hh.sel [1, 2, 3] [1, 2, 3, 4, 5, 6] 0 (by decide) (by decide) rfl rfl rfl) ?_
       refine p_one rfl ?_
       obtain ⟨t34, h112, hm⟩ := bindO hm
       refine g_callH [] [] rfl rfl rfl rfl rfl rfl rfl (fun a w => Try.call61 a w) (fun w hh => c_laurelref01_Ask o.x4 t33 (qA l_2.2.2.2.2.2.1.q) l_2.2.2.2.2.2.1.n l_2.2.2.2.2.2.1.cap (qA l_2.2.2.2.2.2.2.1.q) l_2.2.2.2.2.2.2.1.n l_2.2.2.2.2.2.2.1.cap (qA l_2.2.2.2.2.2.2.2.q) l_2.2.2.2.2.2.2.2.n l_2.2.2.2.2.2.2.2.cap (qA l_13.q) l_13.n l_13.cap w (HV.callee (S0 := []) (vs0 := []) hh (roC (hh.vsepA (S0 := []) (vs0 := []) 4 rfl h12) (roC (hh.vsepA (S0 := []) (vs0 := []) 5 rfl h13) (roC (hh.vsepA (S0 := []) (vs0 := []) 6 rfl h14) (roC (hh.vsepA (S0 := []) (vs0 := []) 0 rfl h111) roN))))) (vlen RW h12 rfl) (AOK.q (vne h12)) (h12).hle (vlen RI h13 rfl) (AOK.q (vne h13)) (h13).hle (vlen RS h14 rfl) (AOK.q (vne h14)) (h14).hle (vlen RI h111 rfl) (AOK.q (vne h111)) (h111).hle h112) (fun l_14 h113 => ?_)
       refine p_next (fun w hh => hh.sel [1, 2, 3] [1, 2, 3, 4, 5, 6] 0 (by decide) (by decide) rfl rfl rfl) ?_
       refine p_free rfl rfl rfl rfl (fun _ _ => v_move rfl) ?_
       refine p_free rfl rfl rfl rfl (fun _ _ => v_extract rfl rfl) ?_
       refine p_free rfl rfl rfl rfl (fun _ _ => v_extract rfl rfl) ?_
       refine p_one rfl ?_
       refine g_stSA (us := #[_, _, _]) (cs' := [_, _, _]) (S' := [_, _, _, _]) 0 (fun w => Try.sizeOf101 w) rfl rfl rfl rfl rfl rfl rfl ?_
       refine p_next (fun w hh => hh.sel [1, 2, 3] [1, 2, 3, 4, 5, 6] 0 (by decide) (by decide) rfl rfl rfl) ?_
       refine p_free rfl rfl rfl rfl (fun _ _ => v_assign rfl) ?_
       refine p_done ?_
       obtain rfl := Option.some.inj hm
       exact g_leaf () (trivial) ((.cons rfl (.cons rfl (.cons rfl (.cons rfl (.cons rfl .nil)))))) (fun w hh => hh.sel [0, 1, 2, 3] [1, 2, 3, 4, 5, 6] 0 (by decide) (by decide) rfl rfl rfl)
     ·replace hm := ifF (of_decide_eq_false h107) hm
      refine g_skip ?_
      obtain rfl := Option.some.inj hm
      exact g_leaf () (trivial) ((.cons rfl (.cons rfl (.cons rfl (.cons rfl (.cons rfl .nil)))))) (fun w hh => hh)
    ·intro l_12 hj
     replace hm := h106
     refine g_n_then ?_
     refine g_seq ?_
     refine g_region ?_
     refine g_val rfl rfl rfl (fun w hh => v_loadAgg (vs := [_, _, _, _, _]) (Try.isAgg29 w) (Try.sizeOf29 w) rfl (hh.cells 2 rfl rfl)) ?_
     obtain ⟨t39, h114, hm⟩ := bindO hm
     refine g_callH [] [] rfl rfl rfl rfl rfl rfl rfl (fun a w => Try.call62 a w) (fun w hh => c_tide_Ask_1 o.own3 l_2.2.2.1.q l_2.2.2.1.n l_2.2.2.1.cap l_2.2.2.2.1.q l_2.2.2.2.1.n l_2.2.2.2.1.cap l_2.2.2.2.2.1.q l_2.2.2.2.2.1.n l_2.2.2.2.2.1.cap w (HV.callee (S0 := []) (vs0 := []) hh (roC (hh.vsep (S0 := []) (vs0 := []) 0 rfl h9) (roC (hh.vsep (S0 := []) (vs0 := []) 1 rfl h10) (roC (hh.vsep (S0 := []) (vs0 := []) 2 rfl h11) roN)))) (vlen RW h9 rfl) (vne h9) (h9).hle (vlen RI h10 rfl) (vne h10) (h10).hle (vlen RS h11 rfl) (vne h11) (h11).hle h114) (fun l_15 h115 => ?_)
     refine g_val rfl rfl rfl (fun _ _ => v_move rfl) ?_
     refine g_val rfl rfl rfl (fun _ _ => v_extract rfl rfl) ?_
     refine g_val rfl rfl rfl (fun _ _ => v_extract rfl rfl) ?_
     refine g_val rfl rfl rfl (fun _ _ => v_extract rfl rfl) ?_
     refine g_allocV (fun w => Try.zeroValue89 w) rfl (fun b_26 h116 => ?_)
     refine g_stSA (us := #[_, _, _]) (cs' := [_, _, _]) (S' := [_, _, _, _, _]) 0 (fun w => Try.sizeOf89 w) rfl rfl rfl rfl rfl rfl rfl ?_
     refine g_val rfl rfl rfl (fun _ _ => v_assign rfl) ?_
     refine g_val rfl rfl rfl (fun _ _ => v_assign rfl) ?_
     refine g_nil ?_
     refine g_n_then ?_
     refine g_seq ?_
     obtain ⟨o_2, h117, h118⟩ := bindO hm
     refine g_cut (ι := Unit) (fun l_16 => True) (fun l_16 => [(2, .bool o_2)]) (fun l_16 => [(b_26, .cells #[.int .i64 t39.r0.min, .int .i64 t39.r0.place, .bool t39.r0.wet] 89 (0, 0)), (b_25, .cells #[.int .i64 o_1.want6_min, .int .i64 o_1.want6_place, .bool o_1.want6_wet] 101 (0, 0)), (b, .cells #[.slice qa0 na0 ca0, .int .i64 s0.wind.lo, .int .i64 s0.wind.hi, .slice qa1 na1 ca1, .slice qa2 na2 ca2] 29 (0, 0)), (l_2.1, .cells #[slv l_2.2.2.1.q l_2.2.2.1.n l_2.2.2.1.cap, .int .i64 o.own3.wind.lo, .int .i64 o.own3.wind.hi, slv l_2.2.2.2.1.q l_2.2.2.2.1.n l_2.2.2.2.1.cap, slv l_2.2.2.2.2.1.q l_2.2.2.2.2.1.n l_2.2.2.2.2.1.cap] 29 (0, 0)), (l_2.2.1, .cells #[slv l_2.2.2.2.2.2.1.q l_2.2.2.2.2.2.1.n l_2.2.2.2.2.2.1.cap, .int .i64 o.x4.wind.lo, .int .i64 o.x4.wind.hi, slv l_2.2.2.2.2.2.2.1.q l_2.2.2.2.2.2.2.1.n l_2.2.2.2.2.2.2.1.cap, slv l_2.2.2.2.2.2.2.2.q l_2.2.2.2.2.2.2.2.n l_2.2.2.2.2.2.2.2.cap] 59 (0, 0))]) (fun l_16 => [⟨68, RW.enc o.own3.table, l_2.2.2.1.sp, l_2.2.2.1.q⟩, ⟨3, RI.enc o.own3.floors, l_2.2.2.2.1.sp, l_2.2.2.2.1.q⟩, ⟨51, RS.enc o.own3.sills, l_2.2.2.2.2.1.sp, l_2.2.2.2.2.1.q⟩, ⟨158, RW.enc o.x4.table, l_2.2.2.2.2.2.1.sp, l_2.2.2.2.2.2.1.q⟩, ⟨3, RI.enc o.x4.floors, l_2.2.2.2.2.2.2.1.sp, l_2.2.2.2.2.2.2.1.q⟩, ⟨159, RS.enc o.x4.sills, l_2.2.2.2.2.2.2.2.sp, l_2.2.2.2.2.2.2.2.q⟩]) ?_ ?_
     ·replace hm := h117
      refine g_region ?_
      refine g_val rfl rfl rfl (fun _ _ => v_move rfl) ?_
      refine g_val rfl rfl rfl (fun _ _ => v_move rfl) ?_
      refine g_val rfl rfl rfl (fun _ _ => v_eql rfl rfl) ?_
      refine g_val rfl rfl rfl (fun _ _ => v_move rfl) ?_
      refine g_case 46 rfl (fun h119 => ?_) (fun h119 => ?_)
      ·replace hm := ifT (of_decide_eq_true h119) hm
       refine v_unguard rfl rfl ?_
       refine g_val rfl rfl rfl (fun _ _ => v_move rfl) ?_
       refine v_unguard rfl rfl ?_
       refine g_val rfl rfl rfl (fun _ _ => v_move rfl) ?_
       refine v_unguard rfl rfl ?_
       refine g_val rfl rfl rfl (fun _ _ => v_eql rfl rfl) ?_
       refine g_val rfl rfl rfl (fun _ _ => v_pickT rfl rfl) ?_
       refine g_val rfl rfl rfl (fun _ _ => v_move rfl) ?_
       refine g_case 51 rfl (fun h120 => ?_) (fun h120 => ?_)
       ·replace hm := ifT (of_decide_eq_true h120) hm
        refine v_unguard rfl rfl ?_
        refine g_val rfl rfl rfl (fun w hh => v_loadAgg (vs := [_, _, _]) (Try.isAgg89 w) (Try.sizeOf89 w) rfl (hh.cells 0 rfl rfl)) ?_
        refine v_unguard rfl rfl ?_
        refine g_val rfl rfl rfl (fun w hh => v_loadAgg (vs := [_, _, _]) (Try.isAgg101 w) (Try.sizeOf101 w) rfl (hh.cells 1 rfl rfl)) ?_
        refine v_unguard rfl rfl ?_
        refine g_val rfl rfl rfl (fun w _ => v_eqlAgg (gxeq101 t39.r0 (⟨o_1.want6_min, o_1.want6_place, o_1.want6_wet⟩ : Look) w) gxeqg101 rfl rfl) ?_
        refine g_val rfl rfl rfl (fun _ _ => v_pickT rfl rfl) ?_
        refine g_val rfl rfl rfl (fun _ _ => v_move rfl) ?_
        refine g_case 56 rfl (fun h121 => ?_) (fun h121 => ?_)
        ·replace hm := ifT (of_decide_eq_true h121) hm
         refine v_unguard rfl rfl ?_
         refine g_val rfl rfl rfl (fun w hh => v_loadAgg (vs := [_, _, _, _, _]) (Try.isAgg29 w) (Try.sizeOf29 w) rfl (hh.cells 3 rfl rfl)) ?_
         refine v_unguard rfl rfl ?_
         refine g_val rfl rfl rfl (fun w hh => v_loadAgg (vs := [_, _, _, _, _]) (Try.isAgg29 w) (Try.sizeOf29 w) rfl (hh.cells 2 rfl rfl)) ?_
         refine v_unguard rfl rfl ?_
         obtain ⟨t59, h122, hm⟩ := bindO hm
         refine g_callH [] [] rfl rfl rfl rfl rfl rfl rfl (fun a w => Try.call38 a w) (fun w hh => c_laurellaw01_same o.own3 s0 (qA l_2.2.2.1.q) l_2.2.2.1.n l_2.2.2.1.cap (qA l_2.2.2.2.1.q) l_2.2.2.2.1.n l_2.2.2.2.1.cap (qA l_2.2.2.2.2.1.q) l_2.2.2.2.2.1.n l_2.2.2.2.2.1.cap qa0 na0 ca0 qa1 na1 ca1 qa2 na2 ca2 w (HV.callee (S0 := []) (vs0 := []) hh (roC (hh.vsepA (S0 := []) (vs0 := []) 0 rfl h9) (roC (hh.vsepA (S0 := []) (vs0 := []) 1 rfl h10) (roC (hh.vsepA (S0 := []) (vs0 := []) 2 rfl h11) (roC (hh.rsep (S0 := []) (vs0 := []) 0 rfl) (roC (hh.rsep (S0 := []) (vs0 := []) 1 rfl) (roC (hh.rsep (S0 := []) (vs0 := []) 2 rfl) roN))))))) (vlen RW h9 rfl) (AOK.q (vne h9)) (h9).hle (vlen RI h10 rfl) (AOK.q (vne h10)) (h10).hle (vlen RS h11 rfl) (AOK.q (vne h11)) (h11).hle hna0 hqa0 hla0 hna1 hqa1 hla1 hna2 hqa2 hla2 h122) (fun l_17 h123 => ?_)
         refine g_val rfl rfl rfl (fun _ _ => v_pickT rfl rfl) ?_
         refine g_val rfl rfl rfl (fun _ _ => v_move rfl) ?_
         refine g_case 61 rfl (fun h124 => ?_) (fun h124 => ?_)
         ·replace hm := ifT (h124) hm
          refine v_unguard rfl rfl ?_
          obtain ⟨t62, h125, hm⟩ := bindO hm
          refine g_callH [] [] rfl rfl rfl rfl rfl rfl rfl (fun a w => Try.call30 a w) (fun w hh => cx_awake  w (HV.callee (S0 := []) (vs0 := []) hh roN)  h125) (fun l_18 h126 => ?_)
          refine g_val rfl rfl rfl (fun _ _ => v_pickT rfl rfl) ?_
          refine g_val rfl rfl rfl (fun _ _ => v_assign rfl) ?_
          refine g_nil ?_
          obtain rfl := Option.some.inj hm
          exact g_leaf () (trivial) ((.cons rfl .nil)) (fun w hh => hh)
         ·replace hm := ifF ((fun hh => Bool.noConfusion ((h124).symm.trans hh))) hm
          refine g_skipG rfl rfl rfl rfl rfl rfl ?_
          refine g_val rfl rfl rfl (fun _ _ => v_pickF rfl rfl) ?_
          refine g_val rfl rfl rfl (fun _ _ => v_assign rfl) ?_
          refine g_nil ?_
          obtain rfl := Option.some.inj hm
          exact g_leaf () (trivial) ((.cons rfl .nil)) (fun w hh => hh)
        ·replace hm := ifF (of_decide_eq_false h121) hm
         refine g_skipG rfl rfl rfl rfl rfl rfl ?_
         refine g_skipG rfl rfl rfl rfl rfl rfl ?_
         refine g_skipG rfl rfl rfl rfl rfl rfl ?_
         refine g_val rfl rfl rfl (fun _ _ => v_pickF rfl rfl) ?_
         refine g_val rfl rfl rfl (fun _ _ => v_move rfl) ?_
         refine g_skipG rfl rfl rfl rfl rfl rfl ?_
         refine g_val rfl rfl rfl (fun _ _ => v_pickF rfl rfl) ?_
         refine g_val rfl rfl rfl (fun _ _ => v_assign rfl) ?_
         refine g_nil ?_
         obtain rfl := Option.some.inj hm
         exact g_leaf () (trivial) ((.cons rfl .nil)) (fun w hh => hh)
       ·replace hm := ifF (of_decide_eq_false h120) hm
        refine g_skipG rfl rfl rfl rfl rfl rfl ?_
        refine g_skipG rfl rfl rfl rfl rfl rfl ?_
        refine g_skipG rfl rfl rfl rfl rfl rfl ?_
        refine g_val rfl rfl rfl (fun _ _ => v_pickF rfl rfl) ?_
        refine g_val rfl rfl rfl (fun _ _ => v_move rfl) ?_
        refine g_skipG rfl rfl rfl rfl rfl rfl ?_
        refine g_skipG rfl rfl rfl rfl rfl rfl ?_
        refine g_skipG rfl rfl rfl rfl rfl rfl ?_
        refine g_val rfl rfl rfl (fun _ _ => v_pickF rfl rfl) ?_
        refine g_val rfl rfl rfl (fun _ _ => v_move rfl) ?_
        refine g_skipG rfl rfl rfl rfl rfl rfl ?_
        refine g_val rfl rfl rfl (fun _ _ => v_pickF rfl rfl) ?_
        refine g_val rfl rfl rfl (fun _ _ => v_assign rfl) ?_
        refine g_nil ?_
        obtain rfl := Option.some.inj hm
        exact g_leaf () (trivial) ((.cons rfl .nil)) (fun w hh => hh)
      ·replace hm := ifF (of_decide_eq_false h119) hm
       refine g_skipG rfl rfl rfl rfl rfl rfl ?_
       refine g_skipG rfl rfl rfl rfl rfl rfl ?_
       refine g_skipG rfl rfl rfl rfl rfl rfl ?_
       refine g_val rfl rfl rfl (fun _ _ => v_pickF rfl rfl) ?_
       refine g_val rfl rfl rfl (fun _ _ => v_move rfl) ?_
       refine g_skipG rfl rfl rfl rfl rfl rfl ?_
       refine g_skipG rfl rfl rfl rfl rfl rfl ?_
       refine g_skipG rfl rfl rfl rfl rfl rfl ?_
       refine g_val rfl rfl rfl (fun _ _ => v_pickF rfl rfl) ?_
       refine g_val rfl rfl rfl (fun _ _ => v_move rfl) ?_
       refine g_skipG rfl rfl rfl rfl rfl rfl ?_
       refine g_skipG rfl rfl rfl rfl rfl rfl ?_
       refine g_skipG rfl rfl rfl rfl rfl rfl ?_
       refine g_val rfl rfl rfl (fun _ _ => v_pickF rfl rfl) ?_
       refine g_val rfl rfl rfl (fun _ _ => v_move rfl) ?_
       refine g_skipG rfl rfl rfl rfl rfl rfl ?_
       refine g_val rfl rfl rfl (fun _ _ => v_pickF rfl rfl) ?_
       refine g_val rfl rfl rfl (fun _ _ => v_assign rfl) ?_
       refine g_nil ?_
       obtain rfl := Option.some.inj hm
       exact g_leaf () (trivial) ((.cons rfl .nil)) (fun w hh => hh)
     ·intro l_16 hj
      replace hm := h118
      refine g_n_then ?_
      refine g_ret ?_
      obtain rfl := Option.some.inj hm
      refine g_done rfl (fun w hh => (.tmp rfl .nil)) (fun w hh => ⟨(), rfl, trivial, hh.sel [] [] 3 (by decide) (by decide) rfl rfl rfl⟩)
end Go.Proofs.Wk
namespace Go.Gx
/-! ### plain programs: what they come to -/
theorem addc_eq {a b : Int} (h : -9223372036854775808 ≤ a + b ∧ a + b ≤ 9223372036854775807) : addc a b = some (a + b) := if_pos h
theorem subc_eq {a b : Int} (h : -9223372036854775808 ≤ a - b ∧ a - b ≤ 9223372036854775807) : subc a b = some (a - b) := if_pos h
theorem mulc_eq {a b : Int} (h : -9223372036854775808 ≤ a * b ∧ a * b ≤ 9223372036854775807) : mulc a b = some (a * b) := if_pos h
theorem negc_eq {a : Int} (h : -9223372036854775808 ≤ -a ∧ -a ≤ 9223372036854775807) : negc a = some (-a) := if_pos h
theorem quoc_eq {a b : Int} (h0 : b ≠ 0) (h : -9223372036854775808 ≤ a.tdiv b ∧ a.tdiv b ≤ 9223372036854775807) : quoc a b = some (a.tdiv b) := if_pos ⟨h0, h⟩
theorem remc_eq {a b : Int} (h0 : b ≠ 0) : remc a b = some (a.tmod b) := if_pos h0
theorem ix_eq {α : Type} {l : List α} {i : Int} (d : α) (h0 : 0 ≤ i) (h1 : i < l.length) : ix l i = some (l.getD i.toNat d) := by
  unfold ix
  rw [if_neg (by omega), List.getD_eq_getElem?_getD]
  have : i.toNat < l.length := by omega
  simp [this]
theorem ix_nat {α : Type} {l : List α} {k : Nat} (d : α) (h1 : k < l.length) : ix l (k : Int) = some (l.getD k d) := by
  have := ix_eq (l := l) (i := (k : Int)) d (by omega) (by omega)
  simpa using this
theorem appc_eq {α : Type} {b : Nat} {l m : List α} (h : (l.length + m.length) * b ≤ 140737488355328) : appc b l m = some (l ++ m) := if_pos h
theorem makec_eq {α : Type} {b : Nat} {z : α} {n c : Int} (h : 0 ≤ n ∧ n ≤ c ∧ (b : Int) * c ≤ 140737488355328 ∧ c ≤ 140737488355328) : makec b z n c = some (List.replicate n.toNat z) := if_pos h
@[simp] theorem oc_inl {α β γ : Type} (a : α) (f : α → γ) (g : β → γ) : oc (.inl a) f g = f a := rfl
@[simp] theorem oc_inr {α β γ : Type} (b : β) (f : α → γ) (g : β → γ) : oc (.inr b) f g = g b := rfl

theorem iterM_step {σ β : Type} {f : σ → Option (σ ⊕ β)} {s s' : σ} {N : Nat} (h : f s = some (.inl s')) : iterM (N + 1) f s = iterM N f s' := by simp [iterM, h]
theorem iterM_done {σ β : Type} {f : σ → Option (σ ⊕ β)} {s : σ} {b : β} {N : Nat} (h : f s = some (.inr b)) : iterM (N + 1) f s = some b := by simp [iterM, h]
/-- an invariant, and what falls -/
theorem iterM_inv {σ β : Type} {f : σ → Option (σ ⊕ β)} (Inv : σ → Prop) (μ : σ → Nat) (Q : β → Prop)
    (h : ∀ s, Inv s → (∃ s', f s = some (.inl s') ∧ Inv s' ∧ μ s' < μ s) ∨ ∃ b, f s = some (.inr b) ∧ Q b) : ∀ (N : Nat) (s : σ), μ s < N → Inv s → ∃ b, iterM N f s = some b ∧ Q b
  | 0, _, hN, _ => absurd hN (Nat.not_lt_zero _)
  | N + 1, s, hN, hI => by
    rcases h s hI with ⟨s', h1, h2, h3⟩ | ⟨b, h1, h2⟩
    · rw [iterM_step h1]
      exact iterM_inv Inv μ Q h N s' (by omega) h2
    · exact ⟨b, iterM_done h1, h2⟩
/-- a course of states that is known -/
theorem iterM_run {σ β : Type} {f : σ → Option (σ ⊕ β)} (I : Nat → σ) (n : Nat) {b : β} (hs : ∀ k, k < n → f (I k) = some (.inl (I (k + 1)))) (he : f (I n) = some (.inr b)) : ∀ (N : Nat), n < N → iterM N f (I 0) = some b := by
  have key : ∀ (m k N : Nat), k + m = n → m < N → iterM N f (I k) = some b := by
    intro m
    induction m with
    | zero =>
      intro k N hk hN
      obtain ⟨N, rfl⟩ : ∃ N', N = N' + 1 := ⟨N - 1, by omega⟩
      have : k = n := by omega
      subst this
      exact iterM_done he
    | succ m ih =>
      intro k N hk hN
      obtain ⟨N, rfl⟩ : ∃ N', N = N' + 1 := ⟨N - 1, by omega⟩
      rw [iterM_step (hs k (by omega))]
      exact ih (k + 1) N (by omega) (by omega)
  intro N hN
  exact key n 0 N (by omega) hN
/-- a loop that asks of each number whether something is so, and leaves at the first -/
theorem iterM_any {ρ : Type} {f : Int → Option (Int ⊕ (Unit ⊕ ρ))} (i0 : Int) (n : Nat) (bad : Nat → Bool) (e : Nat → ρ) (h1 : ∀ k, k < n → f (i0 + (k : Int)) = some (if bad k then .inr (.inr (e k)) else .inl (i0 + (k : Int) + 1))) (h2 : f (i0 + (n : Int)) = some (.inr (.inl ()))) {N : Nat} (hN : n < N) :
    iterM N f i0 = some (match (List.range n).find? bad with | some k => .inr (e k) | none => .inl ()) := by
  have key : ∀ (m k N : Nat), k + m = n → m < N → (∀ j, j < k → bad j = false) → iterM N f (i0 + (k : Int)) = some (match (List.range n).find? bad with | some k => .inr (e k) | none => .inl ()) := by
    intro m
    induction m with
    | zero =>
      intro k N hk hN hb
      obtain ⟨N, rfl⟩ : ∃ N', N = N' + 1 := ⟨N - 1, by omega⟩
      have : k = n := by omega
      subst this
      rw [iterM_done h2]
      have : (List.range k).find? bad = none := by
        rw [List.find?_eq_none]
        intro x hx
        simp [hb x (by simpa using hx)]
      rw [this]
    | succ m ih =>
      intro k N hk hN hb
      obtain ⟨N, rfl⟩ : ∃ N', N = N' + 1 := ⟨N - 1, by omega⟩
      have hk2 := h1 k (by omega)
      cases hbk : bad k with
      | true =>
        rw [hbk] at hk2
        simp only [if_true] at hk2
        rw [iterM_done hk2]
        have : (List.range n).find? bad = some k := by
          rw [List.find?_range_eq_some]
          exact ⟨hbk, by simp; omega, fun j hj => by simp [hb j hj]⟩
        rw [this]
      | false =>
        rw [hbk] at hk2
        simp only [Bool.false_eq_true, if_false] at hk2
        rw [iterM_step hk2]
        have := ih (k + 1) N (by omega) (by omega) (fun j hj => by
          by_cases hjk : j = k
          · subst hjk; exact hbk
          · exact hb j (by omega))
        rw [show i0 + (k : Int) + 1 = i0 + ((k + 1 : Nat) : Int) by push_cast; omega]
        exact this
  have := key n 0 N (by omega) hN (fun j hj => absurd hj (by omega))
  simpa using this
theorem iterM_any0 {ρ : Type} {f : Int → Option (Int ⊕ (Unit ⊕ ρ))} (n : Nat) (bad : Nat → Bool) (e : ρ) (h1 : ∀ k : Nat, k < n → f (k : Int) = some (if bad k then .inr (.inr e) else .inl ((k : Int) + 1))) (h2 : f (n : Int) = some (.inr (.inl ()))) {N : Nat} (hN : n < N) :
    iterM N f 0 = some (if (List.range n).any bad then .inr e else .inl ()) := by
  have := iterM_any 0 n bad (fun _ => e) (fun k hk => by simpa using h1 k hk) (by simpa using h2) hN
  rw [this]
  cases hf : (List.range n).find? bad with
  | none =>
    have : (List.range n).any bad = false := by
      rw [List.any_eq_false]; intro x hx; simpa using List.find?_eq_none.1 hf x hx
    simp [this]
  | some k =>
    have : (List.range n).any bad = true := List.any_eq_true.2 ⟨k, List.mem_of_find?_eq_some hf, List.find?_some hf⟩
    simp [this]
theorem any_range {α : Type} {l : List α} {d : α} {p : α → Bool} : (List.range l.length).any (fun k => p (l.getD k d)) = l.any p := by
  rw [Bool.eq_iff_iff, List.any_eq_true, List.any_eq_true]
  constructor
  · rintro ⟨k, hk, hp⟩
    have hk' : k < l.length := by simpa using hk
    refine ⟨l[k], List.getElem_mem hk', ?_⟩
    simpa [List.getD_eq_getElem?_getD, hk'] using hp
  · rintro ⟨x, hx, hp⟩
    obtain ⟨k, hk, rfl⟩ := List.getElem_of_mem hx
    exact ⟨k, by simpa using hk, by simpa [List.getD_eq_getElem?_getD, hk] using hp⟩
theorem FU_lt {n : Nat} (h : n < 1000000000000) : n < FU := by unfold FU; omega
end Go.Gx

-- plain: sands that the law makes
namespace Go.Pl
structure TabOK (T : List Water) (at_ : Int) : Prop where
  inc : ∀ i, i + 1 < T.length → (T.getD i default).min < (T.getD (i + 1) default).min
  rg : ∀ i, i < T.length → 0 ≤ (T.getD i default).min ∧ (T.getD i default).min < at_ ∧ 0 ≤ (T.getD i default).h ∧ (T.getD i default).h ≤ 60
theorem TabOK.nil {a : Int} : TabOK [] a := ⟨fun i h => by simp at h, fun i h => by simp at h⟩
theorem getD_snoc {α : Type} {d : α} {l : List α} {x : α} {i : Nat} : (l ++ [x]).getD i d = if i < l.length then l.getD i d else if i = l.length then x else d := by
  simp only [List.getD_eq_getElem?_getD]
  by_cases h : i < l.length
  · rw [List.getElem?_append_left h, if_pos h]
  · rw [List.getElem?_append_right (by omega), if_neg h]
    by_cases h2 : i = l.length
    · subst h2; simp
    · rw [if_neg h2, List.getElem?_eq_none (by simp; omega)]; rfl
theorem TabOK.snoc {T : List Water} {a b h : Int} (k : TabOK T a) (h0 : 0 ≤ a) (hb : a < b) (hh : 0 ≤ h ∧ h ≤ 60) : TabOK (T ++ [⟨a, h⟩]) b := by
  refine ⟨fun i hi => ?_, fun i hi => ?_⟩
  · simp only [List.length_append, List.length_singleton] at hi
    rw [getD_snoc, getD_snoc, if_pos (by omega)]
    by_cases h1 : i + 1 < T.length
    · rw [if_pos h1]; exact k.inc i h1
    · rw [if_neg h1, if_pos (by omega)]
      exact (k.rg i (by omega)).2.1
  · simp only [List.length_append, List.length_singleton] at hi
    rw [getD_snoc]
    by_cases h1 : i < T.length
    · rw [if_pos h1]; have := k.rg i h1; omega
    · rw [if_neg h1, if_pos (by omega)]; simp only; omega
def sillOK (n : Int) (x : Sill) : Prop := (-1 ≤ x.a ∧ x.a < n) ∧ (-1 ≤ x.b ∧ x.b < n) ∧ x.a ≠ x.b ∧ 0 ≤ x.h ∧ x.h ≤ 50
structure MadeOK (pl sl : Int) (s : Sands) : Prop where
  tl : 2 ≤ s.table.length ∧ s.table.length ≤ 4
  tab : ∃ a, TabOK s.table a ∧ a ≤ 140
  lo : -8 ≤ s.wind.lo ∧ s.wind.lo ≤ 0
  hi : 0 ≤ s.wind.hi ∧ s.wind.hi ≤ 8
  fl : 1 ≤ s.floors.length ∧ (s.floors.length : Int) ≤ pl
  flo : ∀ x, x ∈ s.floors → 0 ≤ x ∧ x ≤ 50
  sl : (s.sills.length : Int) ≤ sl
  sil : ∀ x, x ∈ s.sills → sillOK s.floors.length x
theorem mem_getD {α : Type} {d : α} {l : List α} {j : Nat} (h : j < l.length) : l.getD j d ∈ l := by
  simp only [List.getD_eq_getElem?_getD, List.getElem?_eq_getElem h, Option.getD_some]; exact List.getElem_mem h
theorem MadeOK.check {pl sl : Int} {s : Sands} (h : MadeOK pl sl s) (hp : pl ≤ 8) (hs : sl ≤ 16) : check s = 0 := by
  obtain ⟨a, ht, ha⟩ := h.tab
  have h1 := h.tl
  have h2 := h.fl
  have h3 := h.sl
  have e1 : inr s.table.length 2 12 = true := inr_iff.2 (by omega)
  have e2 : inr s.floors.length 1 8 = true := inr_iff.2 (by omega)
  have e3 : decide (16 < (s.sills.length : Int)) = false := by simp; omega
  have e4 : s.table.all bigW = true := all_of_getD (d := default) (fun j hj => by
    have := ht.rg j hj
    simp only [bigW, Bool.and_eq_true, inr_iff]; omega)
  have e5 : inr s.wind.lo (-50) 50 = true := inr_iff.2 (by have := h.lo; omega)
  have e6 : inr s.wind.hi (-50) 50 = true := inr_iff.2 (by have := h.hi; omega)
  have e7 : s.floors.all hgt = true := all_of_getD (d := 0) (fun j hj => by
    have := h.flo _ (mem_getD (d := 0) hj)
    rw [hgt_iff]; omega)
  have e8 : s.sills.all (fun x => hgt x.h) = true := all_of_getD (d := default) (fun j hj => by
    have := (h.sil _ (mem_getD (d := default) hj)).2.2
    rw [hgt_iff]; omega)
  have e9 : ordered s = true := by
    rw [ordered_true (fun i hi => ht.inc i (by omega))]
    have := h.lo; have := h.hi
    simp; omega
  have e10 : s.sills.all (fun x => isEnd s x.a && isEnd s x.b) = true := all_of_getD (d := default) (fun j hj => by
    have := h.sil _ (mem_getD (d := default) hj)
    unfold sillOK at this
    simp only [Bool.and_eq_true, isEnd_iff]
    omega)
  have e11 : s.sills.all (fun x => !decide (x.a = x.b)) = true := all_of_getD (d := default) (fun j hj => by
    have := h.sil _ (mem_getD (d := default) hj)
    simpa using this.2.2.1)
  simp only [Pl.check, e1, e2, e3, e4, e5, e6, e7, e8, e9, e10, e11, Bool.not_true, Bool.or_self, Bool.false_eq_true, if_false]
end Go.Pl

-- plain: what water reaches; the gates, and the law's
namespace Go.Pl
inductive Reach (s : Sands) (h : Int) : Int → Prop
  | sea : Reach s h (-1)
  | step {p q : Int} {x : Sill} : Reach s h p → x ∈ s.sills → (x.a = p ∧ x.b = q ∨ x.b = p ∧ x.a = q) → q ≠ -1 → x.h ≤ h → s.floors.getD q.toNat 0 ≤ h → Reach s h q
theorem Reach.mono {s : Sands} {h k : Int} {q : Int} (r : Reach s h q) (hk : h ≤ k) : Reach s k q := by
  induction r with
  | sea => exact .sea
  | step _ hx hj hq h1 h2 ih => exact .step ih hx hj hq (by omega) (by omega)
/-! the gates are sound -/
def Snd (s : Sands) (g : List Int) : Prop := ∀ j, j < 8 → g.getD j 0 < 1000 → Reach s (g.getD j 0) (j : Nat)
theorem snd_low {s : Sands} (hG : Good s) {p at_ : Int} (hp : at_ < 1000 → Reach s at_ p) {g : List Int} (hg : OKg g) (hs : Snd s g) {x : Sill} (hx : x ∈ s.sills) {q : Int} (hj : x.a = p ∧ x.b = q ∨ x.b = p ∧ x.a = q) (hq : -1 ≤ q) : Snd s (lowAt s at_ x.h g q) := by
  unfold lowAt
  split
  · exact hs
  · rename_i hq1
    intro j hj8 hlt
    rw [getD_set, foldmax2] at hlt ⊢
    split at hlt
    · rename_i hc
      rw [if_pos hc]
      have hjq : (j : Int) = q := by omega
      rcases Int.le_total (g.getD q.toNat 0) (max (max at_ x.h) (s.floors.getD q.toNat 0)) with hle | hle
      · rw [Int.min_eq_left hle] at hlt ⊢
        have := hs j hj8 (by rw [← hc.1]; exact hlt)
        rw [hc.1]; exact this
      · rw [Int.min_eq_right hle] at hlt ⊢
        rw [hjq]
        exact .step ((hp (by omega)).mono (by omega)) hx hj hq1 (by omega) (by omega)
    · rename_i hc
      rw [if_neg hc]
      exact hs j hj8 hlt
theorem snd_lower {s : Sands} (hG : Good s) {p at_ : Int} (ha : 0 ≤ at_) (hp : at_ < 1000 → Reach s at_ p) {g : List Int} (hg : OKg g) (hs : Snd s g) : Snd s (lowerF s p at_ g) := by
  have key : ∀ (l : List Sill), (∀ x ∈ l, x ∈ s.sills) → ∀ g, OKg g → Snd s g → Snd s (l.foldl (lowStep s p at_) g) := by
    intro l
    induction l with
    | nil => intro _ g _ h; exact h
    | cons x l ih =>
      intro hl g hg hs
      have hx := hl x List.mem_cons_self
      obtain ⟨k, hk, hkx⟩ := List.mem_iff_getElem.1 hx
      have e : s.sills.getD k default = x := by simp [List.getD_eq_getElem?_getD, hk, hkx]
      have h1 := hG.sa k hk
      have h2 := hG.sb k hk
      rw [e] at h1 h2
      refine ih (fun y hy => hl y (List.mem_cons_of_mem _ hy)) _ (lowStep_ok hg ha) ?_
      unfold lowStep
      split
      · rename_i h; exact snd_low hG hp hg hs hx (.inl ⟨h, rfl⟩) h2.1
      · split
        · rename_i h; exact snd_low hG hp hg hs hx (.inr ⟨h, rfl⟩) h1.1
        · exact hs
  exact key s.sills (fun _ h => h) g hg hs
theorem snd_round {s : Sands} (hG : Good s) {g : List Int} (hg : OKg g) (hs : Snd s g) : ∀ k, k ≤ 8 → Snd s (roundN s g k) ∧ OKg (roundN s g k) := by
  intro k
  induction k with
  | zero => intro _; exact ⟨snd_lower hG (Int.le_refl 0) (fun _ => .sea) hg hs, (roundN_ok hg).1⟩
  | succ k ih =>
    intro hk
    obtain ⟨h1, h2⟩ := ih (by omega)
    refine ⟨?_, (roundN_ok hg).1⟩
    rw [roundN_succ]
    exact snd_lower hG (h2.lo k) (fun hlt => h1 k (by omega) hlt) h2 h1
theorem gates_snd {s : Sands} (hG : Good s) : Snd s (gatesOf s) := by
  have key : ∀ (k : Nat) (g : List Int), OKg g → Snd s g → Snd s (fixF s k g) := by
    intro k
    induction k with
    | zero => intro g _ h; exact h
    | succ k ih =>
      intro g hg hs
      unfold fixF
      split
      · exact hs
      · have := snd_round hG hg hs s.floors.length (by have := hG.fl; omega)
        exact ih _ this.2 this.1
  refine key _ _ initG_ok (fun j hj hlt => ?_)
  have : ∀ j, j < 8 → (initG 8).getD j 0 = 1000 := by decide
  rw [this j hj] at hlt
  exact absurd hlt (by omega)
/-! … and closed -/
theorem lower_fix {s : Sands} : lowerF s (-1) 0 (gatesOf s) = gatesOf s ∧ ∀ p, p < s.floors.length → lowerF s (p : Nat) ((gatesOf s).getD p 0) (gatesOf s) = gatesOf s := by
  have hf := gates_fixed (s := s)
  have hg := gates_ok (s := s)
  have h1 := lowerF_ok (s := s) (p := -1) hg (Int.le_refl 0)
  have h2 := foldl_le (I := OKg) (f := fun g (p : Nat) => lowerF s (p : Nat) (g.getD p 0) g) (fun g x h => (lowerF_ok h (h.lo x)).1) (fun g x h => (lowerF_ok h (h.lo x)).2) (List.range s.floors.length) _ h1.1
  have h3 : (List.range s.floors.length).foldl (fun g (p : Nat) => lowerF s (p : Nat) (g.getD p 0) g) (lowerF s (-1) 0 (gatesOf s)) = gatesOf s := hf
  rw [h3] at h2
  have e1 : lowerF s (-1) 0 (gatesOf s) = gatesOf s := h1.2.antisymm h2.2
  rw [e1] at h3
  refine ⟨e1, fun p hp => ?_⟩
  exact foldl_fix (I := OKg) (fun g x h => (lowerF_ok h (h.lo x)).1) (fun g x h => (lowerF_ok h (h.lo x)).2) _ _ hg h3 p (List.mem_range.2 hp)
theorem low_le {s : Sands} {p at_ : Int} {g : List Int} (hg : OKg g) (ha : 0 ≤ at_) (hf : lowerF s p at_ g = g) {x : Sill} (hx : x ∈ s.sills) {q : Int} (hj : x.a = p ∧ x.b = q ∨ x.b = p ∧ x.a = q) (hne : x.a ≠ x.b) (hq : 0 ≤ q ∧ q < 8) : g.getD q.toNat 0 ≤ max (max at_ x.h) (s.floors.getD q.toNat 0) := by
  have h1 := foldl_fix (I := OKg) (fun _ _ h => lowStep_ok h ha) (fun _ _ _ => lowStep_le) _ _ hg hf x hx
  have h2 : lowAt s at_ x.h g q = g := by
    unfold lowStep at h1
    rcases hj with ⟨ha, hb⟩ | ⟨hb, ha⟩
    · rw [if_pos ha, hb] at h1; exact h1
    · rw [if_neg (by omega), if_pos hb, ha] at h1; exact h1
  have h3 := congrArg (fun l => l.getD q.toNat 0) h2
  simp only [lowAt] at h3
  rw [if_neg (by omega), getD_set, if_pos ⟨rfl, by rw [hg.len]; omega⟩, foldmax2] at h3
  omega
theorem gates_le {s : Sands} (hG : Good s) {h : Int} (h0 : 0 ≤ h) {q : Int} (r : Reach s h q) : q = -1 ∨ ((0 ≤ q ∧ q < s.floors.length) ∧ (gatesOf s).getD q.toNat 0 ≤ h) := by
  have hfl := hG.fl
  induction r with
  | sea => exact .inl rfl
  | @step p q x r hx hj hq h1 h2 ih =>
    right
    obtain ⟨k, hk, hkx⟩ := List.mem_iff_getElem.1 hx
    have e : s.sills.getD k default = x := by simp [List.getD_eq_getElem?_getD, hk, hkx]
    have ha := hG.sa k hk
    have hb := hG.sb k hk
    have hne := hG.ne k hk
    rw [e] at ha hb hne
    have hqr : 0 ≤ q ∧ q < s.floors.length := by rcases hj with ⟨h3, h4⟩ | ⟨h3, h4⟩ <;> omega
    refine ⟨hqr, ?_⟩
    have hf := lower_fix (s := s)
    rcases ih with rfl | ⟨hp, hle⟩
    · have := low_le gates_ok (Int.le_refl 0) hf.1 hx hj hne (by omega)
      omega
    · have h5 := hf.2 p.toNat (by omega)
      rw [Int.toNat_of_nonneg hp.1] at h5
      have := low_le gates_ok (gates_ok.lo _) h5 hx hj hne (by omega)
      omega
end Go.Pl

-- plain: the law's gates are the gates
namespace Go.Pl
theorem gStep_le {s : Sands} {h : Int} {out : List Int} {y : Sill} : Le (gStep s h out y) out := by
  refine ⟨gStep_length, fun j => ?_⟩
  unfold gStep
  split
  · rw [getD_set]
    split
    · rename_i hq; rw [hq.1]; exact Int.min_le_left _ _
    · exact Int.le_refl _
  · exact Int.le_refl _
theorem foldl_Le {α : Type} {f : List Int → α → List Int} (hf : ∀ o x, Le (f o x) o) : ∀ (l : List α) (o : List Int), Le (l.foldl f o) o
  | [], o => Le.refl o
  | x :: l, o => (foldl_Le hf l (f o x)).trans (hf o x)
def sStep (s : Sands) (h : Int) (o : List Int) (x : Sill) : List Int := (both x).foldl (gStep s h) o
theorem sStep_le {s : Sands} {h : Int} {o : List Int} {x : Sill} : Le (sStep s h o x) o := foldl_Le (fun _ _ => gStep_le) _ _
theorem sillN_all {s : Sands} {h : Int} {out : List Int} : sillN s h out s.sills.length = s.sills.foldl (sStep s h) out := by
  unfold sillN; rw [List.take_length]; rfl
theorem pass_le {s : Sands} {h : Int} {out : List Int} : Le (sillN s h out s.sills.length) out := by rw [sillN_all]; exact foldl_Le (fun _ _ => sStep_le) _ _
/-! sound -/
def LSnd (s : Sands) (h : Int) (out : List Int) : Prop := ∀ j, j < s.floors.length → out.getD j 0 = 1000000 ∨ (0 ≤ out.getD j 0 ∧ out.getD j 0 ≤ h ∧ Reach s (out.getD j 0) (j : Nat))
theorem gStep_snd {s : Sands} {h : Int} (h0 : 0 ≤ h ∧ h ≤ 999) {out : List Int} (hs : LSnd s h out) {x y : Sill} (hx : x ∈ s.sills) (hy : y = x ∨ y = swapS x) (ha : -1 ≤ y.a ∧ y.a < s.floors.length) (hb : -1 ≤ y.b ∧ y.b < s.floors.length) : LSnd s h (gStep s h out y) := by
  unfold gStep
  split
  · rename_i hc
    obtain ⟨c1, c2, c3, c4⟩ := hc
    intro j hj
    rw [getD_set]
    split
    · rename_i hq
      have hjb : (j : Int) = y.b := by omega
      have hra : Reach s h y.a := by
        rcases c4 with c4 | c4
        · rw [c4]; exact .sea
        · rcases Int.lt_or_le y.a 0 with h1 | h1
          · have : y.a = -1 := by omega
            rw [this]; exact .sea
          · have h2 := hs y.a.toNat (by omega)
            rw [Int.toNat_of_nonneg h1] at h2
            rcases h2 with h2 | h2
            · omega
            · exact h2.2.2.mono h2.2.1
      have hrb : Reach s h y.b := by
        refine .step hra hx ?_ c2 ?_ c3
        · rcases hy with rfl | rfl
          · exact .inl ⟨rfl, rfl⟩
          · exact .inr ⟨rfl, rfl⟩
        · rcases hy with rfl | rfl
          · exact c1
          · exact c1
      have hold := hs j hj
      rw [hq.1]
      rcases Int.le_total (out.getD j 0) h with hle | hle
      · rw [Int.min_eq_left hle]; exact hold
      · rw [Int.min_eq_right hle]
        exact .inr ⟨h0.1, Int.le_refl _, by rw [hjb]; exact hrb⟩
    · exact hs j hj
  · exact hs
theorem pass_snd {s : Sands} (hG : Good s) {h : Int} (h0 : 0 ≤ h ∧ h ≤ 999) {out : List Int} (hs : LSnd s h out) : LSnd s h (sillN s h out s.sills.length) := by
  rw [sillN_all]
  have key : ∀ (l : List Sill), (∀ x ∈ l, x ∈ s.sills) → ∀ o, LSnd s h o → LSnd s h (l.foldl (sStep s h) o) := by
    intro l
    induction l with
    | nil => intro _ o h; exact h
    | cons x l ih =>
      intro hl o ho
      have hx := hl x List.mem_cons_self
      obtain ⟨k, hk, hkx⟩ := List.mem_iff_getElem.1 hx
      have e : s.sills.getD k default = x := by simp [List.getD_eq_getElem?_getD, hk, hkx]
      have ha := hG.sa k hk
      have hb := hG.sb k hk
      rw [e] at ha hb
      refine ih (fun y hy => hl y (List.mem_cons_of_mem _ hy)) _ ?_
      exact gStep_snd h0 (gStep_snd h0 ho hx (.inl rfl) ha hb) hx (.inr rfl) hb ha
  exact key s.sills (fun _ h => h) out hs
theorem rounds_snd {s : Sands} (hG : Good s) {h : Int} (h0 : 0 ≤ h ∧ h ≤ 999) {out : List Int} (hs : LSnd s h out) : ∀ r, LSnd s h (roundsN s h out r)
  | 0 => hs
  | r + 1 => pass_snd hG h0 (rounds_snd hG h0 hs r)
theorem heights_snd {s : Sands} (hG : Good s) : ∀ h : Nat, h ≤ 900 → LSnd s h (heightN s (initO s.floors.length s.floors.length) h)
  | 0, _ => fun j hj => .inl (by simp [heightN, initO, List.getD_eq_getElem?_getD, hj])
  | h + 1, hh => by
    have h1 := rounds_snd hG (h := (h : Nat)) (by omega) (heights_snd hG h (by omega)) s.floors.length
    intro j hj
    rcases h1 j hj with h2 | ⟨h2, h3, h4⟩
    · exact .inl h2
    · exact .inr ⟨h2, by push_cast; exact Int.le_trans h3 (by omega), h4⟩
/-! complete -/
theorem gStep_reach {s : Sands} {h : Int} {out : List Int} {y : Sill} (hc : gCond s h out y) (hb : 0 ≤ y.b ∧ y.b < out.length) : (gStep s h out y).getD y.b.toNat 0 ≤ h := by
  unfold gStep
  rw [if_pos hc, getD_set, if_pos ⟨rfl, by omega⟩]
  exact Int.min_le_right _ _
theorem pass_reach {s : Sands} {h : Int} {out : List Int} (hl : out.length = s.floors.length) {x : Sill} (hx : x ∈ s.sills) {p q : Int} (hj : x.a = p ∧ x.b = q ∨ x.b = p ∧ x.a = q) (hq : 0 ≤ q ∧ q < s.floors.length) (h1 : x.h ≤ h) (h2 : s.floors.getD q.toNat 0 ≤ h) (hp : p = -1 ∨ out.getD p.toNat 0 ≤ h) : (sillN s h out s.sills.length).getD q.toNat 0 ≤ h := by
  rw [sillN_all]
  obtain ⟨l1, l2, hs⟩ := List.append_of_mem hx
  rw [hs, List.foldl_append, List.foldl_cons]
  have e1 : Le (l1.foldl (sStep s h) out) out := foldl_Le (fun _ _ => sStep_le) _ _
  refine Int.le_trans ((foldl_Le (fun _ _ => sStep_le) l2 _).le q.toNat) ?_
  generalize l1.foldl (sStep s h) out = o at *
  have hol : o.length = s.floors.length := e1.len.trans hl
  have hpo : p = -1 ∨ o.getD p.toNat 0 ≤ h := hp.imp id (fun h => Int.le_trans (e1.le _) h)
  show (gStep s h (gStep s h o x) (swapS x)).getD q.toNat 0 ≤ h
  rcases hj with ⟨ha, hb⟩ | ⟨hb, ha⟩
  · refine Int.le_trans (gStep_le.le _) ?_
    have := gStep_reach (s := s) (h := h) (out := o) (y := x) ⟨h1, by omega, by rw [hb]; exact h2, by rw [ha]; exact hpo⟩ (by omega)
    rwa [hb] at this
  · have := gStep_reach (s := s) (h := h) (out := gStep s h o x) (y := swapS x) ⟨h1, by show x.a ≠ -1; omega, by show s.floors.getD x.a.toNat 0 ≤ h; rw [ha]; exact h2, by
      have e2 : (swapS x).a = p := hb
      rw [e2]
      exact hpo.imp id (fun h => Int.le_trans (gStep_le.le _) h)⟩ (by rw [gStep_length]; show 0 ≤ x.a ∧ x.a < _; omega)
    have e : (swapS x).b = q := ha
    rwa [e] at this
def cntLe (h : Int) (o : List Int) : Nat := o.countP (fun v => decide (v ≤ h))
theorem cnt_mono {h : Int} : ∀ {a b : List Int}, a.length = b.length → (∀ j, a.getD j 0 ≤ b.getD j 0) → cntLe h b ≤ cntLe h a ∧ ((∃ j, j < b.length ∧ a.getD j 0 ≤ h ∧ h < b.getD j 0) → cntLe h b + 1 ≤ cntLe h a)
  | [], [], _, _ => ⟨Nat.le_refl _, fun ⟨j, hj, _⟩ => by simp at hj⟩
  | [], _ :: _, hl, _ => by simp at hl
  | _ :: _, [], hl, _ => by simp at hl
  | x :: a, y :: b, hl, hle => by
    have ih := cnt_mono (h := h) (a := a) (b := b) (by simpa using hl) (fun j => by simpa using hle (j + 1))
    have hxy : x ≤ y := by simpa using hle 0
    simp only [cntLe, List.countP_cons] at *
    refine ⟨?_, ?_⟩
    · by_cases h1 : y ≤ h
      · have : x ≤ h := by omega
        simp [h1, this]; exact ih.1
      · simp [h1]; split <;> omega
    · rintro ⟨j, hj, h1, h2⟩
      cases j with
      | zero =>
        simp only [List.getD_cons_zero] at h1 h2
        have h3 : ¬ y ≤ h := by omega
        simp [h1, h3]; exact ih.1
      | succ j =>
        simp only [List.getD_cons_succ] at h1 h2
        have := ih.2 ⟨j, by simpa using hj, h1, h2⟩
        by_cases h3 : y ≤ h
        · have : x ≤ h := by omega
          simp [h3, this]; omega
        · simp [h3]; split <;> omega
theorem rounds_len {s : Sands} {h : Int} {out : List Int} {r : Nat} (hl : out.length = s.floors.length) : (roundsN s h out r).length = s.floors.length := roundsN_length.trans hl
theorem closed_reach {s : Sands} (hG : Good s) {h : Int} {o : List Int} (hc : ∀ j, j < s.floors.length → (sillN s h o s.sills.length).getD j 0 ≤ h → o.getD j 0 ≤ h) (hl : o.length = s.floors.length) {q : Int} (r : Reach s h q) : q = -1 ∨ ((0 ≤ q ∧ q < s.floors.length) ∧ o.getD q.toNat 0 ≤ h) := by
  induction r with
  | sea => exact .inl rfl
  | @step p q x r hx hj hq h1 h2 ih =>
    right
    obtain ⟨k, hk, hkx⟩ := List.mem_iff_getElem.1 hx
    have e : s.sills.getD k default = x := by simp [List.getD_eq_getElem?_getD, hk, hkx]
    have ha := hG.sa k hk
    have hb := hG.sb k hk
    rw [e] at ha hb
    have hqr : 0 ≤ q ∧ q < s.floors.length := by rcases hj with ⟨h3, h4⟩ | ⟨h3, h4⟩ <;> omega
    exact ⟨hqr, hc _ (by omega) (pass_reach hl hx hj hqr h1 h2 (ih.imp id (fun h => h.2)))⟩
theorem rounds_all {s : Sands} (hG : Good s) {h : Int} {out : List Int} (hl : out.length = s.floors.length) : ∀ r : Nat, (∀ q, Reach s h q → q = -1 ∨ ((0 ≤ q ∧ q < s.floors.length) ∧ (roundsN s h out r).getD q.toNat 0 ≤ h)) ∨ r ≤ cntLe h (roundsN s h out r) := by
  intro r
  induction r with
  | zero => exact .inr (Nat.zero_le _)
  | succ r ih =>
    have hle : Le (roundsN s h out (r + 1)) (roundsN s h out r) := pass_le
    rcases ih with ih | ih
    · left
      intro q hq
      exact (ih q hq).imp id (fun h => ⟨h.1, Int.le_trans (hle.le _) h.2⟩)
    · have hc := cnt_mono (h := h) hle.len hle.le
      by_cases hn : ∃ j, j < (roundsN s h out r).length ∧ (roundsN s h out (r + 1)).getD j 0 ≤ h ∧ h < (roundsN s h out r).getD j 0
      · right
        have := hc.2 hn
        omega
      · left
        intro q hq
        have := closed_reach hG (o := roundsN s h out r) (fun j hj hlt => by
          rcases Int.lt_or_le h ((roundsN s h out r).getD j 0) with h1 | h1
          · exact absurd ⟨j, by rw [rounds_len hl]; exact hj, hlt, h1⟩ hn
          · exact h1) (rounds_len hl) hq
        exact this.imp id (fun h => ⟨h.1, Int.le_trans (hle.le _) h.2⟩)
theorem cnt_all {h : Int} : ∀ {o : List Int}, o.length ≤ cntLe h o → ∀ j, j < o.length → o.getD j 0 ≤ h
  | [], _, j, hj => by simp at hj
  | x :: o, hc, j, hj => by
    have h1 : cntLe h o ≤ o.length := List.countP_le_length
    simp only [cntLe, List.countP_cons, List.length_cons] at hc h1
    by_cases hx : x ≤ h
    · cases j with
      | zero => simpa using hx
      | succ j =>
        simp [hx] at hc
        simpa using cnt_all (h := h) (o := o) hc j (by simpa using hj)
    · simp [hx] at hc
      omega
theorem rounds_full {s : Sands} (hG : Good s) {h : Int} {out : List Int} (hl : out.length = s.floors.length) {q : Int} (r : Reach s h q) (hq : 0 ≤ q ∧ q < s.floors.length) : (roundsN s h out s.floors.length).getD q.toNat 0 ≤ h := by
  rcases rounds_all hG hl s.floors.length with h1 | h1
  · rcases h1 q r with h2 | h2
    · omega
    · exact h2.2
  · exact cnt_all (by rw [rounds_len hl]; exact h1) q.toNat (by rw [rounds_len hl]; omega)
theorem rounds_le {s : Sands} {h : Int} {out : List Int} : ∀ r, Le (roundsN s h out r) out
  | 0 => Le.refl _
  | r + 1 => (pass_le (s := s)).trans (rounds_le r)
theorem heights_full {s : Sands} (hG : Good s) {q : Int} (hq : 0 ≤ q ∧ q < s.floors.length) {h : Nat} (r : Reach s (h : Nat) q) : ∀ k : Nat, h < k → (heightN s (initO s.floors.length s.floors.length) k).getD q.toNat 0 ≤ h
  | 0, hk => absurd hk (by omega)
  | k + 1, hk => by
    by_cases hkk : h < k
    · exact Int.le_trans ((rounds_le _).le _) (heights_full hG hq r k hkk)
    · have : h = k := by omega
      subst this
      exact rounds_full hG (by rw [heightN_length, initO_length]) r hq
/-- low sands: nothing is higher than 50 -/
theorem reach_low {s : Sands} (hG : Good s) (h1 : ∀ x, x ∈ s.sills → x.h ≤ 50) (h2 : ∀ j, j < s.floors.length → s.floors.getD j 0 ≤ 50) {h : Int} {q : Int} (r : Reach s h q) : Reach s 50 q := by
  induction r with
  | sea => exact .sea
  | @step p q x r hx hj hq h3 h4 ih =>
    refine .step ih hx hj hq (h1 x hx) ?_
    by_cases hl : q.toNat < s.floors.length
    · exact h2 _ hl
    · rw [List.getD_eq_getElem?_getD, List.getElem?_eq_none (by omega)]; decide
theorem lawGates_eq {s : Sands} (hG : Good s) (h1 : ∀ x, x ∈ s.sills → x.h ≤ 50) (h2 : ∀ j, j < s.floors.length → s.floors.getD j 0 ≤ 50) {j : Nat} (hj : j < s.floors.length) :
    (lawGates s).getD j 0 = if (gatesOf s).getD j 0 = 1000 then 1000000 else (gatesOf s).getD j 0 := by
  have hfl := hG.fl
  have hsnd := heights_snd hG 62 (by omega) j hj
  have hg0 := gates_ok (s := s)
  have hlo := hg0.lo j
  have hhi := hg0.hi j
  by_cases hg : (gatesOf s).getD j 0 = 1000
  · rw [if_pos hg]
    rcases hsnd with h3 | ⟨h3, h4, h5⟩
    · exact h3
    · have := gates_le hG h3 h5
      rcases this with h6 | ⟨_, h6⟩
      · omega
      · rw [Int.toNat_natCast, hg] at h6
        exfalso
        have h4' : (heightN s (initO s.floors.length s.floors.length) 62).getD j 0 ≤ 62 := h4
        omega
  · rw [if_neg hg]
    have hr := gates_snd hG j (by omega) (by omega)
    have h50 := gates_le hG (by omega) (reach_low hG h1 h2 hr)
    rcases h50 with h6 | ⟨_, h6⟩
    · omega
    · rw [Int.toNat_natCast] at h6
      have hr' : Reach s (((gatesOf s).getD j 0).toNat : Nat) (j : Nat) := by rw [Int.toNat_of_nonneg hlo]; exact hr
      have hle := heights_full hG (q := (j : Nat)) (by omega) hr' 62 (by omega)
      rw [Int.toNat_natCast, Int.toNat_of_nonneg hlo] at hle
      have hlg : lawGates s = heightN s (initO s.floors.length s.floors.length) 62 := rfl
      rw [hlg]
      rcases hsnd with h7 | ⟨h7, h8, h9⟩
      · omega
      · have := gates_le hG h7 h9
        rcases this with h10 | ⟨_, h10⟩
        · omega
        · rw [Int.toNat_natCast] at h10
          omega
end Go.Pl

-- plain: what is told
namespace Go.Pl
theorem fix_wind {s : Sands} {w : Span} : ∀ (k : Nat) (g : List Int), fixF { s with wind := w } k g = fixF s k g
  | 0, _ => rfl
  | k + 1, g => by
    have e : roundF { s with wind := w } g = roundF s g := rfl
    unfold fixF
    rw [e, fix_wind k]
theorem gates_wind {s : Sands} {w : Span} : gatesOf { s with wind := w } = gatesOf s := fix_wind 8001 _
/-- the gate of a place, and the law's number for it -/
def gateRel (g v : Int) : Prop := (g = 1000 ∧ v = 1000000) ∨ (g ≠ 1000 ∧ v = g)
theorem made_rel {pl sl : Int} {s : Sands} (h : MadeOK pl sl s) (hG : Good s) {j : Nat} (hj : j < s.floors.length) : gateRel ((gatesOf s).getD j 0) ((lawGates s).getD j 0) := by
  have := lawGates_eq hG (fun x hx => (h.sil x hx).2.2.2.2) (fun j hj => (h.flo _ (mem_getD (d := 0) hj)).2) hj
  rw [this]
  unfold gateRel
  split
  · rename_i h1; exact .inl ⟨h1, rfl⟩
  · rename_i h1; exact .inr ⟨h1, rfl⟩
theorem looked_zero {s : Sands} (hc : check s = 0) {gs : List Int} {tr : Int} {l : List Look} (hl : l.length ≤ 6) (h : ∀ x, x ∈ l → lookT s gs tr x) : lookedE s l = 0 := by
  rw [lookedE_look hc (by omega)]
  exact lookE_ok (fun i hi => (h _ (mem_getD hi)).1)
theorem left_told {s : Sands} (hG : Good s) {gs : List Int} (hgl : ∀ j, j < s.floors.length → gateRel ((gatesOf s).getD j 0) (gs.getD j 0)) {tr : Int} (ht : s.wind.lo ≤ tr ∧ tr ≤ s.wind.hi) : ∀ (l : List Look), (∀ x, x ∈ l → lookT s gs tr x) → ∀ (o : Span), (s.wind.lo ≤ o.lo ∧ o.lo ≤ tr) → (tr ≤ o.hi ∧ o.hi ≤ s.wind.hi) → (s.wind.lo ≤ (l.foldl (leftStep s (gatesOf s)) o).lo ∧ (l.foldl (leftStep s (gatesOf s)) o).lo ≤ tr) ∧ (tr ≤ (l.foldl (leftStep s (gatesOf s)) o).hi ∧ (l.foldl (leftStep s (gatesOf s)) o).hi ≤ s.wind.hi)
  | [], _, o, h1, h2 => ⟨h1, h2⟩
  | x :: l, h, o, h1, h2 => by
    have hx := h x List.mem_cons_self
    have hp := isPlace_iff.1 hx.1.2
    have hr := hgl x.place.toNat (by omega)
    have hb := height_tight hG hx.1.1
    have hlo := hG.lo
    have hhi := hG.hi
    have hw := hx.2
    refine left_told hG hgl ht l (fun y hy => h y (List.mem_cons_of_mem _ hy)) _ ?_ ?_
    all_goals
      unfold leftStep mostG
      unfold gateRel at hr
      cases hwet : x.wet with
      | true =>
        rw [hwet] at hw
        have hw' := of_decide_eq_true hw.symm
        simp only [if_true]
        first | omega | (split <;> omega)
      | false =>
        rw [hwet] at hw
        have hw' := of_decide_eq_false hw.symm
        simp only [Bool.false_eq_true, if_false]
        first | omega | (split <;> omega)
theorem looks_told {s : Sands} (hc : check s = 0) (hG : Good s) {gs : List Int} (hgl : ∀ j, j < s.floors.length → gateRel ((gatesOf s).getD j 0) (gs.getD j 0)) {tr : Int} (ht : s.wind.lo ≤ tr ∧ tr ≤ s.wind.hi) {l : List Look} (hl : l.length ≤ 6) (h : ∀ x, x ∈ l → lookT s gs tr x) :
    ∃ w : Span, LooksR s l = (w, 0) ∧ (s.wind.lo ≤ w.lo ∧ w.lo ≤ tr) ∧ (tr ≤ w.hi ∧ w.hi ≤ s.wind.hi) := by
  have h1 := left_told hG hgl ht l h s.wind ⟨Int.le_refl _, ht.1⟩ ⟨ht.2, Int.le_refl _⟩
  refine ⟨leftG s (gatesOf s) l, ?_, h1⟩
  unfold LooksR
  rw [if_neg (by rw [looked_zero hc hl h]; simp), if_neg (by have := h1.1; have := h1.2; unfold leftG; omega)]
theorem wind_check {s : Sands} (hc : check s = 0) {w : Span} (hlo : s.wind.lo ≤ w.lo) (hm : w.lo ≤ w.hi) (hhi : w.hi ≤ s.wind.hi) : check { s with wind := w } = 0 := by
  have hG := good_of_check hc
  have h1 := hG.lo
  have h2 := hG.hi
  have e5 : inr w.lo (-50) 50 = true := inr_iff.2 (by omega)
  have e6 : inr w.hi (-50) 50 = true := inr_iff.2 (by omega)
  have f5 : inr s.wind.lo (-50) 50 = true := inr_iff.2 (by omega)
  have f6 : inr s.wind.hi (-50) 50 = true := inr_iff.2 (by omega)
  have eo : ordered { s with wind := w } = ordered s := by
    rw [ordered_true (s := { s with wind := w }) hG.inc, ordered_true hG.inc]
    have := hG.wind
    simp [hm, this]
  have ei : ∀ p, isEnd { s with wind := w } p = isEnd s p := fun p => rfl
  rw [← hc]
  simp only [Pl.check, e5, e6, f5, f6, eo, ei]
/-- the state, by the law's number -/
theorem state_told {s : Sands} (hG : Good s) {m : Int} (hd : dayF s m = true) {k : Nat} {v : Int} (hr : gateRel ((gatesOf s).getD k 0) v) :
    (stateF s m (k : Nat) = 2 ∧ v < heightF s m + s.wind.lo) ∨ (stateF s m (k : Nat) = 0 ∧ ¬ v < heightF s m + s.wind.hi) ∨ (stateF s m (k : Nat) = 1 ∧ ¬ v < heightF s m + s.wind.lo ∧ v < heightF s m + s.wind.hi) := by
  have hb := height_tight hG hd
  have h1 := hG.lo
  have h2 := hG.hi
  have h3 := hG.wind
  unfold stateF stateG levelF
  rw [Int.toNat_natCast]
  simp only
  unfold gateRel at hr
  split
  · rename_i h4
    right; left
    refine ⟨rfl, ?_⟩
    rcases hr with ⟨h5, h6⟩ | ⟨h5, h6⟩
    · omega
    · omega
  · split
    · left; exact ⟨rfl, by omega⟩
    · right; right; exact ⟨rfl, by omega, by omega⟩
end Go.Pl

namespace Go.Proofs.Wk
open Go Go.Gx Go.Pl
set_option linter.unusedVariables false
/-! ### copies -/
theorem dup_water {l : List Water} (h : l.length ≤ 1000) : m_laurelkit_Dup_tideWater l = some l := by
  unfold m_laurelkit_Dup_tideWater
  rw [makec_eq ⟨by omega, by omega, by omega, by omega⟩]
  simp only [Option.bind_some]
  rw [appc_eq (by simp; omega)]
  simp
theorem dup_int {l : List Int} (h : l.length ≤ 1000) : m_laurelkit_Dup_int l = some l := by
  unfold m_laurelkit_Dup_int
  rw [makec_eq ⟨by omega, by omega, by omega, by omega⟩]
  simp only [Option.bind_some]
  rw [appc_eq (by simp; omega)]
  simp
theorem dup_sill {l : List Sill} (h : l.length ≤ 1000) : m_laurelkit_Dup_tideSill l = some l := by
  unfold m_laurelkit_Dup_tideSill
  rw [makec_eq ⟨by omega, by omega, by omega, by omega⟩]
  simp only [Option.bind_some]
  rw [appc_eq (by simp; omega)]
  simp
/-- sands whose lists are short -/
structure Short (s : Sands) : Prop where
  t : s.table.length ≤ 100
  f : s.floors.length ≤ 100
  s : s.sills.length ≤ 100
theorem own_eq {s : Sands} (h : Short s) : m_laurellaw01_Own s = some s := by
  have h1 := h.t
  have h2 := h.f
  have h3 := h.s
  unfold m_laurellaw01_Own
  rw [dup_water (by omega), dup_int (by omega), dup_sill (by omega)]
  rfl
theorem take_snoc {α : Type} {l : List α} {k : Nat} (d : α) (h : k < l.length) : l.take k ++ [l.getD k d] = l.take (k + 1) := by
  rw [List.take_succ_eq_append_getElem h, List.getD_eq_getElem?_getD]
  simp [h]
theorem Good.short {s : Sands} (h : Good s) : Short s := ⟨by have := h.tl; omega, by have := h.fl; omega, by have := h.sl; omega⟩
theorem x_Check_eq {s : Sands} (hs : Short s) : x_Check s = some (check s) := by
  have h1 := hs.t
  have h2 := hs.f
  have h3 := hs.s
  unfold x_Check
  rw [if_pos ⟨by omega, by omega, by omega⟩]
theorem x_Height_eq {s : Sands} {m : Int} (hs : Short s) : x_Height s m = some (HeightR s m) := by
  have h1 := hs.t
  have h2 := hs.f
  have h3 := hs.s
  unfold x_Height
  rw [if_pos ⟨by omega, by omega, by omega⟩]
theorem x_Level_eq {s : Sands} {m : Int} (hs : Short s) : x_Level s m = some (LevelR s m) := by
  have h1 := hs.t
  have h2 := hs.f
  have h3 := hs.s
  unfold x_Level
  rw [if_pos ⟨by omega, by omega, by omega⟩]
theorem x_awake_eq : x_awake = some true := rfl
/-! ### sands that pass -/
theorem check_of_good {s : Sands} (h : Good s) : check s = 0 := by
  have h1 := h.tl
  have h2 := h.fl
  have h3 := h.sl
  have e1 : inr s.table.length 2 12 = true := inr_iff.2 (by omega)
  have e2 : inr s.floors.length 1 8 = true := inr_iff.2 (by omega)
  have e3 : decide (16 < (s.sills.length : Int)) = false := by simp; omega
  have e4 : s.table.all bigW = true := all_of_getD (d := default) (fun j hj => by
    have := h.tab j hj
    simp only [bigW, Bool.and_eq_true, inr_iff]; omega)
  have e5 : inr s.wind.lo (-50) 50 = true := inr_iff.2 (by have := h.lo; omega)
  have e6 : inr s.wind.hi (-50) 50 = true := inr_iff.2 (by have := h.hi; omega)
  have e7 : s.floors.all hgt = true := all_of_getD (d := 0) (fun j hj => by
    have := h.flo j hj
    rw [hgt_iff]; omega)
  have e8 : s.sills.all (fun x => hgt x.h) = true := all_of_getD (d := default) (fun j hj => by
    have := h.sh j hj
    rw [hgt_iff]; omega)
  have e9 : ordered s = true := by
    rw [ordered_true h.inc]
    simp [h.wind]
  have e10 : s.sills.all (fun x => isEnd s x.a && isEnd s x.b) = true := all_of_getD (d := default) (fun j hj => by
    have ha := h.sa j hj
    have hb := h.sb j hj
    simp only [Bool.and_eq_true, isEnd_iff]
    omega)
  have e11 : s.sills.all (fun x => !decide (x.a = x.b)) = true := all_of_getD (d := default) (fun j hj => by
    have := h.ne j hj
    simpa using this)
  unfold check
  rw [e1, e2, e3, e4, e5, e6, e7, e8, e9, e10, e11]
  rfl
/-- the gates hang on floors and sills alone -/
theorem fix_fs {s t : Sands} (hf : s.floors = t.floors) (hs : s.sills = t.sills) : ∀ (k : Nat) (g : List Int), fixF s k g = fixF t k g
  | 0, _ => rfl
  | k + 1, g => by
    have e : roundF s g = roundF t g := by
      cases s; cases t; simp only at hf hs; subst hf hs; rfl
    unfold fixF
    rw [e, fix_fs hf hs k]
theorem gates_fs {s t : Sands} (hf : s.floors = t.floors) (hs : s.sills = t.sills) : gatesOf s = gatesOf t := fix_fs hf hs 8001 _
theorem x_All_eq {s : Sands} {m : Int} (hs : Short s) : x_All s m = some (AllR s m) := by
  have h1 := hs.t
  have h2 := hs.f
  have h3 := hs.s
  unfold x_All
  rw [if_pos ⟨by omega, by omega, by omega⟩]
theorem x_Turn_eq {s : Sands} {p m : Int} (hs : Short s) : x_Turn s p m = some (TurnR s p m) := by
  have h1 := hs.t
  have h2 := hs.f
  have h3 := hs.s
  unfold x_Turn
  rw [if_pos ⟨by omega, by omega, by omega⟩]
theorem x_At_eq {s : Sands} {m p : Int} (hs : Short s) : x_At s m p = some (AtR s m p) := by
  have h1 := hs.t
  have h2 := hs.f
  have h3 := hs.s
  unfold x_At
  rw [if_pos ⟨by omega, by omega, by omega⟩]
theorem x_Gate_eq {s : Sands} {p : Int} (hs : Short s) : x_Gate s p = some (GateR s p) := by
  have h1 := hs.t
  have h2 := hs.f
  have h3 := hs.s
  unfold x_Gate
  rw [if_pos ⟨by omega, by omega, by omega⟩]
theorem MadeOK.good {pl sl : Int} {s : Sands} (h : MadeOK pl sl s) (hp : pl ≤ 8) (hs : sl ≤ 16) : Good s := good_of_check (h.check hp hs)
/-- a minute of the day, out of any number -/
theorem minute_in {s : Sands} (hG : Good s) {k : Int} (hk : 0 ≤ k ∧ k ≤ 255) :
    ∃ t, remc (IntKind.i64.wrap k) (lastM s - firstM s + 1) = some t ∧ firstM s ≤ firstM s + t ∧ firstM s + t ≤ lastM s ∧ 0 ≤ t := by
  have hds := day_span hG
  rw [Go.Fw.wrap_i64 (by omega), remc_eq (by omega)]
  have h1 := Int.tmod_nonneg (lastM s - firstM s + 1) (show (0 : Int) ≤ k by omega)
  have h2 := Int.tmod_lt_of_pos k (show 0 < lastM s - firstM s + 1 by omega)
  exact ⟨_, rfl, by omega, by omega, h1⟩
theorem place_in {s : Sands} (hG : Good s) {k : Int} (hk : 0 ≤ k ∧ k ≤ 255) : ∃ t, remc (IntKind.i64.wrap k) (s.floors.length : Int) = some t ∧ 0 ≤ t ∧ t < s.floors.length := by
  have hfl := hG.fl
  rw [Go.Fw.wrap_i64 (by omega), remc_eq (by omega)]
  have h1 := Int.tmod_nonneg (s.floors.length : Int) (show (0 : Int) ≤ k by omega)
  have h2 := Int.tmod_lt_of_pos k (show 0 < (s.floors.length : Int) by omega)
  exact ⟨_, rfl, h1, h2⟩
theorem lawfirst_eq {s : Sands} (h : 0 < s.table.length) : m_laurellaw01_first s = some (firstM s) := by
  unfold m_laurellaw01_first
  rw [show (0 : Int) = ((0 : Nat) : Int) from rfl, ix_nat default h]
  rfl
theorem lawlast_eq {s : Sands} (hs : Short s) (h : 0 < s.table.length) : m_laurellaw01_last s = some (lastM s) := by
  have h1 := hs.t
  unfold m_laurellaw01_last
  rw [subc_eq (by omega), Option.bind_some, show (s.table.length : Int) - 1 = ((s.table.length - 1 : Nat) : Int) by omega, ix_nat default (by omega)]
  rfl
end Go.Proofs.Wk

namespace Go.Proofs.Wk
open Go Go.Gx Go.Pl
set_option linter.unusedVariables false
theorem dayN_eq' {s : Sands} (hG : Good s) : ((dayN s : Nat) : Int) = lastM s - firstM s + 1 := by
  have := day_span hG
  unfold dayN; omega
/-! ### the look that settles most -/
def mostF (s : Sands) (m : Int) (p : Nat) : Int := if (gatesOf s).getD p 0 = 1000 then 50 else (gatesOf s).getD p 0 - heightF s m
def yesF (s : Sands) (m : Int) (p : Nat) : Int := max 0 (s.wind.hi - max s.wind.lo (mostF s m p + 1) + 1)
def allW (s : Sands) : Int := s.wind.hi - s.wind.lo + 1
def nF (s : Sands) (m : Int) (p : Nat) : Int := max (yesF s m p) (allW s - yesF s m p)
def askStep (s : Sands) (m : Int) (st : Int × Look) (p : Nat) : Int × Look := if nF s m p < st.1 then (nF s m p, ⟨m, (p : Int), true⟩) else st
def askPl (s : Sands) (m : Int) (st : Int × Look) (k : Nat) : Int × Look := (List.range k).foldl (askStep s m) st
theorem askPl_succ {s : Sands} {m : Int} {st : Int × Look} {k : Nat} : askPl s m st (k + 1) = askStep s m (askPl s m st k) k := by
  unfold askPl
  rw [List.range_succ, List.foldl_append]
  rfl
def askDay (s : Sands) (k : Nat) : Int × Look := (List.range k).foldl (fun st i => askPl s (firstM s + (i : Nat)) st s.floors.length) (allW s + 1, ⟨0, 0, false⟩)
theorem askDay_succ {s : Sands} {k : Nat} : askDay s (k + 1) = askPl s (firstM s + (k : Nat)) (askDay s k) s.floors.length := by
  unfold askDay
  rw [List.range_succ, List.foldl_append]
  rfl
theorem yes_bd {s : Sands} (hG : Good s) {m : Int} {p : Nat} : 0 ≤ yesF s m p ∧ yesF s m p ≤ 101 := by
  have := hG.lo
  have := hG.hi
  unfold yesF
  omega
theorem left_one {s : Sands} {m : Int} {p : Nat} : leftG s (gatesOf s) [⟨m, (p : Int), true⟩] = ⟨max s.wind.lo (mostF s m p + 1), s.wind.hi⟩ := by
  show leftStep s (gatesOf s) s.wind ⟨m, (p : Int), true⟩ = _
  unfold leftStep
  rw [if_pos rfl]
  rfl
theorem x_left_eq {s : Sands} (hG : Good s) {k : List Look} (hk : k.all (fun l => dayF s l.min && isPlace s l.place) = true) (hl : k.length ≤ 1000) : x_left s k = some (leftG s (gatesOf s) k) := by
  have hs := Good.short hG
  have h1 := hs.t
  have h2 := hs.f
  have h3 := hs.s
  unfold x_left
  rw [if_pos ⟨⟨by omega, by omega, by omega⟩, check_of_good hG, hk, by omega⟩]
theorem x_day_eq {s : Sands} (hG : Good s) {m : Int} : x_day s m = some (dayF s m) := by
  have hs := Good.short hG
  have h1 := hs.t
  have h2 := hs.f
  have h3 := hs.s
  unfold x_day
  rw [if_pos ⟨⟨by omega, by omega, by omega⟩, check_of_good hG⟩]
/-- the program's places of a minute -/
theorem ask_pl {s : Sands} (hG : Good s) {S : m_tide_Ask_1_S0} (hd : dayF s S.minute10 = true) (st : Int × Look) :
    iterM FU (m_tide_Ask_1_L1 s S (allW s)) ⟨st.1, 0, st.2.min, st.2.place, st.2.wet⟩ = some ⟨(askPl s S.minute10 st s.floors.length).1, (askPl s S.minute10 st s.floors.length).2.min, (askPl s S.minute10 st s.floors.length).2.place, (askPl s S.minute10 st s.floors.length).2.wet⟩ := by
  have hfl := hG.fl
  have hlo := hG.lo
  have hhi := hG.hi
  have hwi := hG.wind
  have hh := height_tight hG hd
  have hgo := gates_ok (s := s)
  have hz : (⟨st.1, 0, st.2.min, st.2.place, st.2.wet⟩ : m_tide_Ask_1_S1) = (fun k : Nat => (⟨(askPl s S.minute10 st k).1, (k : Int), (askPl s S.minute10 st k).2.min, (askPl s S.minute10 st k).2.place, (askPl s S.minute10 st k).2.wet⟩ : m_tide_Ask_1_S1)) 0 := rfl
  rw [hz]
  refine iterM_run (fun k : Nat => (⟨(askPl s S.minute10 st k).1, (k : Int), (askPl s S.minute10 st k).2.min, (askPl s S.minute10 st k).2.place, (askPl s S.minute10 st k).2.wet⟩ : m_tide_Ask_1_S1)) s.floors.length (fun k hk => ?_) ?_ FU (FU_lt (by omega))
  · have hlk : ([⟨S.minute10, (k : Int), true⟩] : List Look).all (fun l => dayF s l.min && isPlace s l.place) = true := by
      have : isPlace s (k : Int) = true := isPlace_iff.2 ⟨by omega, by omega⟩
      simp [hd, this]
    have hg0 := hgo.lo k
    have hg1 := hgo.hi k
    have hm : -1000 ≤ mostF s S.minute10 k ∧ mostF s S.minute10 k ≤ 1000 := by unfold mostF; split <;> omega
    have e1 : max 0 (s.wind.hi - max s.wind.lo (mostF s S.minute10 k + 1) + 1) = yesF s S.minute10 k := rfl
    have hy := yes_bd hG (m := S.minute10) (p := k)
    have ha : allW s = s.wind.hi - s.wind.lo + 1 := rfl
    rw [askPl_succ]
    generalize askPl s S.minute10 st k = x
    unfold m_tide_Ask_1_L1
    dsimp only
    rw [if_pos (by omega), x_left_eq hG hlk (by simp), Option.bind_some, left_one]
    dsimp only
    rw [subc_eq (by omega), Option.bind_some, addc_eq (by omega), Option.bind_some, e1, subc_eq (by omega), Option.bind_some]
    have e2 : max (yesF s S.minute10 k) (allW s - yesF s S.minute10 k) = nF s S.minute10 k := rfl
    rw [e2]
    unfold askStep
    by_cases h : nF s S.minute10 k < x.1
    · rw [if_pos h, if_pos h, Option.bind_some, addc_eq (by omega), Option.bind_some]
      rfl
    · rw [if_neg h, if_neg h, Option.bind_some, addc_eq (by omega), Option.bind_some]
      rfl
  · unfold m_tide_Ask_1_L1
    dsimp only
    rw [if_neg (by omega)]
theorem ask_day {s : Sands} (hG : Good s) : iterM FU (m_tide_Ask_1_L0 s (allW s)) ⟨allW s + 1, firstM s, 0, 0, false⟩ = some ⟨(askDay s (dayN s)).1, (askDay s (dayN s)).2.min, (askDay s (dayN s)).2.place, (askDay s (dayN s)).2.wet⟩ := by
  have hds := day_span hG
  have hn := dayN_eq' hG
  have hz : (⟨allW s + 1, firstM s, 0, 0, false⟩ : m_tide_Ask_1_S0) = (fun k : Nat => (⟨(askDay s k).1, firstM s + (k : Int), (askDay s k).2.min, (askDay s k).2.place, (askDay s k).2.wet⟩ : m_tide_Ask_1_S0)) 0 := by simp [askDay]
  rw [hz]
  refine iterM_run (fun k : Nat => (⟨(askDay s k).1, firstM s + (k : Int), (askDay s k).2.min, (askDay s k).2.place, (askDay s k).2.wet⟩ : m_tide_Ask_1_S0)) (dayN s) (fun k hk => ?_) ?_ FU (FU_lt (by omega))
  · have hd : dayF s (firstM s + (k : Int)) = true := by simp only [dayF, inr_iff]; omega
    have hp := ask_pl hG (S := ⟨(askDay s k).1, firstM s + (k : Int), (askDay s k).2.min, (askDay s k).2.place, (askDay s k).2.wet⟩) hd (askDay s k)
    dsimp only at hp
    unfold m_tide_Ask_1_L0
    dsimp only
    rw [x_day_eq hG, Option.bind_some, hd, if_pos rfl, hp, Option.bind_some, addc_eq (by omega), Option.bind_some, askDay_succ]
    exact congrArg (fun z => some (Sum.inl (⟨_, z, _, _, _⟩ : m_tide_Ask_1_S0))) (by omega)
  · have hd : dayF s (firstM s + ((dayN s : Nat) : Int)) = false := by
      have : ¬ (dayF s (firstM s + ((dayN s : Nat) : Int)) = true) := by simp only [dayF, inr_iff]; omega
      simpa using this
    unfold m_tide_Ask_1_L0
    dsimp only
    rw [x_day_eq hG, Option.bind_some, hd, if_neg (by decide)]
/-- what Ask comes to -/
def AskR (s : Sands) : m_tide_Ask_1_R := if check s ≠ 0 then ⟨⟨0, 0, false⟩, 0, check s⟩ else if s.wind.lo = s.wind.hi then ⟨⟨0, 0, false⟩, 0, 6⟩ else ⟨(askDay s (dayN s)).2, (askDay s (dayN s)).1, 0⟩
theorem ask_eq {s : Sands} (hS : Short s) : m_tide_Ask_1 s = some (AskR s) := by
  have h1 := hS.t
  have h2 := hS.f
  have h3 := hS.s
  unfold m_tide_Ask_1 AskR
  rw [if_pos ⟨by omega, by omega, by omega⟩]
  by_cases hc : check s = 0
  · have hG := good_of_check hc
    have htl := hG.tl
    have hlo := hG.lo
    have hhi := hG.hi
    have hwi := hG.wind
    rw [if_pos hc, if_neg (by rw [hc]; simp), subc_eq (by omega), Option.bind_some, addc_eq (by omega), Option.bind_some]
    by_cases he : s.wind.lo = s.wind.hi
    · rw [if_pos (by omega), if_pos he]
    · rw [if_neg (by omega), if_neg he, addc_eq (by omega), Option.bind_some, ix_eq default (by omega) (by omega), Option.bind_some]
      have e : (s.table.getD (0 : Int).toNat default).min = firstM s := rfl
      have e2 : s.wind.hi - s.wind.lo + 1 = allW s := rfl
      rw [e, e2, ask_day hG, Option.bind_some]
  · rw [if_neg hc, if_pos hc]
end Go.Proofs.Wk

namespace Go.Proofs.Wk
open Go Go.Gx Go.Pl
set_option linter.unusedVariables false
/-! ### runs of minutes -/
/-- the runs told so far, and the open one -/
structure SI (p : Int → Bool) (a : Int) (k : Nat) (x : SpanSt) : Prop where
  acc : ∀ y, y ∈ x.acc → a ≤ y.lo ∧ y.lo ≤ y.hi ∧ y.hi + 1 < a + k ∧ (∀ m, y.lo ≤ m → m ≤ y.hi → p m = true) ∧ p (y.hi + 1) = false ∧ (y.lo = a ∨ p (y.lo - 1) = false)
  op : x.op = true → a ≤ x.fr ∧ x.fr < a + k ∧ (∀ m, x.fr ≤ m → m < a + k → p m = true) ∧ (x.fr = a ∨ p (x.fr - 1) = false)
  cov : ∀ m, a ≤ m → m < a + k → p m = true → (∃ y, y ∈ x.acc ∧ y.lo ≤ m ∧ m ≤ y.hi) ∨ (x.op = true ∧ x.fr ≤ m)
  shut : x.op = false → k = 0 ∨ p (a + k - 1) = false
theorem si_n {p : Int → Bool} {a : Int} : ∀ k, SI p a k (spansN p a k)
  | 0 => ⟨fun y hy => by simp [spansN] at hy, fun h => by simp [spansN] at h, fun m h1 h2 => by omega, fun _ => .inl rfl⟩
  | k + 1 => by
    have ih := si_n (p := p) (a := a) k
    rw [spansN_succ]
    generalize hx : spansN p a k = x at ih
    unfold spanStep
    cases hp : p (a + k) with
    | true =>
      cases ho : x.op with
      | false =>
        refine ⟨fun y hy => ?_, fun _ => ?_, fun m h1 h2 h3 => ?_, fun h => by simp at h⟩
        · have := ih.acc y hy; exact ⟨this.1, this.2.1, by omega, this.2.2.2⟩
        · refine ⟨by simp only; omega, by simp only; omega, fun m h1 h2 => ?_, ?_⟩
          · have : m = a + k := by simp only at h1; omega
            rw [this, hp]
          · rcases ih.shut ho with h | h
            · subst h; simp
            · right; exact h
        · by_cases hm : m < a + k
          · rcases ih.cov m h1 hm h3 with h | h
            · exact .inl h
            · rw [ho] at h; exact absurd h.1 (by decide)
          · exact .inr ⟨rfl, by simp only; omega⟩
      | true =>
        refine ⟨fun y hy => ?_, fun _ => ?_, fun m h1 h2 h3 => ?_, fun h => by simp only at h; rw [ho] at h; simp at h⟩
        · have := ih.acc y hy; exact ⟨this.1, this.2.1, by omega, this.2.2.2⟩
        · have := ih.op ho
          refine ⟨this.1, by have := this.2.1; simp only; omega, fun m h1 h2 => ?_, this.2.2.2⟩
          by_cases hm : m < a + k
          · exact this.2.2.1 m h1 hm
          · have : m = a + k := by omega
            rw [this, hp]
        · by_cases hm : m < a + k
          · exact ih.cov m h1 hm h3
          · exact .inr ⟨ho, by have := (ih.op ho).2.1; simp only; omega⟩
    | false =>
      unfold shutF
      cases ho : x.op with
      | false =>
        refine ⟨fun y hy => ?_, fun h => by simp at h, fun m h1 h2 h3 => ?_, fun _ => .inr (by rw [← hp]; congr 1; omega)⟩
        · have := ih.acc y hy; exact ⟨this.1, this.2.1, by omega, this.2.2.2⟩
        · by_cases hm : m < a + k
          · rcases ih.cov m h1 hm h3 with h | h
            · exact .inl h
            · rw [ho] at h; exact absurd h.1 (by decide)
          · have : m = a + k := by omega
            rw [this, hp] at h3; exact absurd h3 (by decide)
      | true =>
        have hop := ih.op ho
        refine ⟨fun y hy => ?_, fun h => by simp at h, fun m h1 h2 h3 => ?_, fun _ => .inr (by rw [← hp]; congr 1; omega)⟩
        · simp only [List.mem_append, List.mem_singleton] at hy
          rcases hy with hy | rfl
          · have := ih.acc y hy; exact ⟨this.1, this.2.1, by omega, this.2.2.2⟩
          · refine ⟨hop.1, by have := hop.2.1; simp only; omega, by simp only; omega, fun m h1 h2 => hop.2.2.1 m h1 (by simp only at h2; omega), ?_, hop.2.2.2⟩
            simp only
            rw [← hp]; congr 1; omega
        · by_cases hm : m < a + k
          · rcases ih.cov m h1 hm h3 with ⟨y, hy, h⟩ | h
            · exact .inl ⟨y, List.mem_append_left _ hy, h⟩
            · exact .inl ⟨_, List.mem_append_right _ List.mem_cons_self, h.2, by simp only; omega⟩
          · have : m = a + k := by omega
            rw [this, hp] at h3; exact absurd h3 (by decide)
/-- the runs of a day are the longest ones, and all of them -/
theorem spans_runs {s : Sands} (hG : Good s) {p : Int → Bool} :
    (∀ y, y ∈ spansF s p → firstM s ≤ y.lo ∧ y.lo ≤ y.hi ∧ y.hi ≤ lastM s ∧ (∀ m, y.lo ≤ m → m ≤ y.hi → p m = true) ∧ (y.hi = lastM s ∨ p (y.hi + 1) = false) ∧ (y.lo = firstM s ∨ p (y.lo - 1) = false)) ∧
    ∀ m, dayF s m = true → p m = true → ∃ y, y ∈ spansF s p ∧ y.lo ≤ m ∧ m ≤ y.hi := by
  have hds := day_span hG
  have hn : ((dayN s : Nat) : Int) = lastM s - firstM s + 1 := by unfold dayN; omega
  have ih := si_n (p := p) (a := firstM s) (dayN s)
  unfold spansF
  generalize spansN p (firstM s) (dayN s) = x at ih
  have key : ∀ y, y ∈ x.acc → firstM s ≤ y.lo ∧ y.lo ≤ y.hi ∧ y.hi ≤ lastM s ∧ (∀ m, y.lo ≤ m → m ≤ y.hi → p m = true) ∧ (y.hi = lastM s ∨ p (y.hi + 1) = false) ∧ (y.lo = firstM s ∨ p (y.lo - 1) = false) := fun y hy => by
    obtain ⟨h1, h2, h3, h4, h5, h6⟩ := ih.acc y hy
    exact ⟨h1, h2, by omega, h4, .inr h5, h6⟩
  unfold shutF
  cases ho : x.op with
  | false =>
    refine ⟨key, fun m hd hp => ?_⟩
    simp only [dayF, inr_iff] at hd
    rcases ih.cov m hd.1 (by omega) hp with h | h
    · exact h
    · rw [ho] at h; exact absurd h.1 (by decide)
  | true =>
    have hop := ih.op ho
    refine ⟨fun y hy => ?_, fun m hd hp => ?_⟩
    · simp only [List.mem_append, List.mem_singleton] at hy
      rcases hy with hy | rfl
      · exact key y hy
      · exact ⟨hop.1, by simp only; omega, by simp only; omega, fun m h1 h2 => hop.2.2.1 m h1 (by simp only at h2; omega), .inl (by simp only; omega), hop.2.2.2⟩
    · simp only [dayF, inr_iff] at hd
      rcases ih.cov m hd.1 (by omega) hp with ⟨y, hy, h⟩ | h
      · exact ⟨y, List.mem_append_left _ hy, h⟩
      · exact ⟨_, List.mem_append_right _ List.mem_cons_self, h.2, by simp only; omega⟩
theorem idxf_holds {α : Type} {p : α → Bool} {l : List α} {d : α} (h : 0 ≤ idxf p l) : p (l.getD (idxf p l).toNat d) = true := by
  unfold idxf at h ⊢
  cases hf : l.findIdx? p with
  | none => rw [hf] at h; exact absurd h (by decide)
  | some i =>
    rw [List.findIdx?_eq_some_iff_getElem] at hf
    obtain ⟨h1, h2, _⟩ := hf
    simpa [List.getD_eq_getElem?_getD, h1] using h2
/-- until when one may stay -/
theorem turn_spec {s : Sands} (hG : Good s) {p m : Int} (hp : isPlace s p = true) (hd : dayF s m = true) (h0 : stateF s m p = 0) :
    ∃ T, TurnR s p m = (T, 0) ∧ m ≤ T ∧ T ≤ lastM s ∧ (∀ k, m ≤ k → k ≤ T → stateF s k p = 0) ∧ (T = lastM s ∨ stateF s (T + 1) p ≠ 0) := by
  obtain ⟨hr, hc⟩ := spans_runs hG (p := isState s p 0)
  obtain ⟨y, hy, hy1, hy2⟩ := hc m hd (by simp [isState, h0])
  have hE : spansE s p 0 = 0 := by
    unfold spansE
    rw [check_of_good hG, hp]
    rfl
  have hi : 0 ≤ idxf (fun x : Span => inr m x.lo x.hi) (spansF s (isState s p 0)) := by
    have := idxf_nonneg (p := fun x : Span => inr m x.lo x.hi) (l := spansF s (isState s p 0))
    have ha : (spansF s (isState s p 0)).any (fun x : Span => inr m x.lo x.hi) = true := List.any_eq_true.2 ⟨y, hy, inr_iff.2 ⟨hy1, hy2⟩⟩
    rw [ha] at this
    exact of_decide_eq_true this
  have hrg := idxf_range (p := fun x : Span => inr m x.lo x.hi) (l := spansF s (isState s p 0))
  unfold TurnR
  rw [hE, hd, if_neg (by simp), if_neg (by simp), if_neg (by omega)]
  have hin := idxf_holds (d := default) (p := fun x : Span => inr m x.lo x.hi) (l := spansF s (isState s p 0)) hi
  generalize idxf (fun x : Span => inr m x.lo x.hi) (spansF s (isState s p 0)) = i at hi hrg hin
  have hm := mem_getD (d := (default : Span)) (l := spansF s (isState s p 0)) (j := i.toNat) (by omega)
  obtain ⟨_, _, h3, h4, h5, _⟩ := hr _ hm
  have hin2 := inr_iff.1 hin
  refine ⟨_, rfl, hin2.2, h3, fun k h1 h2 => ?_, ?_⟩
  · have := h4 k (by omega) h2
    exact of_decide_eq_true this
  · rcases h5 with h5 | h5
    · exact .inl h5
    · exact .inr (of_decide_eq_false h5)
/-! ### the table of ways is whole -/
def joins (x : Sill) (p q : Int) : Prop := x.a = p ∧ x.b = q ∨ x.b = p ∧ x.a = q
theorem hasKey_app {W r : List (Int × List Int)} {q : Int} (h : hasKey W q = true) : hasKey (W ++ r) q = true := by
  unfold hasKey at h ⊢
  rw [List.any_append, h]
  rfl
theorem tryAdd_has {may : Int → Int → Bool} {way : List Int} {W : List (Int × List Int)} {k : Nat} {q : Int} (hm : may k q = true) : hasKey (tryAdd may way W k q) q = true := by
  unfold tryAdd
  by_cases h : hasKey W q = true
  · rw [if_pos h]; exact h
  · rw [if_neg h, if_pos hm]
    unfold hasKey
    simp
theorem procN_has {s : Sands} {may : Int → Int → Bool} (hG : Good s) {W : List (Int × List Int)} {c : Nat} {q : Int} {k : Nat} (hk : k < s.sills.length) (hj : joins (s.sills.getD k default) (W.getD c default).1 q) (hm : may k q = true) : ∀ n, k < n → hasKey (procN s may W c n) q = true
  | 0, h => by omega
  | n + 1, h => by
    rw [procN_succ]
    by_cases hn : k < n
    · obtain ⟨r, hr⟩ := wStep_mono (may := may) (p := (W.getD c default).1) (way := (W.getD c default).2) (W := procN s may W c n) (k := n) (x := s.sills.getD n default)
      rw [hr]
      exact hasKey_app (procN_has hG hk hj hm n hn)
    · obtain rfl : k = n := by omega
      have hne := hG.ne k hk
      unfold wStep
      rcases hj with ⟨h1, h2⟩ | ⟨h1, h2⟩
      · rw [if_pos h1, h2]; exact tryAdd_has hm
      · rw [if_neg (by rw [← h1]; exact hne), if_pos h1, h2]; exact tryAdd_has hm
theorem ways_closed {s : Sands} {may : Int → Int → Bool} (hG : Good s) : ∀ (c j : Nat), j < c → j < (waysN s may c).length → ∀ k, k < s.sills.length → ∀ q, joins (s.sills.getD k default) ((waysN s may c).getD j default).1 q → may k q = true → hasKey (waysN s may c) q = true
  | 0, j, h, _, _, _, _, _, _ => by omega
  | c + 1, j, h, hl, k, hk, q, hj, hm => by
    have e : waysN s may (c + 1) = if c < (waysN s may c).length then procN s may (waysN s may c) c s.sills.length else waysN s may c := rfl
    by_cases hc : c < (waysN s may c).length
    · rw [e, if_pos hc] at hj hl ⊢
      obtain ⟨_, r, hr⟩ := procN_inv (may := may) hG (waysN_inv hG c) hc (Nat.le_refl _)
      by_cases hjc : j < c
      · have hg : (procN s may (waysN s may c) c s.sills.length).getD j default = (waysN s may c).getD j default := by
          rw [hr, List.getD_eq_getElem?_getD, List.getElem?_append_left (by omega), List.getD_eq_getElem?_getD]
        rw [hg] at hj
        rw [hr]
        exact hasKey_app (ways_closed hG c j hjc (by omega) k hk q hj hm)
      · obtain rfl : j = c := by omega
        have hg : (procN s may (waysN s may j) j s.sills.length).getD j default = (waysN s may j).getD j default := by
          rw [hr, List.getD_eq_getElem?_getD, List.getElem?_append_left (by omega), List.getD_eq_getElem?_getD]
        rw [hg] at hj
        exact procN_has hG hk hj hm _ hk
    · rw [e, if_neg hc] at hj hl ⊢
      exact ways_closed hG c j (by omega) hl k hk q hj hm
/-- who is in the table brings in whom he may -/
theorem waysF_closed {s : Sands} {may : Int → Int → Bool} (hG : Good s) {p q : Int} (hp : hasKey (waysF s may) p = true) {k : Nat} (hk : k < s.sills.length) (hj : joins (s.sills.getD k default) p q) (hm : may k q = true) : hasKey (waysF s may) q = true := by
  have hl := (waysN_inv (may := may) hG 9).len
  have hfl := hG.fl
  unfold waysF at hp ⊢
  have hp' := hasKey_iff.1 hp
  obtain ⟨e, he, rfl⟩ := List.mem_map.1 hp'
  obtain ⟨j, hj', rfl⟩ := List.mem_iff_getElem.1 he
  refine ways_closed hG 9 j (by omega) hj' k hk q ?_ hm
  have : (waysN s may 9).getD j default = (waysN s may 9)[j] := by simp [List.getD_eq_getElem?_getD, hj']
  rw [this]
  exact hj
theorem sea_in {s : Sands} {may : Int → Int → Bool} (hG : Good s) : hasKey (waysF s may) (-1) = true := by
  obtain ⟨r, hr⟩ := (waysN_inv (may := may) hG 9).sea
  unfold waysF
  rw [hr]
  simp [hasKey]
/-- what is in the table was allowed -/
theorem ways_keys {s : Sands} {may : Int → Int → Bool} {Q : Int → Prop} (hQ : ∀ k q, may k q = true → Q q) : ∀ c, ∀ e ∈ waysN s may c, e.1 = -1 ∨ Q e.1
  | 0, e, he => by simp [waysN] at he; subst he; exact .inl rfl
  | c + 1, e, he => by
    have ih := ways_keys (s := s) hQ c
    have e1 : waysN s may (c + 1) = if c < (waysN s may c).length then procN s may (waysN s may c) c s.sills.length else waysN s may c := rfl
    rw [e1] at he
    split at he
    · have key : ∀ n, ∀ e ∈ procN s may (waysN s may c) c n, e.1 = -1 ∨ Q e.1 := by
        intro n
        induction n with
        | zero => exact ih
        | succ n ihn =>
          have ht : ∀ q, ∀ e ∈ tryAdd may ((waysN s may c).getD c default).2 (procN s may (waysN s may c) c n) n q, e.1 = -1 ∨ Q e.1 := by
            intro q e he
            unfold tryAdd at he
            split at he
            · exact ihn e he
            · split at he
              · rename_i hm
                rcases List.mem_append.1 he with he | he
                · exact ihn e he
                · simp at he; subst he; exact .inr (hQ _ _ hm)
              · exact ihn e he
          intro e he
          rw [procN_succ] at he
          unfold wStep at he
          split at he
          · exact ht _ e he
          · split at he
            · exact ht _ e he
            · exact ihn e he
      exact key _ e he
    · exact ih e he
end Go.Proofs.Wk

