/- What the functions that the law TideStays reaches come to, and why it holds: part 4. -/
import Derived.Test.YtaicfimbclibpaaTideStays3
namespace Go.Proofs.Wk
open Go Go.Fw Go.Gx Go.Pl
set_option linter.unusedVariables false
theorem gxinf3 : (Try.prog.info? 3).map (fun i => (i.zero, i.size, i.bytes)) = some (some (.int .i64 0), 1, 8) := by kernel_rfl
theorem gxinf4 : (Try.prog.info? 4).map (fun i => (i.zero, i.size, i.bytes)) = some (some (.bool false), 1, 1) := by kernel_rfl
theorem gxinf25 : (Try.prog.info? 25).map (fun i => (i.zero, i.size, i.bytes)) = some (some (.agg #[.int .i64 0, .int .i64 0]), 2, 16) := by kernel_rfl
theorem gxinf51 : (Try.prog.info? 51).map (fun i => (i.zero, i.size, i.bytes)) = some (some (.agg #[.int .i64 0, .int .i64 0, .int .i64 0]), 3, 24) := by kernel_rfl
theorem gxinf68 : (Try.prog.info? 68).map (fun i => (i.zero, i.size, i.bytes)) = some (some (.agg #[.int .i64 0, .int .i64 0]), 2, 16) := by kernel_rfl
theorem gxinf158 : (Try.prog.info? 158).map (fun i => (i.zero, i.size, i.bytes)) = some (some (.agg #[.int .i64 0, .int .i64 0]), 2, 16) := by kernel_rfl
theorem gxinf159 : (Try.prog.info? 159).map (fun i => (i.zero, i.size, i.bytes)) = some (some (.agg #[.int .i64 0, .int .i64 0, .int .i64 0]), 3, 24) := by kernel_rfl
set_option maxRecDepth 100000 in
theorem gxeqg25 : Try.prog.eqGuardType Try.prog.depth 25 = false := by decide +kernel
set_option maxRecDepth 100000 in
theorem gxsth25 : Try.prog.stoodInHeld 25 = false := by decide +kernel
set_option maxRecDepth 100000 in
theorem gxeq25 (x y : Span) (w : World) : (Op.equalIn 10000 25 (.agg (RP.cells x).toArray) (.agg (RP.cells y).toArray)).run Try.prog w = .ok (decide (x = y)) w := by
  have h := equal_struct (xs := (RP.cells x).toArray) (ys := (RP.cells y).toArray) Try.underlying25 gxsth25 (.int rfl (fun w => Try.isAgg3 w) ⟨_, Try.underlying3⟩ rfl rfl (.int rfl (fun w => Try.isAgg3 w) ⟨_, Try.underlying3⟩ rfl rfl .nil)) w
  rw [h]
  congr 1
  cases x; cases y
  rw [Bool.eq_iff_iff]
  simp only [Bool.and_eq_true, decide_eq_true_eq, Span.mk.injEq, and_true]
set_option maxRecDepth 100000 in
theorem gxeqg51 : Try.prog.eqGuardType Try.prog.depth 51 = false := by decide +kernel
set_option maxRecDepth 100000 in
theorem gxsth51 : Try.prog.stoodInHeld 51 = false := by decide +kernel
set_option maxRecDepth 100000 in
theorem gxeq51 (x y : Sill) (w : World) : (Op.equalIn 10000 51 (.agg (RS.cells x).toArray) (.agg (RS.cells y).toArray)).run Try.prog w = .ok (decide (x = y)) w := by
  have h := equal_struct (xs := (RS.cells x).toArray) (ys := (RS.cells y).toArray) Try.underlying51 gxsth51 (.int rfl (fun w => Try.isAgg3 w) ⟨_, Try.underlying3⟩ rfl rfl (.int rfl (fun w => Try.isAgg3 w) ⟨_, Try.underlying3⟩ rfl rfl (.int rfl (fun w => Try.isAgg3 w) ⟨_, Try.underlying3⟩ rfl rfl .nil))) w
  rw [h]
  congr 1
  cases x; cases y
  rw [Bool.eq_iff_iff]
  simp only [Bool.and_eq_true, decide_eq_true_eq, Sill.mk.injEq, and_true]
set_option maxRecDepth 100000 in
theorem gxeqg68 : Try.prog.eqGuardType Try.prog.depth 68 = false := by decide +kernel
set_option maxRecDepth 100000 in
theorem gxsth68 : Try.prog.stoodInHeld 68 = false := by decide +kernel
set_option maxRecDepth 100000 in
theorem gxeq68 (x y : Water) (w : World) : (Op.equalIn 10000 68 (.agg (RW.cells x).toArray) (.agg (RW.cells y).toArray)).run Try.prog w = .ok (decide (x = y)) w := by
  have h := equal_struct (xs := (RW.cells x).toArray) (ys := (RW.cells y).toArray) Try.underlying68 gxsth68 (.int rfl (fun w => Try.isAgg3 w) ⟨_, Try.underlying3⟩ rfl rfl (.int rfl (fun w => Try.isAgg3 w) ⟨_, Try.underlying3⟩ rfl rfl .nil)) w
  rw [h]
  congr 1
  cases x; cases y
  rw [Bool.eq_iff_iff]
  simp only [Bool.and_eq_true, decide_eq_true_eq, Water.mk.injEq, and_true]
def m_laurelkit_Dup_tideWater (l0 : (List Water)) : Option (List Water) :=
 (makec 16 (⟨0, 0⟩ : Water) 0 (l0.length : Int)).bind fun t5 =>
 (appc 16 t5 l0).bind fun t7 =>
 some t7
set_option maxRecDepth 100000 in
set_option maxHeartbeats 4000000 in
theorem c_laurelkit_Dup_tideWater (l0 : (List Water)) (qa0 : Option Addr) (na0 ca0 : Nat) (w : World) (hw : HV w (keys [] []) [] [] [(aB qa0, aO qa0, RW.enc l0)] w) (hna0 : l0.length = na0) (hqa0 : AOK na0 qa0) (hla0 : na0 ≤ ca0) {res : (List Water)} (hm : m_laurelkit_Dup_tideWater l0 = some res) :
    Calls Try.prog 100 #[.slice qa0 na0 ca0] w (fun en w' => ∃ l : VL, en = .returned (slv l.q l.n l.cap) ∧ (VOK 2 l.n l.cap (RW.enc res) l.sp l.q) ∧ HV w (keys [] []) [] [⟨68, RW.enc res, l.sp, l.q⟩] [] w') := by
  unfold m_laurelkit_Dup_tideWater at hm
  refine g_enter (args := [.slice qa0 na0 ca0]) Try.func100 rfl Try.ntmps100 rfl (e := [(0, _)]) rfl (H := HV w (keys [] []) [] [] [(aB qa0, aO qa0, RW.enc l0)]) hw ?_
  refine g_seq ?_
  refine g_region ?_
  refine g_val rfl rfl rfl (fun _ _ => v_nilS rfl) ?_
  refine g_nil ?_
  refine g_n_then ?_
  refine g_seq ?_
  refine g_region ?_
  refine g_val rfl rfl rfl (fun _ _ => v_move rfl) ?_
  refine g_val rfl rfl rfl (fun w _ => v_lenR hna0 (Try.runUnderlying23 w) rfl) ?_
  obtain ⟨t5, h2, hm⟩ := bindO hm
  refine g_vmake RW (⟨0, 0⟩ : Water) h2 Try.underlying23 gxinf68 rfl rfl rfl rfl rfl (fun L h3 => ?_)
  refine g_val rfl rfl rfl (fun _ _ => v_move rfl) ?_
  obtain ⟨t7, h4, hm⟩ := bindO hm
  refine g_vapp RW 0 h4 Try.underlying23 gxinf68 rfl rfl rfl rfl rfl h3 rfl rfl hna0 hqa0 (fun w hh => (hh.seg 0 rfl)) rfl (fun L_1 h5 h5n => ?_)
  refine g_sel (S' := []) (vs' := [_]) [] [0] 0 (by decide) (by decide) rfl rfl rfl ?_
  refine g_val rfl rfl rfl (fun _ _ => v_assign rfl) ?_
  refine g_nil ?_
  refine g_n_then ?_
  refine g_ret ?_
  obtain rfl := Option.some.inj hm
  refine g_done rfl (fun w hh => (.tmp rfl .nil)) (fun w hh => ⟨L_1, rfl, h5, hh.sel [] [0] 1 (by decide) (by decide) rfl rfl rfl⟩)
def m_laurelkit_Dup_int (l0 : (List Int)) : Option (List Int) :=
 (makec 8 0 0 (l0.length : Int)).bind fun t5 =>
 (appc 8 t5 l0).bind fun t7 =>
 some t7
set_option maxRecDepth 100000 in
set_option maxHeartbeats 4000000 in
theorem c_laurelkit_Dup_int (l0 : (List Int)) (qa0 : Option Addr) (na0 ca0 : Nat) (w : World) (hw : HV w (keys [] []) [] [] [(aB qa0, aO qa0, RI.enc l0)] w) (hna0 : l0.length = na0) (hqa0 : AOK na0 qa0) (hla0 : na0 ≤ ca0) {res : (List Int)} (hm : m_laurelkit_Dup_int l0 = some res) :
    Calls Try.prog 65 #[.slice qa0 na0 ca0] w (fun en w' => ∃ l : VL, en = .returned (slv l.q l.n l.cap) ∧ (VOK 1 l.n l.cap (RI.enc res) l.sp l.q) ∧ HV w (keys [] []) [] [⟨3, RI.enc res, l.sp, l.q⟩] [] w') := by
  unfold m_laurelkit_Dup_int at hm
  refine g_enter (args := [.slice qa0 na0 ca0]) Try.func65 rfl Try.ntmps65 rfl (e := [(0, _)]) rfl (H := HV w (keys [] []) [] [] [(aB qa0, aO qa0, RI.enc l0)]) hw ?_
  refine g_seq ?_
  refine g_region ?_
  refine g_val rfl rfl rfl (fun _ _ => v_nilS rfl) ?_
  refine g_nil ?_
  refine g_n_then ?_
  refine g_seq ?_
  refine g_region ?_
  refine g_val rfl rfl rfl (fun _ _ => v_move rfl) ?_
  refine g_val rfl rfl rfl (fun w _ => v_lenR hna0 (Try.runUnderlying26 w) rfl) ?_
  obtain ⟨t5, h2, hm⟩ := bindO hm
  refine g_vmake RI 0 h2 Try.underlying26 gxinf3 rfl rfl rfl rfl rfl (fun L h3 => ?_)
  refine g_val rfl rfl rfl (fun _ _ => v_move rfl) ?_
  obtain ⟨t7, h4, hm⟩ := bindO hm
  refine g_vapp RI 0 h4 Try.underlying26 gxinf3 rfl rfl rfl rfl rfl h3 rfl rfl hna0 hqa0 (fun w hh => (hh.seg 0 rfl)) rfl (fun L_1 h5 h5n => ?_)
  refine g_sel (S' := []) (vs' := [_]) [] [0] 0 (by decide) (by decide) rfl rfl rfl ?_
  refine g_val rfl rfl rfl (fun _ _ => v_assign rfl) ?_
  refine g_nil ?_
  refine g_n_then ?_
  refine g_ret ?_
  obtain rfl := Option.some.inj hm
  refine g_done rfl (fun w hh => (.tmp rfl .nil)) (fun w hh => ⟨L_1, rfl, h5, hh.sel [] [0] 1 (by decide) (by decide) rfl rfl rfl⟩)
def m_laurelkit_Dup_tideSill (l0 : (List Sill)) : Option (List Sill) :=
 (makec 24 (⟨0, 0, 0⟩ : Sill) 0 (l0.length : Int)).bind fun t5 =>
 (appc 24 t5 l0).bind fun t7 =>
 some t7
set_option maxRecDepth 100000 in
set_option maxHeartbeats 4000000 in
theorem c_laurelkit_Dup_tideSill (l0 : (List Sill)) (qa0 : Option Addr) (na0 ca0 : Nat) (w : World) (hw : HV w (keys [] []) [] [] [(aB qa0, aO qa0, RS.enc l0)] w) (hna0 : l0.length = na0) (hqa0 : AOK na0 qa0) (hla0 : na0 ≤ ca0) {res : (List Sill)} (hm : m_laurelkit_Dup_tideSill l0 = some res) :
    Calls Try.prog 101 #[.slice qa0 na0 ca0] w (fun en w' => ∃ l : VL, en = .returned (slv l.q l.n l.cap) ∧ (VOK 3 l.n l.cap (RS.enc res) l.sp l.q) ∧ HV w (keys [] []) [] [⟨51, RS.enc res, l.sp, l.q⟩] [] w') := by
  unfold m_laurelkit_Dup_tideSill at hm
  refine g_enter (args := [.slice qa0 na0 ca0]) Try.func101 rfl Try.ntmps101 rfl (e := [(0, _)]) rfl (H := HV w (keys [] []) [] [] [(aB qa0, aO qa0, RS.enc l0)]) hw ?_
  refine g_seq ?_
  refine g_region ?_
  refine g_val rfl rfl rfl (fun _ _ => v_nilS rfl) ?_
  refine g_nil ?_
  refine g_n_then ?_
  refine g_seq ?_
  refine g_region ?_
  refine g_val rfl rfl rfl (fun _ _ => v_move rfl) ?_
  refine g_val rfl rfl rfl (fun w _ => v_lenR hna0 (Try.runUnderlying27 w) rfl) ?_
  obtain ⟨t5, h2, hm⟩ := bindO hm
  refine g_vmake RS (⟨0, 0, 0⟩ : Sill) h2 Try.underlying27 gxinf51 rfl rfl rfl rfl rfl (fun L h3 => ?_)
  refine g_val rfl rfl rfl (fun _ _ => v_move rfl) ?_
  obtain ⟨t7, h4, hm⟩ := bindO hm
  refine g_vapp RS 0 h4 Try.underlying27 gxinf51 rfl rfl rfl rfl rfl h3 rfl rfl hna0 hqa0 (fun w hh => (hh.seg 0 rfl)) rfl (fun L_1 h5 h5n => ?_)
  refine g_sel (S' := []) (vs' := [_]) [] [0] 0 (by decide) (by decide) rfl rfl rfl ?_
  refine g_val rfl rfl rfl (fun _ _ => v_assign rfl) ?_
  refine g_nil ?_
  refine g_n_then ?_
  refine g_ret ?_
  obtain rfl := Option.some.inj hm
  refine g_done rfl (fun w hh => (.tmp rfl .nil)) (fun w hh => ⟨L_1, rfl, h5, hh.sel [] [0] 1 (by decide) (by decide) rfl rfl rfl⟩)
def m_laurellaw01_Own (s0 : Sands) : Option Sands :=
 (m_laurelkit_Dup_tideWater s0.table).bind fun t5 =>
 (m_laurelkit_Dup_int s0.floors).bind fun t10 =>
 (m_laurelkit_Dup_tideSill s0.sills).bind fun t13 =>
 some (⟨t5, s0.wind, t10, t13⟩ : Sands)
set_option maxRecDepth 100000 in
set_option maxHeartbeats 4000000 in
theorem c_laurellaw01_Own (s0 : Sands) (qa0 : Option Addr) (na0 ca0 : Nat) (qa1 : Option Addr) (na1 ca1 : Nat) (qa2 : Option Addr) (na2 ca2 : Nat) (w : World) (hw : HV w (keys [] []) [] [] [(aB qa0, aO qa0, RW.enc s0.table), (aB qa1, aO qa1, RI.enc s0.floors), (aB qa2, aO qa2, RS.enc s0.sills)] w) (hna0 : s0.table.length = na0) (hqa0 : AOK na0 qa0) (hla0 : na0 ≤ ca0) (hna1 : s0.floors.length = na1) (hqa1 : AOK na1 qa1) (hla1 : na1 ≤ ca1) (hna2 : s0.sills.length = na2) (hqa2 : AOK na2 qa2) (hla2 : na2 ≤ ca2) {res : Sands} (hm : m_laurellaw01_Own s0 = some res) :
    Calls Try.prog 25 #[.agg #[.slice qa0 na0 ca0, .int .i64 s0.wind.lo, .int .i64 s0.wind.hi, .slice qa1 na1 ca1, .slice qa2 na2 ca2]] w (fun en w' => ∃ l : VL × VL × VL, en = .returned (.agg #[slv l.1.q l.1.n l.1.cap, .int .i64 res.wind.lo, .int .i64 res.wind.hi, slv l.2.1.q l.2.1.n l.2.1.cap, slv l.2.2.q l.2.2.n l.2.2.cap]) ∧ (VOK 2 l.1.n l.1.cap (RW.enc res.table) l.1.sp l.1.q ∧ VOK 1 l.2.1.n l.2.1.cap (RI.enc res.floors) l.2.1.sp l.2.1.q ∧ VOK 3 l.2.2.n l.2.2.cap (RS.enc res.sills) l.2.2.sp l.2.2.q) ∧ HV w (keys [] []) [] [⟨68, RW.enc res.table, l.1.sp, l.1.q⟩, ⟨3, RI.enc res.floors, l.2.1.sp, l.2.1.q⟩, ⟨51, RS.enc res.sills, l.2.2.sp, l.2.2.q⟩] [] w') := by
  unfold m_laurellaw01_Own at hm
  refine g_enter (args := [.agg #[.slice qa0 na0 ca0, .int .i64 s0.wind.lo, .int .i64 s0.wind.hi, .slice qa1 na1 ca1, .slice qa2 na2 ca2]]) Try.func25 rfl Try.ntmps25 rfl (e := [(0, _)]) rfl (H := HV w (keys [] []) [] [] [(aB qa0, aO qa0, RW.enc s0.table), (aB qa1, aO qa1, RI.enc s0.floors), (aB qa2, aO qa2, RS.enc s0.sills)]) hw ?_
  refine g_seq ?_
  refine g_region ?_
  refine g_boxV rfl rfl (fun b h4 => ?_)
  refine g_allocV (fun w => Try.zeroValue29 w) rfl (fun b_1 h5 => ?_)
  refine g_nil ?_
  refine g_n_then ?_
  refine g_seq ?_
  refine g_draw none (.free 0 (.hoist 1 (.free 3 (.hoist 4 (.free 5 (.hoist 6 (.free 8 (.hoist 9 (.one 2 (.one 7 (.one 10 (.free 11 (.one 12 .done))))))))))))) (HV _ _ [(b, .cells #[.slice qa0 na0 ca0, .int .i64 s0.wind.lo, .int .i64 s0.wind.hi, .slice qa1 na1 ca1, .slice qa2 na2 ca2] 29 (0, 0))] [] _) rfl (by decide +kernel) (fun w k hh => hh.draw k) (fun w hh => hh.sel [1] [] 0 (by decide) (by decide) rfl rfl rfl) ?_
  refine p_free rfl rfl rfl rfl (fun w _ => v_fieldAddr 0 (Try.runUnderlying29 w) rfl (Try.sizeOf23 w) rfl) ?_
  refine p_hoist rfl rfl rfl rfl (fun w hh => v_load (Try.isAgg23 w) rfl (hh.cell 0 rfl rfl)) ?_
  refine p_free rfl rfl rfl rfl (fun w _ => v_fieldAddr 1 (Try.runUnderlying29 w) rfl (Try.sizeOf25 w) rfl) ?_
  refine p_hoist rfl rfl rfl rfl (fun w hh => v_loadAgg (vs := [_, _]) (Try.isAgg25 w) (Try.sizeOf25 w) rfl (hh.cells 0 rfl rfl)) ?_
  refine p_free rfl rfl rfl rfl (fun w _ => v_fieldAddr 3 (Try.runUnderlying29 w) rfl (Try.sizeOf26 w) rfl) ?_
  refine p_hoist rfl rfl rfl rfl (fun w hh => v_load (Try.isAgg26 w) rfl (hh.cell 0 rfl rfl)) ?_
  refine p_free rfl rfl rfl rfl (fun w _ => v_fieldAddr 4 (Try.runUnderlying29 w) rfl (Try.sizeOf27 w) rfl) ?_
  refine p_hoist rfl rfl rfl rfl (fun w hh => v_load (Try.isAgg27 w) rfl (hh.cell 0 rfl rfl)) ?_
  refine p_one rfl ?_
  obtain ⟨t5, h6, hm⟩ := bindO hm
  refine g_callH [] [] rfl rfl rfl rfl rfl rfl rfl (fun a w => Try.call100 a w) (fun w hh => c_laurelkit_Dup_tideWater s0.table qa0 na0 ca0 w (HV.callee (S0 := []) (vs0 := []) hh (roC (hh.rsep (S0 := []) (vs0 := []) 0 rfl) roN)) hna0 hqa0 hla0 h6) (fun l h7 => ?_)
  have h8 := h7
  refine g_sel (S' := [_, _]) (vs' := [_]) [0, 1] [0] 0 (by decide) (by decide) rfl rfl rfl ?_
  refine p_next (fun w hh => hh.sel [1] [] 0 (by decide) (by decide) rfl rfl rfl) ?_
  refine p_one rfl ?_
  obtain ⟨t10, h9, hm⟩ := bindO hm
  refine g_callH [] [] rfl rfl rfl rfl rfl rfl rfl (fun a w => Try.call65 a w) (fun w hh => c_laurelkit_Dup_int s0.floors qa1 na1 ca1 w (HV.callee (S0 := []) (vs0 := []) hh (roC (hh.rsep (S0 := []) (vs0 := []) 1 rfl) roN)) hna1 hqa1 hla1 h9) (fun l_1 h10 => ?_)
  have h11 := h10
  refine g_sel (S' := [_, _]) (vs' := [_, _]) [0, 1] [0, 1] 0 (by decide) (by decide) rfl rfl rfl ?_
  refine p_next (fun w hh => hh.sel [1] [] 0 (by decide) (by decide) rfl rfl rfl) ?_
  refine p_one rfl ?_
  obtain ⟨t13, h12, hm⟩ := bindO hm
  refine g_callH [] [] rfl rfl rfl rfl rfl rfl rfl (fun a w => Try.call101 a w) (fun w hh => c_laurelkit_Dup_tideSill s0.sills qa2 na2 ca2 w (HV.callee (S0 := []) (vs0 := []) hh (roC (hh.rsep (S0 := []) (vs0 := []) 2 rfl) roN)) hna2 hqa2 hla2 h12) (fun l_2 h13 => ?_)
  have h14 := h13
  refine g_sel (S' := [_, _]) (vs' := [_, _, _]) [0, 1] [0, 1, 2] 0 (by decide) (by decide) rfl rfl rfl ?_
  refine p_next (fun w hh => hh.sel [1] [] 0 (by decide) (by decide) rfl rfl rfl) ?_
  refine p_free rfl rfl rfl rfl (fun _ _ => v_build (vs := [(0, _), (1, _), (2, _), (3, _)]) (cells := [_, _, _, _, _]) rfl rfl) ?_
  refine p_one rfl ?_
  refine g_stSA (us := #[_, _, _, _, _]) (cs' := [_, _, _, _, _]) (S' := [_, _]) 0 (fun w => Try.sizeOf29 w) rfl rfl rfl rfl rfl rfl rfl ?_
  refine p_next (fun w hh => hh.sel [1] [] 0 (by decide) (by decide) rfl rfl rfl) ?_
  refine p_done ?_
  refine g_n_then ?_
  refine g_ret ?_
  obtain rfl := Option.some.inj hm
  refine g_done rfl (fun w hh => (.cell rfl (loadVar_agg (vs := [_, _, _, _, _]) (Try.isAgg29 _) (Try.sizeOf29 _) (hh.cells 0 rfl rfl)) .nil)) (fun w hh => ⟨(l, l_1, l_2), rfl, ⟨h8, h11, h14⟩, hh.sel [] [2, 1, 0] 3 (by decide) (by decide) rfl rfl rfl⟩)
structure m_laurellaw01_theirs_S0 where
  t17 : Int
  out3_table : (List Water)
def m_laurellaw01_theirs_L0 (s0 : Sands) (s : m_laurellaw01_theirs_S0) : Option (m_laurellaw01_theirs_S0 ⊕ (List Water)) :=
 if s.t17 < (s0.table.length : Int) then
 ((ix s0.table s.t17).bind fun t19 =>
 (appc 16 s.out3_table [t19]).bind fun t25 =>
 (addc s.t17 1).bind fun t27 =>
 some (.inl (⟨t27, t25⟩ : m_laurellaw01_theirs_S0))) else
 (some (.inr s.out3_table))
structure m_laurellaw01_theirs_S1 where
  t31 : Int
  out3_sills : (List Sill)
def m_laurellaw01_theirs_L1 (s0 : Sands) (s_1 : m_laurellaw01_theirs_S1) : Option (m_laurellaw01_theirs_S1 ⊕ (List Sill)) :=
 if s_1.t31 < (s0.sills.length : Int) then
 ((ix s0.sills s_1.t31).bind fun t33 =>
 (appc 24 s_1.out3_sills [(⟨t33.a, t33.b, t33.h⟩ : Sill)]).bind fun t39 =>
 (addc s_1.t31 1).bind fun t41 =>
 some (.inl (⟨t41, t39⟩ : m_laurellaw01_theirs_S1))) else
 (some (.inr s_1.out3_sills))
def m_laurellaw01_theirs (s0 : Sands) : Option Sands :=
 ((m_laurelkit_Dup_int s0.floors).bind fun t12 =>
 some (⟨[], s0.wind, t12, []⟩ : Sands)).bind fun o =>
 (iterM FU (m_laurellaw01_theirs_L0 s0) (⟨0, o.table⟩ : m_laurellaw01_theirs_S0)).bind fun o_1 =>
 (iterM FU (m_laurellaw01_theirs_L1 s0) (⟨0, o.sills⟩ : m_laurellaw01_theirs_S1)).bind fun o_2 =>
 some (⟨o_1, o.wind, o.floors, o_2⟩ : Sands)
set_option maxRecDepth 100000 in
set_option maxHeartbeats 4000000 in
theorem c_laurellaw01_theirs (s0 : Sands) (qa0 : Option Addr) (na0 ca0 : Nat) (qa1 : Option Addr) (na1 ca1 : Nat) (qa2 : Option Addr) (na2 ca2 : Nat) (w : World) (hw : HV w (keys [] []) [] [] [(aB qa0, aO qa0, RW.enc s0.table), (aB qa1, aO qa1, RI.enc s0.floors), (aB qa2, aO qa2, RS.enc s0.sills)] w) (hna0 : s0.table.length = na0) (hqa0 : AOK na0 qa0) (hla0 : na0 ≤ ca0) (hna1 : s0.floors.length = na1) (hqa1 : AOK na1 qa1) (hla1 : na1 ≤ ca1) (hna2 : s0.sills.length = na2) (hqa2 : AOK na2 qa2) (hla2 : na2 ≤ ca2) {res : Sands} (hm : m_laurellaw01_theirs s0 = some res) :
    Calls Try.prog 32 #[.agg #[.slice qa0 na0 ca0, .int .i64 s0.wind.lo, .int .i64 s0.wind.hi, .slice qa1 na1 ca1, .slice qa2 na2 ca2]] w (fun en w' => ∃ l : VL × VL × VL, en = .returned (.agg #[slv l.1.q l.1.n l.1.cap, .int .i64 res.wind.lo, .int .i64 res.wind.hi, slv l.2.1.q l.2.1.n l.2.1.cap, slv l.2.2.q l.2.2.n l.2.2.cap]) ∧ (VOK 2 l.1.n l.1.cap (RW.enc res.table) l.1.sp l.1.q ∧ VOK 1 l.2.1.n l.2.1.cap (RI.enc res.floors) l.2.1.sp l.2.1.q ∧ VOK 3 l.2.2.n l.2.2.cap (RS.enc res.sills) l.2.2.sp l.2.2.q) ∧ HV w (keys [] []) [] [⟨158, RW.enc res.table, l.1.sp, l.1.q⟩, ⟨3, RI.enc res.floors, l.2.1.sp, l.2.1.q⟩, ⟨159, RS.enc res.sills, l.2.2.sp, l.2.2.q⟩] [] w') := by
  unfold m_laurellaw01_theirs at hm
  refine g_enter (args := [.agg #[.slice qa0 na0 ca0, .int .i64 s0.wind.lo, .int .i64 s0.wind.hi, .slice qa1 na1 ca1, .slice qa2 na2 ca2]]) Try.func32 rfl Try.ntmps32 rfl (e := [(0, _)]) rfl (H := HV w (keys [] []) [] [] [(aB qa0, aO qa0, RW.enc s0.table), (aB qa1, aO qa1, RI.enc s0.floors), (aB qa2, aO qa2, RS.enc s0.sills)]) hw ?_
  refine g_seq ?_
  refine g_region ?_
  refine g_boxV rfl rfl (fun b h4 => ?_)
  refine g_allocV (fun w => Try.zeroValue59 w) rfl (fun b_1 h5 => ?_)
  refine g_nil ?_
  refine g_n_then ?_
  refine g_seq ?_
  obtain ⟨o, h6, h7⟩ := bindO hm
  refine g_cut (ι := Nat × VL × VL × VL) (fun l => VOK 2 l.2.1.n l.2.1.cap (RW.enc o.table) l.2.1.sp l.2.1.q ∧ VOK 1 l.2.2.1.n l.2.2.1.cap (RI.enc o.floors) l.2.2.1.sp l.2.2.1.q ∧ VOK 3 l.2.2.2.n l.2.2.2.cap (RS.enc o.sills) l.2.2.2.sp l.2.2.2.q) (fun l => [(1, ptr b 0), (2, ptr b_1 0), (3, ptr l.1 0)]) (fun l => [(b_1, .cells #[slv none 0 0, .int .i64 0, .int .i64 0, slv none 0 0, slv none 0 0] 59 (0, 0)), (b, .cells #[.slice qa0 na0 ca0, .int .i64 s0.wind.lo, .int .i64 s0.wind.hi, .slice qa1 na1 ca1, .slice qa2 na2 ca2] 29 (0, 0)), (l.1, .cells #[slv l.2.1.q l.2.1.n l.2.1.cap, .int .i64 o.wind.lo, .int .i64 o.wind.hi, slv l.2.2.1.q l.2.2.1.n l.2.2.1.cap, slv l.2.2.2.q l.2.2.2.n l.2.2.2.cap] 59 (0, 0))]) (fun l => [⟨158, RW.enc o.table, l.2.1.sp, l.2.1.q⟩, ⟨3, RI.enc o.floors, l.2.2.1.sp, l.2.2.1.q⟩, ⟨159, RS.enc o.sills, l.2.2.2.sp, l.2.2.2.q⟩]) ?_ ?_
  ·replace hm := h6
   obtain ⟨t12, h11, hm⟩ := bindO hm
   refine g_draw none (.free 0 (.hoist 1 (.free 2 (.hoist 3 (.br (.alt 4 (.free 5 (.one 6 (.one 7 .done))) (.alt 6 (.one 4 (.free 5 (.one 7 .done))) .nil))))))) _ rfl (by decide +kernel) (fun w k hh => hh.draw k) (fun w hh => hh) ?_
   refine p_free rfl rfl rfl rfl (fun w _ => v_fieldAddr 1 (Try.runUnderlying29 w) rfl (Try.sizeOf25 w) rfl) ?_
   refine p_hoist rfl rfl rfl rfl (fun w hh => v_loadAgg (vs := [_, _]) (Try.isAgg25 w) (Try.sizeOf25 w) rfl (hh.cells 1 rfl rfl)) ?_
   refine p_free rfl rfl rfl rfl (fun w _ => v_fieldAddr 3 (Try.runUnderlying29 w) rfl (Try.sizeOf26 w) rfl) ?_
   refine p_hoist rfl rfl rfl rfl (fun w hh => v_load (Try.isAgg26 w) rfl (hh.cell 1 rfl rfl)) ?_
   refine p_br ?_
   refine p_alt rfl ?_ ?_
   ·refine g_callH [] [] rfl rfl rfl rfl rfl rfl rfl (fun a w => Try.call65 a w) (fun w hh => c_laurelkit_Dup_int s0.floors qa1 na1 ca1 w (HV.callee (S0 := []) (vs0 := []) hh (roC (hh.rsep (S0 := []) (vs0 := []) 1 rfl) roN)) hna1 hqa1 hla1 h11) (fun l_1 h12 => ?_)
    have h13 := h12
    refine g_sel (S' := [_, _]) (vs' := [_]) [0, 1] [0] 0 (by decide) (by decide) rfl rfl rfl ?_
    refine p_next (fun w hh => hh.sel [0, 1] [] 0 (by decide) (by decide) rfl rfl rfl) ?_
    refine p_free rfl rfl rfl rfl (fun _ _ => v_build (vs := [(1, _), (2, _)]) (cells := [_, _, _, _, _]) rfl rfl) ?_
    refine p_one rfl ?_
    refine g_allocV (fun w => Try.zeroValue59 w) rfl (fun b_2 h14 => ?_)
    refine p_next (fun w hh => hh.sel [1, 2] [] 0 (by decide) (by decide) rfl rfl rfl) ?_
    refine p_one rfl ?_
    refine g_stSA (us := #[_, _, _, _, _]) (cs' := [_, _, _, _, _]) (S' := [_, _, _]) 0 (fun w => Try.sizeOf59 w) rfl rfl rfl rfl rfl rfl rfl ?_
    refine p_next (fun w hh => hh.sel [1, 2] [] 0 (by decide) (by decide) rfl rfl rfl) ?_
    refine p_done ?_
    refine g_vnil 158 ?_
    refine g_vnil 159 ?_
    obtain rfl := Option.some.inj hm
    exact g_leaf (b_2, ⟨none, 0, 0, []⟩, l_1, ⟨none, 0, 0, []⟩) (⟨VOK.nil, h13, VOK.nil⟩) ((.cons rfl (.cons rfl (.cons rfl .nil)))) (fun w hh => hh.sel [1, 2, 0] [1, 2, 0] 0 (by decide) (by decide) rfl rfl rfl)
   refine p_alt rfl ?_ ?_
   ·refine g_allocV (fun w => Try.zeroValue59 w) rfl (fun b_3 h15 => ?_)
    refine p_next (fun w hh => hh.sel [1, 2] [] 0 (by decide) (by decide) rfl rfl rfl) ?_
    refine p_one rfl ?_
    refine g_callH [] [] rfl rfl rfl rfl rfl rfl rfl (fun a w => Try.call65 a w) (fun w hh => c_laurelkit_Dup_int s0.floors qa1 na1 ca1 w (HV.callee (S0 := []) (vs0 := []) hh (roC (hh.rsep (S0 := []) (vs0 := []) 1 rfl) roN)) hna1 hqa1 hla1 h11) (fun l_2 h16 => ?_)
    have h17 := h16
    refine g_sel (S' := [_, _, _]) (vs' := [_]) [0, 1, 2] [0] 0 (by decide) (by decide) rfl rfl rfl ?_
    refine p_next (fun w hh => hh.sel [1, 2] [] 0 (by decide) (by decide) rfl rfl rfl) ?_
    refine p_free rfl rfl rfl rfl (fun _ _ => v_build (vs := [(1, _), (2, _)]) (cells := [_, _, _, _, _]) rfl rfl) ?_
    refine p_one rfl ?_
    refine g_stSA (us := #[_, _, _, _, _]) (cs' := [_, _, _, _, _]) (S' := [_, _, _]) 0 (fun w => Try.sizeOf59 w) rfl rfl rfl rfl rfl rfl rfl ?_
    refine p_next (fun w hh => hh.sel [1, 2] [] 0 (by decide) (by decide) rfl rfl rfl) ?_
    refine p_done ?_
    refine g_vnil 158 ?_
    refine g_vnil 159 ?_
    obtain rfl := Option.some.inj hm
    exact g_leaf (b_3, ⟨none, 0, 0, []⟩, l_2, ⟨none, 0, 0, []⟩) (⟨VOK.nil, h17, VOK.nil⟩) ((.cons rfl (.cons rfl (.cons rfl .nil)))) (fun w hh => hh.sel [1, 2, 0] [1, 2, 0] 0 (by decide) (by decide) rfl rfl rfl)
   exact p_nil
  ·intro l hj
   obtain ⟨h8, h9, h10⟩ := hj
   replace hm := h7
   refine g_n_then ?_
   refine g_seq ?_
   refine g_seq ?_
   refine g_region ?_
   refine g_val rfl rfl rfl (fun w _ => v_fieldAddr 0 (Try.runUnderlying29 w) rfl (Try.sizeOf23 w) rfl) ?_
   refine g_val rfl rfl rfl (fun w hh => v_load (Try.isAgg23 w) rfl (hh.cell 1 rfl rfl)) ?_
   refine g_val rfl rfl rfl (fun w _ => v_lenR hna0 (Try.runUnderlying23 w) rfl) ?_
   refine g_val rfl rfl rfl (fun _ _ => v_move rfl) ?_
   refine g_nil ?_
   refine g_n_then ?_
   obtain ⟨o_1, h18, h19⟩ := bindO hm
   refine g_cut (ι := VL) (fun l_3 => VOK 2 l_3.n l_3.cap (RW.enc o_1) l_3.sp l_3.q) (fun l_3 => [(1, ptr b 0), (2, ptr b_1 0), (3, ptr l.1 0)]) (fun l_3 => [(b_1, .cells #[slv none 0 0, .int .i64 0, .int .i64 0, slv none 0 0, slv none 0 0] 59 (0, 0)), (b, .cells #[.slice qa0 na0 ca0, .int .i64 s0.wind.lo, .int .i64 s0.wind.hi, .slice qa1 na1 ca1, .slice qa2 na2 ca2] 29 (0, 0)), (l.1, .cells #[slv l_3.q l_3.n l_3.cap, .int .i64 o.wind.lo, .int .i64 o.wind.hi, slv l.2.2.1.q l.2.2.1.n l.2.2.1.cap, slv l.2.2.2.q l.2.2.2.n l.2.2.2.cap] 59 (0, 0))]) (fun l_3 => [⟨158, RW.enc o_1, l_3.sp, l_3.q⟩, ⟨3, RI.enc o.floors, l.2.2.1.sp, l.2.2.1.q⟩, ⟨159, RS.enc o.sills, l.2.2.2.sp, l.2.2.2.q⟩]) ?_ ?_
   ·replace hm := h18
    refine g_block ?_
    refine g_loopF (ι := VL) hm (fun s l_4 => VOK 2 l_4.n l_4.cap (RW.enc s.out3_table) l_4.sp l_4.q) (fun s l_4 => [(1, ptr b 0), (2, ptr b_1 0), (3, ptr l.1 0), (15, .slice qa0 na0 ca0), (16, .int .i64 (s0.table.length : Int)), (17, .int .i64 s.t17)]) (fun s l_4 => [(b_1, .cells #[slv none 0 0, .int .i64 0, .int .i64 0, slv none 0 0, slv none 0 0] 59 (0, 0)), (b, .cells #[.slice qa0 na0 ca0, .int .i64 s0.wind.lo, .int .i64 s0.wind.hi, .slice qa1 na1 ca1, .slice qa2 na2 ca2] 29 (0, 0)), (l.1, .cells #[slv l_4.q l_4.n l_4.cap, .int .i64 o.wind.lo, .int .i64 o.wind.hi, slv l.2.2.1.q l.2.2.1.n l.2.2.1.cap, slv l.2.2.2.q l.2.2.2.n l.2.2.2.cap] 59 (0, 0))]) (fun s l_4 => [⟨158, RW.enc s.out3_table, l_4.sp, l_4.q⟩, ⟨3, RI.enc o.floors, l.2.2.1.sp, l.2.2.1.q⟩, ⟨159, RS.enc o.sills, l.2.2.2.sp, l.2.2.2.q⟩]) l.2.1 (h8) ((.cons rfl (.cons rfl (.cons rfl (.cons rfl (.cons rfl (.cons rfl .nil))))))) (fun w hh => hh) (fun s l_4 r hpl hm h22 => ?_)
    have h21 := hpl
    unfold m_laurellaw01_theirs_L0 at hm
    refine g_seq ?_
    refine g_region ?_
    refine g_val rfl rfl rfl (fun _ _ => v_lss rfl rfl) ?_
    refine g_nil ?_
    refine g_n_then ?_
    refine g_seq ?_
    refine g_cond rfl (fun h23 => ?_) (fun h23 => ?_)
    ·replace hm := ifT (of_decide_eq_true h23) hm
     refine g_skip ?_
     refine g_n_then ?_
     refine g_seq ?_
     refine g_block ?_
     refine g_seq ?_
     refine g_region ?_
     obtain ⟨t19, h24, hm⟩ := bindO hm
     refine g_val rfl rfl rfl (fun w _ => v_ixR h24 (Try.runUnderlying23 w) (Try.sizeOf68 w) rfl rfl hna0 hqa0) ?_
     refine g_val rfl rfl rfl (fun w hh => v_ldEA RW 0 [.int .i64 t19.min, .int .i64 t19.h] h24 (Try.isAgg68 w) (Try.sizeOf68 w) rfl (hh.seg 0 rfl) rfl (Nat.add_zero _).symm) ?_
     refine g_allocV (fun w => Try.zeroValue68 w) rfl (fun b_4 h25 => ?_)
     refine g_stSA (us := #[_, _]) (cs' := [_, _]) (S' := [_, _, _, _]) 0 (fun w => Try.sizeOf68 w) rfl rfl rfl rfl rfl rfl rfl ?_
     refine g_nil ?_
     refine g_n_then ?_
     refine g_region ?_
     refine g_val rfl rfl rfl (fun w _ => v_fieldAddr 0 (Try.runUnderlying59 w) rfl (Try.sizeOf56 w) rfl) ?_
     refine g_val rfl rfl rfl (fun w hh => v_load (Try.isAgg56 w) rfl (hh.cell 3 rfl rfl)) ?_
     refine g_val rfl rfl rfl (fun w hh => v_loadAgg (vs := [_, _]) (Try.isAgg68 w) (Try.sizeOf68 w) rfl (hh.cells 0 rfl rfl)) ?_
     refine g_vlit RW [t19] (ps := [(0, _)]) (cells := [_, _]) (fun w => Try.runUnderlying56 w) (fun w => Try.sizeOf158 w) (fun w => Try.zeroValue158 w) rfl rfl rfl rfl rfl rfl rfl rfl (fun L h26 => ?_)
     obtain ⟨t25, h27, hm⟩ := bindO hm
     refine g_vapp RW 1 h27 Try.underlying56 gxinf158 rfl rfl rfl rfl rfl h21 rfl rfl (vlen RW h26 rfl) (AOK.q (vne h26)) (fun w hh => (hh.vsegA 0 rfl h26)) rfl (fun L_1 h28 h28n => ?_)
     refine g_sel (S' := [_, _, _, _]) (vs' := [_, _, _, _]) [0, 1, 2, 3] [0, 1, 2, 3] 0 (by decide) (by decide) rfl rfl rfl ?_
     refine g_val rfl rfl rfl (fun w _ => v_fieldAddr 0 (Try.runUnderlying59 w) rfl (Try.sizeOf56 w) rfl) ?_
     refine g_stS (cs' := #[_, _, _, _, _]) (S' := [_, _, _, _]) 3 (fun w => Try.sizeOf56 w) rfl rfl rfl rfl rfl rfl rfl ?_
     refine g_nil ?_
     refine g_n_blk ?_
     refine g_n_then ?_
     refine g_region ?_
     obtain ⟨t27, h29, hm⟩ := bindO hm
     refine g_val rfl rfl rfl (fun _ _ => v_addc h29 rfl rfl) ?_
     refine g_val rfl rfl rfl (fun _ _ => v_move rfl) ?_
     refine g_nil ?_
     obtain rfl := Option.some.inj hm
     refine g_n_then ?_
     exact g_again' _ L_1 rfl (h28) ((.cons rfl (.cons rfl (.cons rfl (.cons rfl (.cons rfl (.cons rfl .nil))))))) (fun w hh => hh.sel [1, 2, 3] [1, 2, 3] 0 (by decide) (by decide) rfl rfl rfl)
    ·replace hm := ifF (of_decide_eq_false h23) hm
     refine g_exit ?_
     refine g_x_then ?_
     refine g_x_then ?_
     refine g_x_blk ?_
     obtain rfl := Option.some.inj hm
     have hbo := h22 _ rfl
     subst hbo
     exact g_leaf l_4 (h21) ((.cons rfl (.cons rfl (.cons rfl .nil)))) (fun w hh => hh)
   ·intro l_3 hj
    have h20 := hj
    replace hm := h19
    refine g_n_then ?_
    refine g_seq ?_
    refine g_seq ?_
    refine g_region ?_
    refine g_val rfl rfl rfl (fun w _ => v_fieldAddr 4 (Try.runUnderlying29 w) rfl (Try.sizeOf27 w) rfl) ?_
    refine g_val rfl rfl rfl (fun w hh => v_load (Try.isAgg27 w) rfl (hh.cell 1 rfl rfl)) ?_
    refine g_val rfl rfl rfl (fun w _ => v_lenR hna2 (Try.runUnderlying27 w) rfl) ?_
    refine g_val rfl rfl rfl (fun _ _ => v_move rfl) ?_
    refine g_nil ?_
    refine g_n_then ?_
    obtain ⟨o_2, h30, h31⟩ := bindO hm
    refine g_cut (ι := VL) (fun l_5 => VOK 3 l_5.n l_5.cap (RS.enc o_2) l_5.sp l_5.q) (fun l_5 => [(2, ptr b_1 0), (3, ptr l.1 0)]) (fun l_5 => [(b_1, .cells #[slv none 0 0, .int .i64 0, .int .i64 0, slv none 0 0, slv none 0 0] 59 (0, 0)), (b, .cells #[.slice qa0 na0 ca0, .int .i64 s0.wind.lo, .int .i64 s0.wind.hi, .slice qa1 na1 ca1, .slice qa2 na2 ca2] 29 (0, 0)), (l.1, .cells #[slv l_3.q l_3.n l_3.cap, .int .i64 o.wind.lo, .int .i64 o.wind.hi, slv l.2.2.1.q l.2.2.1.n l.2.2.1.cap, slv l_5.q l_5.n l_5.cap] 59 (0, 0))]) (fun l_5 => [⟨158, RW.enc o_1, l_3.sp, l_3.q⟩, ⟨3, RI.enc o.floors, l.2.2.1.sp, l.2.2.1.q⟩, ⟨159, RS.enc o_2, l_5.sp, l_5.q⟩]) ?_ ?_
    ·replace hm := h30
     refine g_block ?_
     refine g_loopF (ι := VL) hm (fun s_1 l_6 => VOK 3 l_6.n l_6.cap (RS.enc s_1.out3_sills) l_6.sp l_6.q) (fun s_1 l_6 => [(2, ptr b_1 0), (3, ptr l.1 0), (29, .slice qa2 na2 ca2), (30, .int .i64 (s0.sills.length : Int)), (31, .int .i64 s_1.t31)]) (fun s_1 l_6 => [(b_1, .cells #[slv none 0 0, .int .i64 0, .int .i64 0, slv none 0 0, slv none 0 0] 59 (0, 0)), (b, .cells #[.slice qa0 na0 ca0, .int .i64 s0.wind.lo, .int .i64 s0.wind.hi, .slice qa1 na1 ca1, .slice qa2 na2 ca2] 29 (0, 0)), (l.1, .cells #[slv l_3.q l_3.n l_3.cap, .int .i64 o.wind.lo, .int .i64 o.wind.hi, slv l.2.2.1.q l.2.2.1.n l.2.2.1.cap, slv l_6.q l_6.n l_6.cap] 59 (0, 0))]) (fun s_1 l_6 => [⟨158, RW.enc o_1, l_3.sp, l_3.q⟩, ⟨3, RI.enc o.floors, l.2.2.1.sp, l.2.2.1.q⟩, ⟨159, RS.enc s_1.out3_sills, l_6.sp, l_6.q⟩]) l.2.2.2 (h10) ((.cons rfl (.cons rfl (.cons rfl (.cons rfl (.cons rfl .nil)))))) (fun w hh => hh) (fun s_1 l_6 r_1 hpl hm h34 => ?_)
     have h33 := hpl
     unfold m_laurellaw01_theirs_L1 at hm
     refine g_seq ?_
     refine g_region ?_
     refine g_val rfl rfl rfl (fun _ _ => v_lss rfl rfl) ?_
     refine g_nil ?_
     refine g_n_then ?_
     refine g_seq ?_
     refine g_cond rfl (fun h35 => ?_) (fun h35 => ?_)
     ·replace hm := ifT (of_decide_eq_true h35) hm
      refine g_skip ?_
      refine g_n_then ?_
      refine g_seq ?_
      refine g_block ?_
      refine g_seq ?_
      refine g_region ?_
      obtain ⟨t33, h36, hm⟩ := bindO hm
      refine g_val rfl rfl rfl (fun w _ => v_ixR h36 (Try.runUnderlying27 w) (Try.sizeOf51 w) rfl rfl hna2 hqa2) ?_
      refine g_val rfl rfl rfl (fun w hh => v_ldEA RS 0 [.int .i64 t33.a, .int .i64 t33.b, .int .i64 t33.h] h36 (Try.isAgg51 w) (Try.sizeOf51 w) rfl (hh.seg 2 rfl) rfl (Nat.add_zero _).symm) ?_
      refine g_allocV (fun w => Try.zeroValue51 w) rfl (fun b_5 h37 => ?_)
      refine g_stSA (us := #[_, _, _]) (cs' := [_, _, _]) (S' := [_, _, _, _]) 0 (fun w => Try.sizeOf51 w) rfl rfl rfl rfl rfl rfl rfl ?_
      refine g_nil ?_
      refine g_n_then ?_
      refine g_region ?_
      refine g_val rfl rfl rfl (fun w _ => v_fieldAddr 4 (Try.runUnderlying59 w) rfl (Try.sizeOf57 w) rfl) ?_
      refine g_val rfl rfl rfl (fun w hh => v_load (Try.isAgg57 w) rfl (hh.cell 3 rfl rfl)) ?_
      refine g_val rfl rfl rfl (fun w hh => v_loadAgg (vs := [_, _, _]) (Try.isAgg51 w) (Try.sizeOf51 w) rfl (hh.cells 0 rfl rfl)) ?_
      refine g_vlit RS [(⟨t33.a, t33.b, t33.h⟩ : Sill)] (ps := [(0, _)]) (cells := [_, _, _]) (fun w => Try.runUnderlying57 w) (fun w => Try.sizeOf159 w) (fun w => Try.zeroValue159 w) rfl rfl rfl rfl rfl rfl rfl rfl (fun L_2 h38 => ?_)
      obtain ⟨t39, h39, hm⟩ := bindO hm
      refine g_vapp RS 3 h39 Try.underlying57 gxinf159 rfl rfl rfl rfl rfl h33 rfl rfl (vlen RS h38 rfl) (AOK.q (vne h38)) (fun w hh => (hh.vsegA 0 rfl h38)) rfl (fun L_3 h40 h40n => ?_)
      refine g_sel (S' := [_, _, _, _]) (vs' := [_, _, _, _]) [0, 1, 2, 3] [0, 1, 2, 3] 0 (by decide) (by decide) rfl rfl rfl ?_
      refine g_val rfl rfl rfl (fun w _ => v_fieldAddr 4 (Try.runUnderlying59 w) rfl (Try.sizeOf57 w) rfl) ?_
      refine g_stS (cs' := #[_, _, _, _, _]) (S' := [_, _, _, _]) 3 (fun w => Try.sizeOf57 w) rfl rfl rfl rfl rfl rfl rfl ?_
      refine g_nil ?_
      refine g_n_blk ?_
      refine g_n_then ?_
      refine g_region ?_
      obtain ⟨t41, h41, hm⟩ := bindO hm
      refine g_val rfl rfl rfl (fun _ _ => v_addc h41 rfl rfl) ?_
      refine g_val rfl rfl rfl (fun _ _ => v_move rfl) ?_
      refine g_nil ?_
      obtain rfl := Option.some.inj hm
      refine g_n_then ?_
      exact g_again' _ L_3 rfl (h40) ((.cons rfl (.cons rfl (.cons rfl (.cons rfl (.cons rfl .nil)))))) (fun w hh => hh.sel [1, 2, 3] [1, 2, 3] 0 (by decide) (by decide) rfl rfl rfl)
     ·replace hm := ifF (of_decide_eq_false h35) hm
      refine g_exit ?_
      refine g_x_then ?_
      refine g_x_then ?_
      refine g_x_blk ?_
      obtain rfl := Option.some.inj hm
      have hbo := h34 _ rfl
      subst hbo
      exact g_leaf l_6 (h33) ((.cons rfl (.cons rfl .nil))) (fun w hh => hh)
    ·intro l_5 hj
     have h32 := hj
     replace hm := h31
     refine g_n_then ?_
     refine g_seq ?_
     refine g_region ?_
     refine g_val rfl rfl rfl (fun w hh => v_loadAgg (vs := [_, _, _, _, _]) (Try.isAgg59 w) (Try.sizeOf59 w) rfl (hh.cells 2 rfl rfl)) ?_
     refine g_stSA (us := #[_, _, _, _, _]) (cs' := [_, _, _, _, _]) (S' := [_, _, _]) 0 (fun w => Try.sizeOf59 w) rfl rfl rfl rfl rfl rfl rfl ?_
     refine g_nil ?_
     refine g_n_then ?_
     refine g_ret ?_
     obtain rfl := Option.some.inj hm
     refine g_done rfl (fun w hh => (.cell rfl (loadVar_agg (vs := [_, _, _, _, _]) (Try.isAgg59 _) (Try.sizeOf59 _) (hh.cells 0 rfl rfl)) .nil)) (fun w hh => ⟨(l_3, l.2.2.1, l_5), rfl, ⟨h20, h9, h32⟩, hh.sel [] [0, 1, 2] 3 (by decide) (by decide) rfl rfl rfl⟩)
def m_laurelref01_off (n0 : Int) (lo1 : Int) (hi2 : Int) : Option Bool :=
 (if n0 < lo1 then
 (some true) else
 (some (decide (hi2 < n0)))).bind fun o =>
 some o
set_option maxRecDepth 100000 in
set_option maxHeartbeats 4000000 in
theorem c_laurelref01_off (n0 : Int) (lo1 : Int) (hi2 : Int)  (w : World) (hw : HV w (keys [] []) [] [] [] w)  {res : Bool} (hm : m_laurelref01_off n0 lo1 hi2 = some res) :
    Calls Try.prog 107 #[.int .i64 n0, .int .i64 lo1, .int .i64 hi2] w (fun en w' => ∃ l : Unit, en = .returned (.bool res) ∧ (True) ∧ HV w (keys [] []) [] [] [] w') := by
  unfold m_laurelref01_off at hm
  refine g_enter (args := [.int .i64 n0, .int .i64 lo1, .int .i64 hi2]) Try.func107 rfl Try.ntmps107 rfl (e := [(0, _), (1, _), (2, _)]) rfl (H := HV w (keys [] []) [] [] []) hw ?_
  refine g_seq ?_
  refine g_region ?_
  refine g_val rfl rfl rfl (fun _ _ => v_assign rfl) ?_
  refine g_nil ?_
  refine g_n_then ?_
  refine g_seq ?_
  obtain ⟨o, h1, h2⟩ := bindO hm
  refine g_cut (ι := Unit) (fun l => True) (fun l => [(6, .bool o)]) (fun l => []) (fun l => []) ?_ ?_
  ·replace hm := h1
   refine g_region ?_
   refine g_val rfl rfl rfl (fun _ _ => v_move rfl) ?_
   refine g_val rfl rfl rfl (fun _ _ => v_move rfl) ?_
   refine g_val rfl rfl rfl (fun _ _ => v_lss rfl rfl) ?_
   refine g_val rfl rfl rfl (fun _ _ => v_move rfl) ?_
   refine g_case 10 rfl (fun h3 => ?_) (fun h3 => ?_)
   ·replace hm := ifT (of_decide_eq_true h3) hm
    refine g_skipG rfl rfl rfl rfl rfl rfl ?_
    refine g_skipG rfl rfl rfl rfl rfl rfl ?_
    refine g_skipG rfl rfl rfl rfl rfl rfl ?_
    refine g_val rfl rfl rfl (fun _ _ => v_pickT rfl rfl) ?_
    refine g_val rfl rfl rfl (fun _ _ => v_assign rfl) ?_
    refine g_nil ?_
    obtain rfl := Option.some.inj hm
    exact g_leaf () (trivial) ((.cons rfl .nil)) (fun w hh => hh)
   ·replace hm := ifF (of_decide_eq_false h3) hm
    refine v_unguard rfl rfl ?_
    refine g_val rfl rfl rfl (fun _ _ => v_move rfl) ?_
    refine v_unguard rfl rfl ?_
    refine g_val rfl rfl rfl (fun _ _ => v_move rfl) ?_
    refine v_unguard rfl rfl ?_
    refine g_val rfl rfl rfl (fun _ _ => v_gtr rfl rfl) ?_
    refine g_val rfl rfl rfl (fun _ _ => v_pickF rfl rfl) ?_
    refine g_val rfl rfl rfl (fun _ _ => v_assign rfl) ?_
    refine g_nil ?_
    obtain rfl := Option.some.inj hm
    exact g_leaf () (trivial) ((.cons rfl .nil)) (fun w hh => hh)
  ·intro l hj
   replace hm := h2
   refine g_n_then ?_
   refine g_ret ?_
   obtain rfl := Option.some.inj hm
   refine g_done rfl (fun w hh => (.tmp rfl .nil)) (fun w hh => ⟨(), rfl, trivial, hh⟩)
def m_laurelref01_Check_L0 (s0 : Sands) (s : Int) : Option (Int ⊕ (Unit ⊕ Int)) :=
 if s < (s0.table.length : Int) then
 (((ix s0.table s).bind fun t37 =>
 (m_laurelref01_off t37.min 0 1440).bind fun t40 =>
 if t40 = true then
 (some true) else
 ((ix s0.table s).bind fun t45 =>
 (m_laurelref01_off t45.h 0 999).bind fun t48 =>
 some t48)).bind fun o_2 =>
 if o_2 = true then
 (some (.inr (.inr 3))) else
 ((addc s 1).bind fun t33 =>
 some (.inl t33))) else
 (some (.inr (.inl ())))
def m_laurelref01_Check_L1 (s0 : Sands) (s_1 : Int) : Option (Int ⊕ (Unit ⊕ Int)) :=
 if s_1 < (s0.floors.length : Int) then
 ((ix s0.floors s_1).bind fun t68 =>
 (m_laurelref01_off t68 0 999).bind fun t70 =>
 if t70 = true then
 (some (.inr (.inr 3))) else
 ((addc s_1 1).bind fun t64 =>
 some (.inl t64))) else
 (some (.inr (.inl ())))
def m_laurelref01_Check_L2 (s0 : Sands) (s_2 : Int) : Option (Int ⊕ (Unit ⊕ Int)) :=
 if s_2 < (s0.sills.length : Int) then
 ((ix s0.sills s_2).bind fun t81 =>
 (m_laurelref01_off t81.h 0 999).bind fun t84 =>
 if t84 = true then
 (some (.inr (.inr 3))) else
 ((addc s_2 1).bind fun t77 =>
 some (.inl t77))) else
 (some (.inr (.inl ())))
def m_laurelref01_Check_L3 (s0 : Sands) (s_3 : Int) : Option (Int ⊕ (Unit ⊕ Int)) :=
 if s_3 < (s0.table.length : Int) then
 ((ix s0.table s_3).bind fun t95 =>
 (subc s_3 1).bind fun t101 =>
 (ix s0.table t101).bind fun t102 =>
 if t95.min ≤ t102.min then
 (some (.inr (.inr 4))) else
 ((addc s_3 1).bind fun t91 =>
 some (.inl t91))) else
 (some (.inr (.inl ())))
def m_laurelref01_Check_L4 (s0 : Sands) (s_4 : Int) : Option (Int ⊕ (Unit ⊕ Int)) :=
 if s_4 < (s0.sills.length : Int) then
 (((ix s0.sills s_4).bind fun t123 =>
 (subc (s0.floors.length : Int) 1).bind fun t127 =>
 (m_laurelref01_off t123.a (-1) t127).bind fun t128 =>
 if t128 = true then
 (some true) else
 ((ix s0.sills s_4).bind fun t133 =>
 (subc (s0.floors.length : Int) 1).bind fun t137 =>
 (m_laurelref01_off t133.b (-1) t137).bind fun t138 =>
 some t138)).bind fun o_8 =>
 if o_8 = true then
 (some (.inr (.inr 1))) else
 ((addc s_4 1).bind fun t119 =>
 some (.inl t119))) else
 (some (.inr (.inl ())))
def m_laurelref01_Check_L5 (s0 : Sands) (s_5 : Int) : Option (Int ⊕ (Unit ⊕ Int)) :=
 if s_5 < (s0.sills.length : Int) then
 ((ix s0.sills s_5).bind fun t150 =>
 (ix s0.sills s_5).bind fun t156 =>
 if t150.a = t156.b then
 (some (.inr (.inr 8))) else
 ((addc s_5 1).bind fun t146 =>
 some (.inl t146))) else
 (some (.inr (.inl ())))
def m_laurelref01_Check (s0 : Sands) : Option Int :=
 ((m_laurelref01_off (s0.table.length : Int) 2 12).bind fun t16 =>
 if t16 = true then
 (some true) else
 ((m_laurelref01_off (s0.floors.length : Int) 1 8).bind fun t19 =>
 if t19 = true then
 (some true) else
 (some (decide (16 < (s0.sills.length : Int)))))).bind fun o =>
 if o = true then
 (some 2) else
 ((iterM FU (m_laurelref01_Check_L0 s0) 0).bind fun o_1 =>
 oc o_1 (fun j => ((m_laurelref01_off s0.wind.lo (-50) 50).bind fun t53 =>
 if t53 = true then
 (some true) else
 ((m_laurelref01_off s0.wind.hi (-50) 50).bind fun t58 =>
 some t58)).bind fun o_3 =>
 if o_3 = true then
 (some 3) else
 ((iterM FU (m_laurelref01_Check_L1 s0) 0).bind fun o_4 =>
 oc o_4 (fun j_1 => (iterM FU (m_laurelref01_Check_L2 s0) 0).bind fun o_5 =>
 oc o_5 (fun j_2 => (iterM FU (m_laurelref01_Check_L3 s0) 1).bind fun o_6 =>
 oc o_6 (fun j_3 => if s0.wind.hi < s0.wind.lo then
 (some 4) else
 ((iterM FU (m_laurelref01_Check_L4 s0) 0).bind fun o_7 =>
 oc o_7 (fun j_4 => (iterM FU (m_laurelref01_Check_L5 s0) 0).bind fun o_9 =>
 oc o_9 (fun j_5 => some 0) (fun r_6 => some r_6)) (fun r_7 => some r_7))) (fun r_8 => some r_8)) (fun r_9 => some r_9)) (fun r_10 => some r_10))) (fun r_11 => some r_11))
set_option maxRecDepth 100000 in
set_option maxHeartbeats 4000000 in
theorem c_laurelref01_Check (s0 : Sands) (qa0 : Option Addr) (na0 ca0 : Nat) (qa1 : Option Addr) (na1 ca1 : Nat) (qa2 : Option Addr) (na2 ca2 : Nat) (w : World) (hw : HV w (keys [] []) [] [] [(aB qa0, aO qa0, RW.enc s0.table), (aB qa1, aO qa1, RI.enc s0.floors), (aB qa2, aO qa2, RS.enc s0.sills)] w) (hna0 : s0.table.length = na0) (hqa0 : AOK na0 qa0) (hla0 : na0 ≤ ca0) (hna1 : s0.floors.length = na1) (hqa1 : AOK na1 qa1) (hla1 : na1 ≤ ca1) (hna2 : s0.sills.length = na2) (hqa2 : AOK na2 qa2) (hla2 : na2 ≤ ca2) {res : Int} (hm : m_laurelref01_Check s0 = some res) :
    Calls Try.prog 33 #[.agg #[.slice qa0 na0 ca0, .int .i64 s0.wind.lo, .int .i64 s0.wind.hi, .slice qa1 na1 ca1, .slice qa2 na2 ca2]] w (fun en w' => ∃ l : Unit, en = .returned (.int .i64 res) ∧ (True) ∧ HV w (keys [] []) [] [] [] w') := by
  unfold m_laurelref01_Check at hm
  refine g_enter (args := [.agg #[.slice qa0 na0 ca0, .int .i64 s0.wind.lo, .int .i64 s0.wind.hi, .slice qa1 na1 ca1, .slice qa2 na2 ca2]]) Try.func33 rfl Try.ntmps33 rfl (e := [(0, _)]) rfl (H := HV w (keys [] []) [] [] [(aB qa0, aO qa0, RW.enc s0.table), (aB qa1, aO qa1, RI.enc s0.floors), (aB qa2, aO qa2, RS.enc s0.sills)]) hw ?_
  refine g_seq ?_
  refine g_region ?_
  refine g_boxV rfl rfl (fun b h1 => ?_)
  refine g_val rfl rfl rfl (fun _ _ => v_assign rfl) ?_
  refine g_nil ?_
  refine g_n_then ?_
  refine g_seq ?_
  refine g_region ?_
  refine g_val rfl rfl rfl (fun w _ => v_fieldAddr 3 (Try.runUnderlying59 w) rfl (Try.sizeOf26 w) rfl) ?_
  refine g_val rfl rfl rfl (fun w hh => v_load (Try.isAgg26 w) rfl (hh.cell 0 rfl rfl)) ?_
  refine g_val rfl rfl rfl (fun w _ => v_lenR hna1 (Try.runUnderlying26 w) rfl) ?_
  refine g_val rfl rfl rfl (fun _ _ => v_assign rfl) ?_
  refine g_nil ?_
  refine g_n_then ?_
  refine g_seq ?_
  refine g_seq ?_
  obtain ⟨o, h2, h3⟩ := bindO hm
  refine g_cut (ι := Unit) (fun l => True) (fun l => [(1, ptr b 0), (3, .int .i64 (s0.floors.length : Int)), (26, .bool o)]) (fun l => [(b, .cells #[.slice qa0 na0 ca0, .int .i64 s0.wind.lo, .int .i64 s0.wind.hi, .slice qa1 na1 ca1, .slice qa2 na2 ca2] 59 (0, 0))]) (fun l => []) ?_ ?_
  ·replace hm := h2
   refine g_region ?_
   refine g_val rfl rfl rfl (fun w _ => v_fieldAddr 0 (Try.runUnderlying59 w) rfl (Try.sizeOf56 w) rfl) ?_
   refine g_val rfl rfl rfl (fun w hh => v_load (Try.isAgg56 w) rfl (hh.cell 0 rfl rfl)) ?_
   refine g_val rfl rfl rfl (fun w _ => v_lenR hna0 (Try.runUnderlying56 w) rfl) ?_
   obtain ⟨t16, h4, hm⟩ := bindO hm
   refine g_callH [] [] rfl rfl rfl rfl rfl rfl rfl (fun a w => Try.call107 a w) (fun w hh => c_laurelref01_off (s0.table.length : Int) 2 12 w (HV.callee (S0 := []) (vs0 := []) hh roN)  h4) (fun l_1 h5 => ?_)
   refine g_val rfl rfl rfl (fun _ _ => v_move rfl) ?_
   refine g_case 17 rfl (fun h6 => ?_) (fun h6 => ?_)
   ·replace hm := ifT (h6) hm
    refine g_skipG rfl rfl rfl rfl rfl rfl ?_
    refine g_skipG rfl rfl rfl rfl rfl rfl ?_
    refine g_val rfl rfl rfl (fun _ _ => v_pickT rfl rfl) ?_
    refine g_val rfl rfl rfl (fun _ _ => v_move rfl) ?_
    refine g_skipG rfl rfl rfl rfl rfl rfl ?_
    refine g_skipG rfl rfl rfl rfl rfl rfl ?_
    refine g_skipG rfl rfl rfl rfl rfl rfl ?_
    refine g_skipG rfl rfl rfl rfl rfl rfl ?_
    refine g_val rfl rfl rfl (fun _ _ => v_pickT rfl rfl) ?_
    refine g_nil ?_
    obtain rfl := Option.some.inj hm
    exact g_leaf () (trivial) ((.cons rfl (.cons rfl (.cons rfl .nil)))) (fun w hh => hh)
   ·replace hm := ifF ((fun hh => Bool.noConfusion ((h6).symm.trans hh))) hm
    refine v_unguard rfl rfl ?_
    refine g_val rfl rfl rfl (fun _ _ => v_move rfl) ?_
    refine v_unguard rfl rfl ?_
    obtain ⟨t19, h7, hm⟩ := bindO hm
    refine g_callH [] [] rfl rfl rfl rfl rfl rfl rfl (fun a w => Try.call107 a w) (fun w hh => c_laurelref01_off (s0.floors.length : Int) 1 8 w (HV.callee (S0 := []) (vs0 := []) hh roN)  h7) (fun l_2 h8 => ?_)
    refine g_val rfl rfl rfl (fun _ _ => v_pickF rfl rfl) ?_
    refine g_val rfl rfl rfl (fun _ _ => v_move rfl) ?_
    refine g_case 21 rfl (fun h9 => ?_) (fun h9 => ?_)
    ·replace hm := ifT (h9) hm
     refine g_skipG rfl rfl rfl rfl rfl rfl ?_
     refine g_skipG rfl rfl rfl rfl rfl rfl ?_
     refine g_skipG rfl rfl rfl rfl rfl rfl ?_
     refine g_skipG rfl rfl rfl rfl rfl rfl ?_
     refine g_val rfl rfl rfl (fun _ _ => v_pickT rfl rfl) ?_
     refine g_nil ?_
     obtain rfl := Option.some.inj hm
     exact g_leaf () (trivial) ((.cons rfl (.cons rfl (.cons rfl .nil)))) (fun w hh => hh)
    ·replace hm := ifF ((fun hh => Bool.noConfusion ((h9).symm.trans hh))) hm
     refine v_unguard rfl rfl ?_
     refine g_val rfl rfl rfl (fun w _ => v_fieldAddr 4 (Try.runUnderlying59 w) rfl (Try.sizeOf57 w) rfl) ?_
     refine v_unguard rfl rfl ?_
     refine g_val rfl rfl rfl (fun w hh => v_load (Try.isAgg57 w) rfl (hh.cell 0 rfl rfl)) ?_
     refine v_unguard rfl rfl ?_
     refine g_val rfl rfl rfl (fun w _ => v_lenR hna2 (Try.runUnderlying57 w) rfl) ?_
     refine v_unguard rfl rfl ?_
     refine g_val rfl rfl rfl (fun _ _ => v_gtr rfl rfl) ?_
     refine g_val rfl rfl rfl (fun _ _ => v_pickF rfl rfl) ?_
     refine g_nil ?_
     obtain rfl := Option.some.inj hm
     exact g_leaf () (trivial) ((.cons rfl (.cons rfl (.cons rfl .nil)))) (fun w hh => hh)
  ·intro l hj
   replace hm := h3
   refine g_n_then ?_
   refine g_cond rfl (fun h10 => ?_) (fun h10 => ?_)
   ·replace hm := ifT (h10) hm
    refine g_seq ?_
    refine g_region ?_
    refine g_val rfl rfl rfl (fun _ _ => v_assign rfl) ?_
    refine g_nil ?_
    refine g_n_then ?_
    refine g_ret ?_
    refine g_r_then ?_
    obtain rfl := Option.some.inj hm
    refine g_done rfl (fun w hh => (.tmp rfl .nil)) (fun w hh => ⟨(), rfl, trivial, hh.sel [] [] 3 (by decide) (by decide) rfl rfl rfl⟩)
   ·replace hm := ifF ((fun hh => Bool.noConfusion ((h10).symm.trans hh))) hm
    refine g_skip ?_
    refine g_n_then ?_
    refine g_seq ?_
    refine g_seq ?_
    refine g_region ?_
    refine g_val rfl rfl rfl (fun _ _ => v_assign rfl) ?_
    refine g_nil ?_
    refine g_n_then ?_
    obtain ⟨o_1, h11, h12⟩ := bindO hm
    refine g_cut (ι := Unit) (fun j => o_1 = .inl j) (fun j => [(1, ptr b 0), (3, .int .i64 (s0.floors.length : Int))]) (fun j => [(b, .cells #[.slice qa0 na0 ca0, .int .i64 s0.wind.lo, .int .i64 s0.wind.hi, .slice qa1 na1 ca1, .slice qa2 na2 ca2] 59 (0, 0))]) (fun j => []) ?_ ?_
    ·replace hm := h11
     refine g_block ?_
     refine g_loopF (ι := Unit) hm (fun s l_3 => True) (fun s l_3 => [(1, ptr b 0), (3, .int .i64 (s0.floors.length : Int)), (4, .int .i64 s)]) (fun s l_3 => [(b, .cells #[.slice qa0 na0 ca0, .int .i64 s0.wind.lo, .int .i64 s0.wind.hi, .slice qa1 na1 ca1, .slice qa2 na2 ca2] 59 (0, 0))]) (fun s l_3 => []) () (trivial) ((.cons rfl (.cons rfl (.cons rfl .nil)))) (fun w hh => hh) (fun s l_3 r hpl hm h13 => ?_)
     unfold m_laurelref01_Check_L0 at hm
     refine g_seq ?_
     refine g_seq ?_
     refine g_region ?_
     refine g_val rfl rfl rfl (fun _ _ => v_move rfl) ?_
     refine g_val rfl rfl rfl (fun w _ => v_fieldAddr 0 (Try.runUnderlying59 w) rfl (Try.sizeOf56 w) rfl) ?_
     refine g_val rfl rfl rfl (fun w hh => v_load (Try.isAgg56 w) rfl (hh.cell 0 rfl rfl)) ?_
     refine g_val rfl rfl rfl (fun w _ => v_lenR hna0 (Try.runUnderlying56 w) rfl) ?_
     refine g_val rfl rfl rfl (fun _ _ => v_lss rfl rfl) ?_
     refine g_nil ?_
     refine g_n_then ?_
     refine g_cond rfl (fun h14 => ?_) (fun h14 => ?_)
     ·replace hm := ifT (of_decide_eq_true h14) hm
      refine g_skip ?_
      refine g_n_then ?_
      refine g_seq ?_
      refine g_block ?_
      refine g_seq ?_
      obtain ⟨o_2, h15, h16⟩ := bindO hm
      refine g_cut (ι := Unit) (fun l_4 => True) (fun l_4 => [(1, ptr b 0), (3, .int .i64 (s0.floors.length : Int)), (4, .int .i64 s), (49, .bool o_2)]) (fun l_4 => [(b, .cells #[.slice qa0 na0 ca0, .int .i64 s0.wind.lo, .int .i64 s0.wind.hi, .slice qa1 na1 ca1, .slice qa2 na2 ca2] 59 (0, 0))]) (fun l_4 => []) ?_ ?_
      ·replace hm := h15
       refine g_region ?_
       refine g_val rfl rfl rfl (fun w _ => v_fieldAddr 0 (Try.runUnderlying59 w) rfl (Try.sizeOf56 w) rfl) ?_
       refine g_val rfl rfl rfl (fun w hh => v_load (Try.isAgg56 w) rfl (hh.cell 0 rfl rfl)) ?_
       refine g_val rfl rfl rfl (fun _ _ => v_move rfl) ?_
       obtain ⟨t37, h17, hm⟩ := bindO hm
       refine g_val rfl rfl rfl (fun w _ => v_ixR h17 (Try.runUnderlying56 w) (Try.sizeOf158 w) rfl rfl hna0 hqa0) ?_
       refine g_val rfl rfl rfl (fun w _ => v_fieldAddr 0 (Try.runUnderlying158 w) rfl (Try.sizeOf3 w) rfl) ?_
       refine g_val rfl rfl rfl (fun w hh => v_ldE RW 0 h17 (Try.isAgg3 w) rfl (hh.seg 0 rfl) rfl rfl) ?_
       obtain ⟨t40, h18, hm⟩ := bindO hm
       refine g_callH [] [] rfl rfl rfl rfl rfl rfl rfl (fun a w => Try.call107 a w) (fun w hh => c_laurelref01_off t37.min 0 1440 w (HV.callee (S0 := []) (vs0 := []) hh roN)  h18) (fun l_5 h19 => ?_)
       refine g_val rfl rfl rfl (fun _ _ => v_move rfl) ?_
       refine g_case 41 rfl (fun h20 => ?_) (fun h20 => ?_)
       ·replace hm := ifT (h20) hm
        refine g_skipG rfl rfl rfl rfl rfl rfl ?_
        refine g_skipG rfl rfl rfl rfl rfl rfl ?_
        refine g_skipG rfl rfl rfl rfl rfl rfl ?_
        refine g_skipG rfl rfl rfl rfl rfl rfl ?_
        refine g_skipG rfl rfl rfl rfl rfl rfl ?_
        refine g_skipG rfl rfl rfl rfl rfl rfl ?_
        refine g_skipG rfl rfl rfl rfl rfl rfl ?_
        refine g_val rfl rfl rfl (fun _ _ => v_pickT rfl rfl) ?_
        refine g_nil ?_
        obtain rfl := Option.some.inj hm
        exact g_leaf () (trivial) ((.cons rfl (.cons rfl (.cons rfl (.cons rfl .nil))))) (fun w hh => hh)
       ·replace hm := ifF ((fun hh => Bool.noConfusion ((h20).symm.trans hh))) hm
        refine v_unguard rfl rfl ?_
        refine g_val rfl rfl rfl (fun w _ => v_fieldAddr 0 (Try.runUnderlying59 w) rfl (Try.sizeOf56 w) rfl) ?_
        refine v_unguard rfl rfl ?_
        refine g_val rfl rfl rfl (fun w hh => v_load (Try.isAgg56 w) rfl (hh.cell 0 rfl rfl)) ?_
        refine v_unguard rfl rfl ?_
        refine g_val rfl rfl rfl (fun _ _ => v_move rfl) ?_
        refine v_unguard rfl rfl ?_
        obtain ⟨t45, h21, hm⟩ := bindO hm
        refine g_val rfl rfl rfl (fun w _ => v_ixR h21 (Try.runUnderlying56 w) (Try.sizeOf158 w) rfl rfl hna0 hqa0) ?_
        refine v_unguard rfl rfl ?_
        refine g_val rfl rfl rfl (fun w _ => v_fieldAddr 1 (Try.runUnderlying158 w) rfl (Try.sizeOf3 w) rfl) ?_
        refine v_unguard rfl rfl ?_
        refine g_val rfl rfl rfl (fun w hh => v_ldE RW 1 h21 (Try.isAgg3 w) rfl (hh.seg 0 rfl) rfl rfl) ?_
        refine v_unguard rfl rfl ?_
        obtain ⟨t48, h22, hm⟩ := bindO hm
        refine g_callH [] [] rfl rfl rfl rfl rfl rfl rfl (fun a w => Try.call107 a w) (fun w hh => c_laurelref01_off t45.h 0 999 w (HV.callee (S0 := []) (vs0 := []) hh roN)  h22) (fun l_6 h23 => ?_)
        refine g_val rfl rfl rfl (fun _ _ => v_pickF rfl rfl) ?_
        refine g_nil ?_
        obtain rfl := Option.some.inj hm
        exact g_leaf () (trivial) ((.cons rfl (.cons rfl (.cons rfl (.cons rfl .nil))))) (fun w hh => hh)
      ·intro l_4 hj
       replace hm := h16
       refine g_n_then ?_
       refine g_cond rfl (fun h24 => ?_) (fun h24 => ?_)
       ·replace hm := ifT (h24) hm
        refine g_seq ?_
        refine g_region ?_
        refine g_val rfl rfl rfl (fun _ _ => v_assign rfl) ?_
        refine g_nil ?_
        refine g_n_then ?_
        refine g_ret ?_
        refine g_r_blk ?_
        refine g_r_then ?_
        refine g_r_then ?_
        refine g_r_blk ?_
        obtain rfl := Option.some.inj hm
        have hbo := h13 _ rfl
        subst hbo
        refine g_r_then ?_
        replace hm := ocR h12
        refine g_r_then ?_
        obtain rfl := Option.some.inj hm
        refine g_done rfl (fun w hh => (.tmp rfl .nil)) (fun w hh => ⟨(), rfl, trivial, hh.sel [] [] 3 (by decide) (by decide) rfl rfl rfl⟩)
       ·replace hm := ifF ((fun hh => Bool.noConfusion ((h24).symm.trans hh))) hm
        refine g_skip ?_
        refine g_n_blk ?_
        refine g_n_then ?_
        refine g_region ?_
        refine g_val rfl rfl rfl (fun _ _ => v_move rfl) ?_
        obtain ⟨t33, h25, hm⟩ := bindO hm
        refine g_val rfl rfl rfl (fun _ _ => v_addc h25 rfl rfl) ?_
        refine g_val rfl rfl rfl (fun _ _ => v_assign rfl) ?_
        refine g_nil ?_
        obtain rfl := Option.some.inj hm
        refine g_n_then ?_
        exact g_again' _ () rfl (trivial) ((.cons rfl (.cons rfl (.cons rfl .nil)))) (fun w hh => hh)
     ·replace hm := ifF (of_decide_eq_false h14) hm
      refine g_exit ?_
      refine g_x_then ?_
      refine g_x_then ?_
      refine g_x_blk ?_
      obtain rfl := Option.some.inj hm
      have hbo := h13 _ rfl
      subst hbo
      exact g_leaf () (rfl) ((.cons rfl (.cons rfl .nil))) (fun w hh => hh)
    ·intro j hj
     have h26 := hj
     subst h26
     replace hm := ocL h12
     refine g_n_then ?_
     refine g_seq ?_
     refine g_seq ?_
     obtain ⟨o_3, h27, h28⟩ := bindO hm
     refine g_cut (ι := Unit) (fun l_7 => True) (fun l_7 => [(1, ptr b 0), (3, .int .i64 (s0.floors.length : Int)), (59, .bool o_3)]) (fun l_7 => [(b, .cells #[.slice qa0 na0 ca0, .int .i64 s0.wind.lo, .int .i64 s0.wind.hi, .slice qa1 na1 ca1, .slice qa2 na2 ca2] 59 (0, 0))]) (fun l_7 => []) ?_ ?_
     ·replace hm := h27
      refine g_region ?_
      refine g_val rfl rfl rfl (fun w _ => v_fieldAddr 1 (Try.runUnderlying59 w) rfl (Try.sizeOf25 w) rfl) ?_
      refine g_val rfl rfl rfl (fun w _ => v_fieldAddr 0 (Try.runUnderlying25 w) rfl (Try.sizeOf3 w) rfl) ?_
      refine g_val rfl rfl rfl (fun w hh => v_load (Try.isAgg3 w) rfl (hh.cell 0 rfl rfl)) ?_
      obtain ⟨t53, h29, hm⟩ := bindO hm
      refine g_callH [] [] rfl rfl rfl rfl rfl rfl rfl (fun a w => Try.call107 a w) (fun w hh => c_laurelref01_off s0.wind.lo (-50) 50 w (HV.callee (S0 := []) (vs0 := []) hh roN)  h29) (fun l_8 h30 => ?_)
      refine g_val rfl rfl rfl (fun _ _ => v_move rfl) ?_
      refine g_case 54 rfl (fun h31 => ?_) (fun h31 => ?_)
      ·replace hm := ifT (h31) hm
       refine g_skipG rfl rfl rfl rfl rfl rfl ?_
       refine g_skipG rfl rfl rfl rfl rfl rfl ?_
       refine g_skipG rfl rfl rfl rfl rfl rfl ?_
       refine g_skipG rfl rfl rfl rfl rfl rfl ?_
       refine g_val rfl rfl rfl (fun _ _ => v_pickT rfl rfl) ?_
       refine g_nil ?_
       obtain rfl := Option.some.inj hm
       exact g_leaf () (trivial) ((.cons rfl (.cons rfl (.cons rfl .nil)))) (fun w hh => hh)
      ·replace hm := ifF ((fun hh => Bool.noConfusion ((h31).symm.trans hh))) hm
       refine v_unguard rfl rfl ?_
       refine g_val rfl rfl rfl (fun w _ => v_fieldAddr 1 (Try.runUnderlying59 w) rfl (Try.sizeOf25 w) rfl) ?_
       refine v_unguard rfl rfl ?_
       refine g_val rfl rfl rfl (fun w _ => v_fieldAddr 1 (Try.runUnderlying25 w) rfl (Try.sizeOf3 w) rfl) ?_
       refine v_unguard rfl rfl ?_
       refine g_val rfl rfl rfl (fun w hh => v_load (Try.isAgg3 w) rfl (hh.cell 0 rfl rfl)) ?_
       refine v_unguard rfl rfl ?_
       obtain ⟨t58, h32, hm⟩ := bindO hm
       refine g_callH [] [] rfl rfl rfl rfl rfl rfl rfl (fun a w => Try.call107 a w) (fun w hh => c_laurelref01_off s0.wind.hi (-50) 50 w (HV.callee (S0 := []) (vs0 := []) hh roN)  h32) (fun l_9 h33 => ?_)
       refine g_val rfl rfl rfl (fun _ _ => v_pickF rfl rfl) ?_
       refine g_nil ?_
       obtain rfl := Option.some.inj hm
       exact g_leaf () (trivial) ((.cons rfl (.cons rfl (.cons rfl .nil)))) (fun w hh => hh)
     ·intro l_7 hj
      replace hm := h28
      refine g_n_then ?_
      refine g_cond rfl (fun h34 => ?_) (fun h34 => ?_)
      ·replace hm := ifT (h34) hm
       refine g_seq ?_
       refine g_region ?_
       refine g_val rfl rfl rfl (fun _ _ => v_assign rfl) ?_
       refine g_nil ?_
       refine g_n_then ?_
       refine g_ret ?_
       refine g_r_then ?_
       obtain rfl := Option.some.inj hm
       refine g_done rfl (fun w hh => (.tmp rfl .nil)) (fun w hh => ⟨(), rfl, trivial, hh.sel [] [] 3 (by decide) (by decide) rfl rfl rfl⟩)
      ·replace hm := ifF ((fun hh => Bool.noConfusion ((h34).symm.trans hh))) hm
       refine g_skip ?_
       refine g_n_then ?_
       refine g_seq ?_
       refine g_seq ?_
       refine g_region ?_
       refine g_val rfl rfl rfl (fun _ _ => v_assign rfl) ?_
       refine g_nil ?_
       refine g_n_then ?_
       obtain ⟨o_4, h35, h36⟩ := bindO hm
       refine g_cut (ι := Unit) (fun j_1 => o_4 = .inl j_1) (fun j_1 => [(1, ptr b 0), (3, .int .i64 (s0.floors.length : Int))]) (fun j_1 => [(b, .cells #[.slice qa0 na0 ca0, .int .i64 s0.wind.lo, .int .i64 s0.wind.hi, .slice qa1 na1 ca1, .slice qa2 na2 ca2] 59 (0, 0))]) (fun j_1 => []) ?_ ?_
       ·replace hm := h35
        refine g_block ?_
        refine g_loopF (ι := Unit) hm (fun s_1 l_10 => True) (fun s_1 l_10 => [(1, ptr b 0), (3, .int .i64 (s0.floors.length : Int)), (5, .int .i64 s_1)]) (fun s_1 l_10 => [(b, .cells #[.slice qa0 na0 ca0, .int .i64 s0.wind.lo, .int .i64 s0.wind.hi, .slice qa1 na1 ca1, .slice qa2 na2 ca2] 59 (0, 0))]) (fun s_1 l_10 => []) () (trivial) ((.cons rfl (.cons rfl (.cons rfl .nil)))) (fun w hh => hh) (fun s_1 l_10 r_1 hpl hm h37 => ?_)
        unfold m_laurelref01_Check_L1 at hm
        refine g_seq ?_
        refine g_seq ?_
        refine g_region ?_
        refine g_val rfl rfl rfl (fun _ _ => v_move rfl) ?_
        refine g_val rfl rfl rfl (fun _ _ => v_move rfl) ?_
        refine g_val rfl rfl rfl (fun _ _ => v_lss rfl rfl) ?_
        refine g_nil ?_
        refine g_n_then ?_
        refine g_cond rfl (fun h38 => ?_) (fun h38 => ?_)
        ·replace hm := ifT (of_decide_eq_true h38) hm
         refine g_skip ?_
         refine g_n_then ?_
         refine g_seq ?_
         refine g_block ?_
         refine g_seq ?_
         refine g_region ?_
         refine g_val rfl rfl rfl (fun w _ => v_fieldAddr 3 (Try.runUnderlying59 w) rfl (Try.sizeOf26 w) rfl) ?_
         refine g_val rfl rfl rfl (fun w hh => v_load (Try.isAgg26 w) rfl (hh.cell 0 rfl rfl)) ?_
         refine g_val rfl rfl rfl (fun _ _ => v_move rfl) ?_
         obtain ⟨t68, h39, hm⟩ := bindO hm
         refine g_val rfl rfl rfl (fun w _ => v_ixR h39 (Try.runUnderlying26 w) (Try.sizeOf3 w) rfl rfl hna1 hqa1) ?_
         refine g_val rfl rfl rfl (fun w hh => v_ldE RI 0 h39 (Try.isAgg3 w) rfl (hh.seg 1 rfl) rfl (Nat.add_zero _).symm) ?_
         obtain ⟨t70, h40, hm⟩ := bindO hm
         refine g_callH [] [] rfl rfl rfl rfl rfl rfl rfl (fun a w => Try.call107 a w) (fun w hh => c_laurelref01_off t68 0 999 w (HV.callee (S0 := []) (vs0 := []) hh roN)  h40) (fun l_11 h41 => ?_)
         refine g_nil ?_
         refine g_n_then ?_
         refine g_cond rfl (fun h42 => ?_) (fun h42 => ?_)
         ·replace hm := ifT (h42) hm
          refine g_seq ?_
          refine g_region ?_
          refine g_val rfl rfl rfl (fun _ _ => v_assign rfl) ?_
          refine g_nil ?_
          refine g_n_then ?_
          refine g_ret ?_
          refine g_r_blk ?_
          refine g_r_then ?_
          refine g_r_then ?_
          refine g_r_blk ?_
          obtain rfl := Option.some.inj hm
          have hbo := h37 _ rfl
          subst hbo
          refine g_r_then ?_
          replace hm := ocR h36
          refine g_r_then ?_
          obtain rfl := Option.some.inj hm
          refine g_done rfl (fun w hh => (.tmp rfl .nil)) (fun w hh => ⟨(), rfl, trivial, hh.sel [] [] 3 (by decide) (by decide) rfl rfl rfl⟩)
         ·replace hm := ifF ((fun hh => Bool.noConfusion ((h42).symm.trans hh))) hm
          refine g_skip ?_
          refine g_n_blk ?_
          refine g_n_then ?_
          refine g_region ?_
          refine g_val rfl rfl rfl (fun _ _ => v_move rfl) ?_
          obtain ⟨t64, h43, hm⟩ := bindO hm
          refine g_val rfl rfl rfl (fun _ _ => v_addc h43 rfl rfl) ?_
          refine g_val rfl rfl rfl (fun _ _ => v_assign rfl) ?_
          refine g_nil ?_
          obtain rfl := Option.some.inj hm
          refine g_n_then ?_
          exact g_again' _ () rfl (trivial) ((.cons rfl (.cons rfl (.cons rfl .nil)))) (fun w hh => hh)
        ·replace hm := ifF (of_decide_eq_false h38) hm
         refine g_exit ?_
         refine g_x_then ?_
         refine g_x_then ?_
         refine g_x_blk ?_
         obtain rfl := Option.some.inj hm
         have hbo := h37 _ rfl
         subst hbo
         exact g_leaf () (rfl) ((.cons rfl (.cons rfl .nil))) (fun w hh => hh)
       ·intro j_1 hj
        have h44 := hj
        subst h44
        replace hm := ocL h36
        refine g_n_then ?_
        refine g_seq ?_
        refine g_seq ?_
        refine g_region ?_
        refine g_val rfl rfl rfl (fun _ _ => v_assign rfl) ?_
        refine g_nil ?_
        refine g_n_then ?_
        obtain ⟨o_5, h45, h46⟩ := bindO hm
        refine g_cut (ι := Unit) (fun j_2 => o_5 = .inl j_2) (fun j_2 => [(1, ptr b 0), (3, .int .i64 (s0.floors.length : Int))]) (fun j_2 => [(b, .cells #[.slice qa0 na0 ca0, .int .i64 s0.wind.lo, .int .i64 s0.wind.hi, .slice qa1 na1 ca1, .slice qa2 na2 ca2] 59 (0, 0))]) (fun j_2 => []) ?_ ?_
        ·replace hm := h45
         refine g_block ?_
         refine g_loopF (ι := Unit) hm (fun s_2 l_12 => True) (fun s_2 l_12 => [(1, ptr b 0), (3, .int .i64 (s0.floors.length : Int)), (6, .int .i64 s_2)]) (fun s_2 l_12 => [(b, .cells #[.slice qa0 na0 ca0, .int .i64 s0.wind.lo, .int .i64 s0.wind.hi, .slice qa1 na1 ca1, .slice qa2 na2 ca2] 59 (0, 0))]) (fun s_2 l_12 => []) () (trivial) ((.cons rfl (.cons rfl (.cons rfl .nil)))) (fun w hh => hh) (fun s_2 l_12 r_2 hpl hm h47 => ?_)
         unfold m_laurelref01_Check_L2 at hm
         refine g_seq ?_
         refine g_seq ?_
         refine g_region ?_
         refine g_val rfl rfl rfl (fun _ _ => v_move rfl) ?_
         refine g_val rfl rfl rfl (fun w _ => v_fieldAddr 4 (Try.runUnderlying59 w) rfl (Try.sizeOf57 w) rfl) ?_
         refine g_val rfl rfl rfl (fun w hh => v_load (Try.isAgg57 w) rfl (hh.cell 0 rfl rfl)) ?_
         refine g_val rfl rfl rfl (fun w _ => v_lenR hna2 (Try.runUnderlying57 w) rfl) ?_
         refine g_val rfl rfl rfl (fun _ _ => v_lss rfl rfl) ?_
         refine g_nil ?_
         refine g_n_then ?_
         refine g_cond rfl (fun h48 => ?_) (fun h48 => ?_)
         ·replace hm := ifT (of_decide_eq_true h48) hm
          refine g_skip ?_
          refine g_n_then ?_
          refine g_seq ?_
          refine g_block ?_
          refine g_seq ?_
          refine g_region ?_
          refine g_val rfl rfl rfl (fun w _ => v_fieldAddr 4 (Try.runUnderlying59 w) rfl (Try.sizeOf57 w) rfl) ?_
          refine g_val rfl rfl rfl (fun w hh => v_load (Try.isAgg57 w) rfl (hh.cell 0 rfl rfl)) ?_
          refine g_val rfl rfl rfl (fun _ _ => v_move rfl) ?_
          obtain ⟨t81, h49, hm⟩ := bindO hm
          refine g_val rfl rfl rfl (fun w _ => v_ixR h49 (Try.runUnderlying57 w) (Try.sizeOf159 w) rfl rfl hna2 hqa2) ?_
          refine g_val rfl rfl rfl (fun w _ => v_fieldAddr 2 (Try.runUnderlying159 w) rfl (Try.sizeOf3 w) rfl) ?_
          refine g_val rfl rfl rfl (fun w hh => v_ldE RS 2 h49 (Try.isAgg3 w) rfl (hh.seg 2 rfl) rfl rfl) ?_
          obtain ⟨t84, h50, hm⟩ := bindO hm
          refine g_callH [] [] rfl rfl rfl rfl rfl rfl rfl (fun a w => Try.call107 a w) (fun w hh => c_laurelref01_off t81.h 0 999 w (HV.callee (S0 := []) (vs0 := []) hh roN)  h50) (fun l_13 h51 => ?_)
          refine g_nil ?_
          refine g_n_then ?_
          refine g_cond rfl (fun h52 => ?_) (fun h52 => ?_)
          ·replace hm := ifT (h52) hm
           refine g_seq ?_
           refine g_region ?_
           refine g_val rfl rfl rfl (fun _ _ => v_assign rfl) ?_
           refine g_nil ?_
           refine g_n_then ?_
           refine g_ret ?_
           refine g_r_blk ?_
           refine g_r_then ?_
           refine g_r_then ?_
           refine g_r_blk ?_
           obtain rfl := Option.some.inj hm
           have hbo := h47 _ rfl
           subst hbo
           refine g_r_then ?_
           replace hm := ocR h46
           refine g_r_then ?_
           obtain rfl := Option.some.inj hm
           refine g_done rfl (fun w hh => (.tmp rfl .nil)) (fun w hh => ⟨(), rfl, trivial, hh.sel [] [] 3 (by decide) (by decide) rfl rfl rfl⟩)
          ·replace hm := ifF ((fun hh => Bool.noConfusion ((h52).symm.trans hh))) hm
           refine g_skip ?_
           refine g_n_blk ?_
           refine g_n_then ?_
           refine g_region ?_
           refine g_val rfl rfl rfl (fun _ _ => v_move rfl) ?_
           obtain ⟨t77, h53, hm⟩ := bindO hm
           refine g_val rfl rfl rfl (fun _ _ => v_addc h53 rfl rfl) ?_
           refine g_val rfl rfl rfl (fun _ _ => v_assign rfl) ?_
           refine g_nil ?_
           obtain rfl := Option.some.inj hm
           refine g_n_then ?_
           exact g_again' _ () rfl (trivial) ((.cons rfl (.cons rfl (.cons rfl .nil)))) (fun w hh => hh)
         ·replace hm := ifF (of_decide_eq_false h48) hm
          refine g_exit ?_
          refine g_x_then ?_
          refine g_x_then ?_
          refine g_x_blk ?_
          obtain rfl := Option.some.inj hm
          have hbo := h47 _ rfl
          subst hbo
          exact g_leaf () (rfl) ((.cons rfl (.cons rfl .nil))) (fun w hh => hh)
        ·intro j_2 hj
         have h54 := hj
         subst h54
         replace hm := ocL h46
         refine g_n_then ?_
         refine g_seq ?_
         refine g_seq ?_
         refine g_region ?_
         refine g_val rfl rfl rfl (fun _ _ => v_assign rfl) ?_
         refine g_nil ?_
         refine g_n_then ?_
         obtain ⟨o_6, h55, h56⟩ := bindO hm
         refine g_cut (ι := Unit) (fun j_3 => o_6 = .inl j_3) (fun j_3 => [(1, ptr b 0), (3, .int .i64 (s0.floors.length : Int))]) (fun j_3 => [(b, .cells #[.slice qa0 na0 ca0, .int .i64 s0.wind.lo, .int .i64 s0.wind.hi, .slice qa1 na1 ca1, .slice qa2 na2 ca2] 59 (0, 0))]) (fun j_3 => []) ?_ ?_
         ·replace hm := h55
          refine g_block ?_
          refine g_loopF (ι := Unit) hm (fun s_3 l_14 => True) (fun s_3 l_14 => [(1, ptr b 0), (3, .int .i64 (s0.floors.length : Int)), (7, .int .i64 s_3)]) (fun s_3 l_14 => [(b, .cells #[.slice qa0 na0 ca0, .int .i64 s0.wind.lo, .int .i64 s0.wind.hi, .slice qa1 na1 ca1, .slice qa2 na2 ca2] 59 (0, 0))]) (fun s_3 l_14 => []) () (trivial) ((.cons rfl (.cons rfl (.cons rfl .nil)))) (fun w hh => hh) (fun s_3 l_14 r_3 hpl hm h57 => ?_)
          unfold m_laurelref01_Check_L3 at hm
          refine g_seq ?_
          refine g_seq ?_
          refine g_region ?_
          refine g_val rfl rfl rfl (fun _ _ => v_move rfl) ?_
          refine g_val rfl rfl rfl (fun w _ => v_fieldAddr 0 (Try.runUnderlying59 w) rfl (Try.sizeOf56 w) rfl) ?_
          refine g_val rfl rfl rfl (fun w hh => v_load (Try.isAgg56 w) rfl (hh.cell 0 rfl rfl)) ?_
          refine g_val rfl rfl rfl (fun w _ => v_lenR hna0 (Try.runUnderlying56 w) rfl) ?_
          refine g_val rfl rfl rfl (fun _ _ => v_lss rfl rfl) ?_
          refine g_nil ?_
          refine g_n_then ?_
          refine g_cond rfl (fun h58 => ?_) (fun h58 => ?_)
          ·replace hm := ifT (of_decide_eq_true h58) hm
           refine g_skip ?_
           refine g_n_then ?_
           refine g_seq ?_
           refine g_block ?_
           refine g_seq ?_
           refine g_draw none (.free 0 (.hoist 1 (.free 2 (.free 3 (.free 4 (.hoist 5 (.free 6 (.hoist 7 (.free 8 (.free 9 (.free 10 (.free 11 (.hoist 12 (.free 13 .done)))))))))))))) _ rfl (by decide +kernel) (fun w k hh => hh.draw k) (fun w hh => hh) ?_
           refine p_free rfl rfl rfl rfl (fun w _ => v_fieldAddr 0 (Try.runUnderlying59 w) rfl (Try.sizeOf56 w) rfl) ?_
           refine p_hoist rfl rfl rfl rfl (fun w hh => v_load (Try.isAgg56 w) rfl (hh.cell 0 rfl rfl)) ?_
           refine p_free rfl rfl rfl rfl (fun _ _ => v_move rfl) ?_
           obtain ⟨t95, h59, hm⟩ := bindO hm
           refine p_free rfl rfl rfl rfl (fun w _ => v_ixR h59 (Try.runUnderlying56 w) (Try.sizeOf158 w) rfl rfl hna0 hqa0) ?_
           refine p_free rfl rfl rfl rfl (fun w _ => v_fieldAddr 0 (Try.runUnderlying158 w) rfl (Try.sizeOf3 w) rfl) ?_
           refine p_hoist rfl rfl rfl rfl (fun w hh => v_ldE RW 0 h59 (Try.isAgg3 w) rfl (hh.seg 0 rfl) rfl rfl) ?_
           refine p_free rfl rfl rfl rfl (fun w _ => v_fieldAddr 0 (Try.runUnderlying59 w) rfl (Try.sizeOf56 w) rfl) ?_
           refine p_hoist rfl rfl rfl rfl (fun w hh => v_load (Try.isAgg56 w) rfl (hh.cell 0 rfl rfl)) ?_
           refine p_free rfl rfl rfl rfl (fun _ _ => v_move rfl) ?_
           obtain ⟨t101, h60, hm⟩ := bindO hm
           refine p_free rfl rfl rfl rfl (fun _ _ => v_subc h60 rfl rfl) ?_
           obtain ⟨t102, h61, hm⟩ := bindO hm
           refine p_free rfl rfl rfl rfl (fun w _ => v_ixR h61 (Try.runUnderlying56 w) (Try.sizeOf158 w) rfl rfl hna0 hqa0) ?_
           refine p_free rfl rfl rfl rfl (fun w _ => v_fieldAddr 0 (Try.runUnderlying158 w) rfl (Try.sizeOf3 w) rfl) ?_
           refine p_hoist rfl rfl rfl rfl (fun w hh => v_ldE RW 0 h61 (Try.isAgg3 w) rfl (hh.seg 0 rfl) rfl rfl) ?_
           refine p_free rfl rfl rfl rfl (fun _ _ => v_leq rfl rfl) ?_
           refine p_done ?_
           refine g_n_then ?_
           refine g_cond rfl (fun h62 => ?_) (fun h62 => ?_)
           ·replace hm := ifT (of_decide_eq_true h62) hm
            refine g_seq ?_
            refine g_region ?_
            refine g_val rfl rfl rfl (fun _ _ => v_assign rfl) ?_
            refine g_nil ?_
            refine g_n_then ?_
            refine g_ret ?_
            refine g_r_blk ?_
            refine g_r_then ?_
            refine g_r_then ?_
            refine g_r_blk ?_
            obtain rfl := Option.some.inj hm
            have hbo := h57 _ rfl
            subst hbo
            refine g_r_then ?_
            replace hm := ocR h56
            refine g_r_then ?_
            obtain rfl := Option.some.inj hm
            refine g_done rfl (fun w hh => (.tmp rfl .nil)) (fun w hh => ⟨(), rfl, trivial, hh.sel [] [] 3 (by decide) (by decide) rfl rfl rfl⟩)
           ·replace hm := ifF (of_decide_eq_false h62) hm
            refine g_skip ?_
            refine g_n_blk ?_
            refine g_n_then ?_
            refine g_region ?_
            refine g_val rfl rfl rfl (fun _ _ => v_move rfl) ?_
            obtain ⟨t91, h63, hm⟩ := bindO hm
            refine g_val rfl rfl rfl (fun _ _ => v_addc h63 rfl rfl) ?_
            refine g_val rfl rfl rfl (fun _ _ => v_assign rfl) ?_
            refine g_nil ?_
            obtain rfl := Option.some.inj hm
            refine g_n_then ?_
            exact g_again' _ () rfl (trivial) ((.cons rfl (.cons rfl (.cons rfl .nil)))) (fun w hh => hh)
          ·replace hm := ifF (of_decide_eq_false h58) hm
           refine g_exit ?_
           refine g_x_then ?_
           refine g_x_then ?_
           refine g_x_blk ?_
           obtain rfl := Option.some.inj hm
           have hbo := h57 _ rfl
           subst hbo
           exact g_leaf () (rfl) ((.cons rfl (.cons rfl .nil))) (fun w hh => hh)
         ·intro j_3 hj
          have h64 := hj
          subst h64
          replace hm := ocL h56
          refine g_n_then ?_
          refine g_seq ?_
          refine g_seq ?_
          refine g_region ?_
          refine g_val rfl rfl rfl (fun w _ => v_fieldAddr 1 (Try.runUnderlying59 w) rfl (Try.sizeOf25 w) rfl) ?_
          refine g_val rfl rfl rfl (fun w _ => v_fieldAddr 0 (Try.runUnderlying25 w) rfl (Try.sizeOf3 w) rfl) ?_
          refine g_val rfl rfl rfl (fun w hh => v_load (Try.isAgg3 w) rfl (hh.cell 0 rfl rfl)) ?_
          refine g_val rfl rfl rfl (fun w _ => v_fieldAddr 1 (Try.runUnderlying59 w) rfl (Try.sizeOf25 w) rfl) ?_
          refine g_val rfl rfl rfl (fun w _ => v_fieldAddr 1 (Try.runUnderlying25 w) rfl (Try.sizeOf3 w) rfl) ?_
          refine g_val rfl rfl rfl (fun w hh => v_load (Try.isAgg3 w) rfl (hh.cell 0 rfl rfl)) ?_
          refine g_val rfl rfl rfl (fun _ _ => v_gtr rfl rfl) ?_
          refine g_nil ?_
          refine g_n_then ?_
          refine g_cond rfl (fun h65 => ?_) (fun h65 => ?_)
          ·replace hm := ifT (of_decide_eq_true h65) hm
           refine g_seq ?_
           refine g_region ?_
           refine g_val rfl rfl rfl (fun _ _ => v_assign rfl) ?_
           refine g_nil ?_
           refine g_n_then ?_
           refine g_ret ?_
           refine g_r_then ?_
           obtain rfl := Option.some.inj hm
           refine g_done rfl (fun w hh => (.tmp rfl .nil)) (fun w hh => ⟨(), rfl, trivial, hh.sel [] [] 3 (by decide) (by decide) rfl rfl rfl⟩)
          ·replace hm := ifF (of_decide_eq_false h65) hm
           refine g_skip ?_
           refine g_n_then ?_
           refine g_seq ?_
           refine g_seq ?_
           refine g_region ?_
           refine g_val rfl rfl rfl (fun _ _ => v_assign rfl) ?_
           refine g_nil ?_
           refine g_n_then ?_
           obtain ⟨o_7, h66, h67⟩ := bindO hm
           refine g_cut (ι := Unit) (fun j_4 => o_7 = .inl j_4) (fun j_4 => [(1, ptr b 0)]) (fun j_4 => [(b, .cells #[.slice qa0 na0 ca0, .int .i64 s0.wind.lo, .int .i64 s0.wind.hi, .slice qa1 na1 ca1, .slice qa2 na2 ca2] 59 (0, 0))]) (fun j_4 => []) ?_ ?_
           ·replace hm := h66
            refine g_block ?_
            refine g_loopF (ι := Unit) hm (fun s_4 l_15 => True) (fun s_4 l_15 => [(1, ptr b 0), (3, .int .i64 (s0.floors.length : Int)), (8, .int .i64 s_4)]) (fun s_4 l_15 => [(b, .cells #[.slice qa0 na0 ca0, .int .i64 s0.wind.lo, .int .i64 s0.wind.hi, .slice qa1 na1 ca1, .slice qa2 na2 ca2] 59 (0, 0))]) (fun s_4 l_15 => []) () (trivial) ((.cons rfl (.cons rfl (.cons rfl .nil)))) (fun w hh => hh) (fun s_4 l_15 r_4 hpl hm h68 => ?_)
            unfold m_laurelref01_Check_L4 at hm
            refine g_seq ?_
            refine g_seq ?_
            refine g_region ?_
            refine g_val rfl rfl rfl (fun _ _ => v_move rfl) ?_
            refine g_val rfl rfl rfl (fun w _ => v_fieldAddr 4 (Try.runUnderlying59 w) rfl (Try.sizeOf57 w) rfl) ?_
            refine g_val rfl rfl rfl (fun w hh => v_load (Try.isAgg57 w) rfl (hh.cell 0 rfl rfl)) ?_
            refine g_val rfl rfl rfl (fun w _ => v_lenR hna2 (Try.runUnderlying57 w) rfl) ?_
            refine g_val rfl rfl rfl (fun _ _ => v_lss rfl rfl) ?_
            refine g_nil ?_
            refine g_n_then ?_
            refine g_cond rfl (fun h69 => ?_) (fun h69 => ?_)
            ·replace hm := ifT (of_decide_eq_true h69) hm
             refine g_skip ?_
             refine g_n_then ?_
             refine g_seq ?_
             refine g_block ?_
             refine g_seq ?_
             obtain ⟨o_8, h70, h71⟩ := bindO hm
             refine g_cut (ι := Unit) (fun l_16 => True) (fun l_16 => [(1, ptr b 0), (3, .int .i64 (s0.floors.length : Int)), (8, .int .i64 s_4), (139, .bool o_8)]) (fun l_16 => [(b, .cells #[.slice qa0 na0 ca0, .int .i64 s0.wind.lo, .int .i64 s0.wind.hi, .slice qa1 na1 ca1, .slice qa2 na2 ca2] 59 (0, 0))]) (fun l_16 => []) ?_ ?_
             ·replace hm := h70
              refine g_region ?_
              refine g_val rfl rfl rfl (fun w _ => v_fieldAddr 4 (Try.runUnderlying59 w) rfl (Try.sizeOf57 w) rfl) ?_
              refine g_val rfl rfl rfl (fun w hh => v_load (Try.isAgg57 w) rfl (hh.cell 0 rfl rfl)) ?_
              refine g_val rfl rfl rfl (fun _ _ => v_move rfl) ?_
              obtain ⟨t123, h72, hm⟩ := bindO hm
              refine g_val rfl rfl rfl (fun w _ => v_ixR h72 (Try.runUnderlying57 w) (Try.sizeOf159 w) rfl rfl hna2 hqa2) ?_
              refine g_val rfl rfl rfl (fun w _ => v_fieldAddr 0 (Try.runUnderlying159 w) rfl (Try.sizeOf3 w) rfl) ?_
              refine g_val rfl rfl rfl (fun w hh => v_ldE RS 0 h72 (Try.isAgg3 w) rfl (hh.seg 2 rfl) rfl rfl) ?_
              refine g_val rfl rfl rfl (fun _ _ => v_move rfl) ?_
              obtain ⟨t127, h73, hm⟩ := bindO hm
              refine g_val rfl rfl rfl (fun _ _ => v_subc h73 rfl rfl) ?_
              obtain ⟨t128, h74, hm⟩ := bindO hm
              refine g_callH [] [] rfl rfl rfl rfl rfl rfl rfl (fun a w => Try.call107 a w) (fun w hh => c_laurelref01_off t123.a (-1) t127 w (HV.callee (S0 := []) (vs0 := []) hh roN)  h74) (fun l_17 h75 => ?_)
              refine g_val rfl rfl rfl (fun _ _ => v_move rfl) ?_
              refine g_case 129 rfl (fun h76 => ?_) (fun h76 => ?_)
              ·replace hm := ifT (h76) hm
               refine g_skipG rfl rfl rfl rfl rfl rfl ?_
               refine g_skipG rfl rfl rfl rfl rfl rfl ?_
               refine g_skipG rfl rfl rfl rfl rfl rfl ?_
               refine g_skipG rfl rfl rfl rfl rfl rfl ?_
               refine g_skipG rfl rfl rfl rfl rfl rfl ?_
               refine g_skipG rfl rfl rfl rfl rfl rfl ?_
               refine g_skipG rfl rfl rfl rfl rfl rfl ?_
               refine g_skipG rfl rfl rfl rfl rfl rfl ?_
               refine g_skipG rfl rfl rfl rfl rfl rfl ?_
               refine g_val rfl rfl rfl (fun _ _ => v_pickT rfl rfl) ?_
               refine g_nil ?_
               obtain rfl := Option.some.inj hm
               exact g_leaf () (trivial) ((.cons rfl (.cons rfl (.cons rfl (.cons rfl .nil))))) (fun w hh => hh)
              ·replace hm := ifF ((fun hh => Bool.noConfusion ((h76).symm.trans hh))) hm
               refine v_unguard rfl rfl ?_
               refine g_val rfl rfl rfl (fun w _ => v_fieldAddr 4 (Try.runUnderlying59 w) rfl (Try.sizeOf57 w) rfl) ?_
               refine v_unguard rfl rfl ?_
               refine g_val rfl rfl rfl (fun w hh => v_load (Try.isAgg57 w) rfl (hh.cell 0 rfl rfl)) ?_
               refine v_unguard rfl rfl ?_
               refine g_val rfl rfl rfl (fun _ _ => v_move rfl) ?_
               refine v_unguard rfl rfl ?_
               obtain ⟨t133, h77, hm⟩ := bindO hm
               refine g_val rfl rfl rfl (fun w _ => v_ixR h77 (Try.runUnderlying57 w) (Try.sizeOf159 w) rfl rfl hna2 hqa2) ?_
               refine v_unguard rfl rfl ?_
               refine g_val rfl rfl rfl (fun w _ => v_fieldAddr 1 (Try.runUnderlying159 w) rfl (Try.sizeOf3 w) rfl) ?_
               refine v_unguard rfl rfl ?_
               refine g_val rfl rfl rfl (fun w hh => v_ldE RS 1 h77 (Try.isAgg3 w) rfl (hh.seg 2 rfl) rfl rfl) ?_
               refine v_unguard rfl rfl ?_
               refine g_val rfl rfl rfl (fun _ _ => v_move rfl) ?_
               refine v_unguard rfl rfl ?_
               obtain ⟨t137, h78, hm⟩ := bindO hm
               refine g_val rfl rfl rfl (fun _ _ => v_subc h78 rfl rfl) ?_
               refine v_unguard rfl rfl ?_
               obtain ⟨t138, h79, hm⟩ := bindO hm
               refine g_callH [] [] rfl rfl rfl rfl rfl rfl rfl (fun a w => Try.call107 a w) (fun w hh => c_laurelref01_off t133.b (-1) t137 w (HV.callee (S0 := []) (vs0 := []) hh roN)  h79) (fun l_18 h80 => ?_)
               refine g_val rfl rfl rfl (fun _ _ => v_pickF rfl rfl) ?_
               refine g_nil ?_
               obtain rfl := Option.some.inj hm
               exact g_leaf () (trivial) ((.cons rfl (.cons rfl (.cons rfl (.cons rfl .nil))))) (fun w hh => hh)
             ·intro l_16 hj
              replace hm := h71
              refine g_n_then ?_
              refine g_cond rfl (fun h81 => ?_) (fun h81 => ?_)
              ·replace hm := ifT (h81) hm
               refine g_seq ?_
               refine g_region ?_
               refine g_val rfl rfl rfl (fun _ _ => v_assign rfl) ?_
               refine g_nil ?_
               refine g_n_then ?_
               refine g_ret ?_
               refine g_r_blk ?_
               refine g_r_then ?_
               refine g_r_then ?_
               refine g_r_blk ?_
               obtain rfl := Option.some.inj hm
               have hbo := h68 _ rfl
               subst hbo
               refine g_r_then ?_
               replace hm := ocR h67
               refine g_r_then ?_
               obtain rfl := Option.some.inj hm
               refine g_done rfl (fun w hh => (.tmp rfl .nil)) (fun w hh => ⟨(), rfl, trivial, hh.sel [] [] 3 (by decide) (by decide) rfl rfl rfl⟩)
              ·replace hm := ifF ((fun hh => Bool.noConfusion ((h81).symm.trans hh))) hm
               refine g_skip ?_
               refine g_n_blk ?_
               refine g_n_then ?_
               refine g_region ?_
               refine g_val rfl rfl rfl (fun _ _ => v_move rfl) ?_
               obtain ⟨t119, h82, hm⟩ := bindO hm
               refine g_val rfl rfl rfl (fun _ _ => v_addc h82 rfl rfl) ?_
               refine g_val rfl rfl rfl (fun _ _ => v_assign rfl) ?_
               refine g_nil ?_
               obtain rfl := Option.some.inj hm
               refine g_n_then ?_
               exact g_again' _ () rfl (trivial) ((.cons rfl (.cons rfl (.cons rfl .nil)))) (fun w hh => hh)
            ·replace hm := ifF (of_decide_eq_false h69) hm
             refine g_exit ?_
             refine g_x_then ?_
             refine g_x_then ?_
             refine g_x_blk ?_
             obtain rfl := Option.some.inj hm
             have hbo := h68 _ rfl
             subst hbo
             exact g_leaf () (rfl) ((.cons rfl .nil)) (fun w hh => hh)
           ·intro j_4 hj
            have h83 := hj
            subst h83
            replace hm := ocL h67
            refine g_n_then ?_
            refine g_seq ?_
            refine g_seq ?_
            refine g_region ?_
            refine g_val rfl rfl rfl (fun _ _ => v_assign rfl) ?_
            refine g_nil ?_
            refine g_n_then ?_
            obtain ⟨o_9, h84, h85⟩ := bindO hm
            refine g_cut (ι := Unit) (fun j_5 => o_9 = .inl j_5) (fun j_5 => []) (fun j_5 => [(b, .cells #[.slice qa0 na0 ca0, .int .i64 s0.wind.lo, .int .i64 s0.wind.hi, .slice qa1 na1 ca1, .slice qa2 na2 ca2] 59 (0, 0))]) (fun j_5 => []) ?_ ?_
            ·replace hm := h84
             refine g_block ?_
             refine g_loopF (ι := Unit) hm (fun s_5 l_19 => True) (fun s_5 l_19 => [(1, ptr b 0), (9, .int .i64 s_5)]) (fun s_5 l_19 => [(b, .cells #[.slice qa0 na0 ca0, .int .i64 s0.wind.lo, .int .i64 s0.wind.hi, .slice qa1 na1 ca1, .slice qa2 na2 ca2] 59 (0, 0))]) (fun s_5 l_19 => []) () (trivial) ((.cons rfl (.cons rfl .nil))) (fun w hh => hh) (fun s_5 l_19 r_5 hpl hm h86 => ?_)
             unfold m_laurelref01_Check_L5 at hm
             refine g_seq ?_
             refine g_seq ?_
             refine g_region ?_
             refine g_val rfl rfl rfl (fun _ _ => v_move rfl) ?_
             refine g_val rfl rfl rfl (fun w _ => v_fieldAddr 4 (Try.runUnderlying59 w) rfl (Try.sizeOf57 w) rfl) ?_
             refine g_val rfl rfl rfl (fun w hh => v_load (Try.isAgg57 w) rfl (hh.cell 0 rfl rfl)) ?_
             refine g_val rfl rfl rfl (fun w _ => v_lenR hna2 (Try.runUnderlying57 w) rfl) ?_
             refine g_val rfl rfl rfl (fun _ _ => v_lss rfl rfl) ?_
             refine g_nil ?_
             refine g_n_then ?_
             refine g_cond rfl (fun h87 => ?_) (fun h87 => ?_)
             ·replace hm := ifT (of_decide_eq_true h87) hm
              refine g_skip ?_
              refine g_n_then ?_
              refine g_seq ?_
              refine g_block ?_
              refine g_seq ?_
              refine g_draw none (.free 0 (.hoist 1 (.free 2 (.free 3 (.free 4 (.hoist 5 (.free 6 (.hoist 7 (.free 8 (.free 9 (.free 10 (.hoist 11 (.free 12 .done))))))))))))) _ rfl (by decide +kernel) (fun w k hh => hh.draw k) (fun w hh => hh) ?_
              refine p_free rfl rfl rfl rfl (fun w _ => v_fieldAddr 4 (Try.runUnderlying59 w) rfl (Try.sizeOf57 w) rfl) ?_
              refine p_hoist rfl rfl rfl rfl (fun w hh => v_load (Try.isAgg57 w) rfl (hh.cell 0 rfl rfl)) ?_
              refine p_free rfl rfl rfl rfl (fun _ _ => v_move rfl) ?_
              obtain ⟨t150, h88, hm⟩ := bindO hm
              refine p_free rfl rfl rfl rfl (fun w _ => v_ixR h88 (Try.runUnderlying57 w) (Try.sizeOf159 w) rfl rfl hna2 hqa2) ?_
              refine p_free rfl rfl rfl rfl (fun w _ => v_fieldAddr 0 (Try.runUnderlying159 w) rfl (Try.sizeOf3 w) rfl) ?_
              refine p_hoist rfl rfl rfl rfl (fun w hh => v_ldE RS 0 h88 (Try.isAgg3 w) rfl (hh.seg 2 rfl) rfl rfl) ?_
              refine p_free rfl rfl rfl rfl (fun w _ => v_fieldAddr 4 (Try.runUnderlying59 w) rfl (Try.sizeOf57 w) rfl) ?_
              refine p_hoist rfl rfl rfl rfl (fun w hh => v_load (Try.isAgg57 w) rfl (hh.cell 0 rfl rfl)) ?_
              refine p_free rfl rfl rfl rfl (fun _ _ => v_move rfl) ?_
              obtain ⟨t156, h89, hm⟩ := bindO hm
              refine p_free rfl rfl rfl rfl (fun w _ => v_ixR h89 (Try.runUnderlying57 w) (Try.sizeOf159 w) rfl rfl hna2 hqa2) ?_
              refine p_free rfl rfl rfl rfl (fun w _ => v_fieldAddr 1 (Try.runUnderlying159 w) rfl (Try.sizeOf3 w) rfl) ?_
              refine p_hoist rfl rfl rfl rfl (fun w hh => v_ldE RS 1 h89 (Try.isAgg3 w) rfl (hh.seg 2 rfl) rfl rfl) ?_
              refine p_free rfl rfl rfl rfl (fun _ _ => v_eql rfl rfl) ?_
              refine p_done ?_
              refine g_n_then ?_
              refine g_cond rfl (fun h90 => ?_) (fun h90 => ?_)
              ·replace hm := ifT (of_decide_eq_true h90) hm
               refine g_seq ?_
               refine g_region ?_
               refine g_val rfl rfl rfl (fun _ _ => v_assign rfl) ?_
               refine g_nil ?_
               refine g_n_then ?_
               refine g_ret ?_
               refine g_r_blk ?_
               refine g_r_then ?_
               refine g_r_then ?_
               refine g_r_blk ?_
               obtain rfl := Option.some.inj hm
               have hbo := h86 _ rfl
               subst hbo
               refine g_r_then ?_
               replace hm := ocR h85
               refine g_r_then ?_
               obtain rfl := Option.some.inj hm
               refine g_done rfl (fun w hh => (.tmp rfl .nil)) (fun w hh => ⟨(), rfl, trivial, hh.sel [] [] 3 (by decide) (by decide) rfl rfl rfl⟩)
              ·replace hm := ifF (of_decide_eq_false h90) hm
               refine g_skip ?_
               refine g_n_blk ?_
               refine g_n_then ?_
               refine g_region ?_
               refine g_val rfl rfl rfl (fun _ _ => v_move rfl) ?_
               obtain ⟨t146, h91, hm⟩ := bindO hm
               refine g_val rfl rfl rfl (fun _ _ => v_addc h91 rfl rfl) ?_
               refine g_val rfl rfl rfl (fun _ _ => v_assign rfl) ?_
               refine g_nil ?_
               obtain rfl := Option.some.inj hm
               refine g_n_then ?_
               exact g_again' _ () rfl (trivial) ((.cons rfl (.cons rfl .nil))) (fun w hh => hh)
             ·replace hm := ifF (of_decide_eq_false h87) hm
              refine g_exit ?_
              refine g_x_then ?_
              refine g_x_then ?_
              refine g_x_blk ?_
              obtain rfl := Option.some.inj hm
              have hbo := h86 _ rfl
              subst hbo
              exact g_leaf () (rfl) (.nil) (fun w hh => hh)
            ·intro j_5 hj
             have h92 := hj
             subst h92
             replace hm := ocL h85
             refine g_n_then ?_
             refine g_seq ?_
             refine g_region ?_
             refine g_val rfl rfl rfl (fun _ _ => v_assign rfl) ?_
             refine g_nil ?_
             refine g_n_then ?_
             refine g_ret ?_
             obtain rfl := Option.some.inj hm
             refine g_done rfl (fun w hh => (.tmp rfl .nil)) (fun w hh => ⟨(), rfl, trivial, hh.sel [] [] 3 (by decide) (by decide) rfl rfl rfl⟩)
def m_laurelref01_First (s0 : Sands) : Option Int :=
 (ix s0.table 0).bind fun t5 =>
 some t5.min
set_option maxRecDepth 100000 in
set_option maxHeartbeats 4000000 in
theorem c_laurelref01_First (s0 : Sands) (qa0 : Option Addr) (na0 ca0 : Nat) (qa1 : Option Addr) (na1 ca1 : Nat) (qa2 : Option Addr) (na2 ca2 : Nat) (w : World) (hw : HV w (keys [] []) [] [] [(aB qa0, aO qa0, RW.enc s0.table), (aB qa1, aO qa1, RI.enc s0.floors), (aB qa2, aO qa2, RS.enc s0.sills)] w) (hna0 : s0.table.length = na0) (hqa0 : AOK na0 qa0) (hla0 : na0 ≤ ca0) (hna1 : s0.floors.length = na1) (hqa1 : AOK na1 qa1) (hla1 : na1 ≤ ca1) (hna2 : s0.sills.length = na2) (hqa2 : AOK na2 qa2) (hla2 : na2 ≤ ca2) {res : Int} (hm : m_laurelref01_First s0 = some res) :
    Calls Try.prog 108 #[.agg #[.slice qa0 na0 ca0, .int .i64 s0.wind.lo, .int .i64 s0.wind.hi, .slice qa1 na1 ca1, .slice qa2 na2 ca2]] w (fun en w' => ∃ l : Unit, en = .returned (.int .i64 res) ∧ (True) ∧ HV w (keys [] []) [] [] [] w') := by
  unfold m_laurelref01_First at hm
  refine g_enter (args := [.agg #[.slice qa0 na0 ca0, .int .i64 s0.wind.lo, .int .i64 s0.wind.hi, .slice qa1 na1 ca1, .slice qa2 na2 ca2]]) Try.func108 rfl Try.ntmps108 rfl (e := [(0, _)]) rfl (H := HV w (keys [] []) [] [] [(aB qa0, aO qa0, RW.enc s0.table), (aB qa1, aO qa1, RI.enc s0.floors), (aB qa2, aO qa2, RS.enc s0.sills)]) hw ?_
  refine g_seq ?_
  refine g_region ?_
  refine g_boxV rfl rfl (fun b h1 => ?_)
  refine g_val rfl rfl rfl (fun _ _ => v_assign rfl) ?_
  refine g_nil ?_
  refine g_n_then ?_
  refine g_seq ?_
  refine g_region ?_
  refine g_val rfl rfl rfl (fun w _ => v_fieldAddr 0 (Try.runUnderlying59 w) rfl (Try.sizeOf56 w) rfl) ?_
  refine g_val rfl rfl rfl (fun w hh => v_load (Try.isAgg56 w) rfl (hh.cell 0 rfl rfl)) ?_
  obtain ⟨t5, h2, hm⟩ := bindO hm
  refine g_val rfl rfl rfl (fun w _ => v_ixR h2 (Try.runUnderlying56 w) (Try.sizeOf158 w) rfl rfl hna0 hqa0) ?_
  refine g_val rfl rfl rfl (fun w _ => v_fieldAddr 0 (Try.runUnderlying158 w) rfl (Try.sizeOf3 w) rfl) ?_
  refine g_val rfl rfl rfl (fun w hh => v_ldE RW 0 h2 (Try.isAgg3 w) rfl (hh.seg 0 rfl) rfl rfl) ?_
  refine g_val rfl rfl rfl (fun _ _ => v_assign rfl) ?_
  refine g_nil ?_
  refine g_n_then ?_
  refine g_ret ?_
  obtain rfl := Option.some.inj hm
  refine g_done rfl (fun w hh => (.tmp rfl .nil)) (fun w hh => ⟨(), rfl, trivial, hh.sel [] [] 3 (by decide) (by decide) rfl rfl rfl⟩)
def m_laurelref01_Last (s0 : Sands) : Option Int :=
 (subc (s0.table.length : Int) 1).bind fun t8 =>
 (ix s0.table t8).bind fun t9 =>
 some t9.min
set_option maxRecDepth 100000 in
set_option maxHeartbeats 4000000 in
theorem c_laurelref01_Last (s0 : Sands) (qa0 : Option Addr) (na0 ca0 : Nat) (qa1 : Option Addr) (na1 ca1 : Nat) (qa2 : Option Addr) (na2 ca2 : Nat) (w : World) (hw : HV w (keys [] []) [] [] [(aB qa0, aO qa0, RW.enc s0.table), (aB qa1, aO qa1, RI.enc s0.floors), (aB qa2, aO qa2, RS.enc s0.sills)] w) (hna0 : s0.table.length = na0) (hqa0 : AOK na0 qa0) (hla0 : na0 ≤ ca0) (hna1 : s0.floors.length = na1) (hqa1 : AOK na1 qa1) (hla1 : na1 ≤ ca1) (hna2 : s0.sills.length = na2) (hqa2 : AOK na2 qa2) (hla2 : na2 ≤ ca2) {res : Int} (hm : m_laurelref01_Last s0 = some res) :
    Calls Try.prog 109 #[.agg #[.slice qa0 na0 ca0, .int .i64 s0.wind.lo, .int .i64 s0.wind.hi, .slice qa1 na1 ca1, .slice qa2 na2 ca2]] w (fun en w' => ∃ l : Unit, en = .returned (.int .i64 res) ∧ (True) ∧ HV w (keys [] []) [] [] [] w') := by
  unfold m_laurelref01_Last at hm
  refine g_enter (args := [.agg #[.slice qa0 na0 ca0, .int .i64 s0.wind.lo, .int .i64 s0.wind.hi, .slice qa1 na1 ca1, .slice qa2 na2 ca2]]) Try.func109 rfl Try.ntmps109 rfl (e := [(0, _)]) rfl (H := HV w (keys [] []) [] [] [(aB qa0, aO qa0, RW.enc s0.table), (aB qa1, aO qa1, RI.enc s0.floors), (aB qa2, aO qa2, RS.enc s0.sills)]) hw ?_
  refine g_seq ?_
  refine g_region ?_
  refine g_boxV rfl rfl (fun b h1 => ?_)
  refine g_val rfl rfl rfl (fun _ _ => v_assign rfl) ?_
  refine g_nil ?_
  refine g_n_then ?_
  refine g_seq ?_
  refine g_region ?_
  refine g_val rfl rfl rfl (fun w _ => v_fieldAddr 0 (Try.runUnderlying59 w) rfl (Try.sizeOf56 w) rfl) ?_
  refine g_val rfl rfl rfl (fun w hh => v_load (Try.isAgg56 w) rfl (hh.cell 0 rfl rfl)) ?_
  refine g_val rfl rfl rfl (fun w _ => v_fieldAddr 0 (Try.runUnderlying59 w) rfl (Try.sizeOf56 w) rfl) ?_
  refine g_val rfl rfl rfl (fun w hh => v_load (Try.isAgg56 w) rfl (hh.cell 0 rfl rfl)) ?_
  refine g_val rfl rfl rfl (fun w _ => v_lenR hna0 (Try.runUnderlying56 w) rfl) ?_
  obtain ⟨t8, h2, hm⟩ := bindO hm
  refine g_val rfl rfl rfl (fun _ _ => v_subc h2 rfl rfl) ?_
  obtain ⟨t9, h3, hm⟩ := bindO hm
  refine g_val rfl rfl rfl (fun w _ => v_ixR h3 (Try.runUnderlying56 w) (Try.sizeOf158 w) rfl rfl hna0 hqa0) ?_
  refine g_val rfl rfl rfl (fun w _ => v_fieldAddr 0 (Try.runUnderlying158 w) rfl (Try.sizeOf3 w) rfl) ?_
  refine g_val rfl rfl rfl (fun w hh => v_ldE RW 0 h3 (Try.isAgg3 w) rfl (hh.seg 0 rfl) rfl rfl) ?_
  refine g_val rfl rfl rfl (fun _ _ => v_assign rfl) ?_
  refine g_nil ?_
  refine g_n_then ?_
  refine g_ret ?_
  obtain rfl := Option.some.inj hm
  refine g_done rfl (fun w hh => (.tmp rfl .nil)) (fun w hh => ⟨(), rfl, trivial, hh.sel [] [] 3 (by decide) (by decide) rfl rfl rfl⟩)
def m_laurelref01_Minute (s0 : Sands) (minute1 : Int) : Option Int :=
 (m_laurelref01_First s0).bind fun t7 =>
 (m_laurelref01_Last s0).bind fun t9 =>
 (m_laurelref01_off minute1 t7 t9).bind fun t10 =>
 if t10 = true then
 (some 3) else
 (some 0)
set_option maxRecDepth 100000 in
set_option maxHeartbeats 4000000 in
theorem c_laurelref01_Minute (s0 : Sands) (minute1 : Int) (qa0 : Option Addr) (na0 ca0 : Nat) (qa1 : Option Addr) (na1 ca1 : Nat) (qa2 : Option Addr) (na2 ca2 : Nat) (w : World) (hw : HV w (keys [] []) [] [] [(aB qa0, aO qa0, RW.enc s0.table), (aB qa1, aO qa1, RI.enc s0.floors), (aB qa2, aO qa2, RS.enc s0.sills)] w) (hna0 : s0.table.length = na0) (hqa0 : AOK na0 qa0) (hla0 : na0 ≤ ca0) (hna1 : s0.floors.length = na1) (hqa1 : AOK na1 qa1) (hla1 : na1 ≤ ca1) (hna2 : s0.sills.length = na2) (hqa2 : AOK na2 qa2) (hla2 : na2 ≤ ca2) {res : Int} (hm : m_laurelref01_Minute s0 minute1 = some res) :
    Calls Try.prog 34 #[.agg #[.slice qa0 na0 ca0, .int .i64 s0.wind.lo, .int .i64 s0.wind.hi, .slice qa1 na1 ca1, .slice qa2 na2 ca2], .int .i64 minute1] w (fun en w' => ∃ l : Unit, en = .returned (.int .i64 res) ∧ (True) ∧ HV w (keys [] []) [] [] [] w') := by
  unfold m_laurelref01_Minute at hm
  refine g_enter (args := [.agg #[.slice qa0 na0 ca0, .int .i64 s0.wind.lo, .int .i64 s0.wind.hi, .slice qa1 na1 ca1, .slice qa2 na2 ca2], .int .i64 minute1]) Try.func34 rfl Try.ntmps34 rfl (e := [(0, _), (1, _)]) rfl (H := HV w (keys [] []) [] [] [(aB qa0, aO qa0, RW.enc s0.table), (aB qa1, aO qa1, RI.enc s0.floors), (aB qa2, aO qa2, RS.enc s0.sills)]) hw ?_
  refine g_seq ?_
  refine g_region ?_
  refine g_boxV rfl rfl (fun b h1 => ?_)
  refine g_val rfl rfl rfl (fun _ _ => v_assign rfl) ?_
  refine g_nil ?_
  refine g_n_then ?_
  refine g_seq ?_
  refine g_seq ?_
  refine g_draw none (.free 0 (.hoist 1 (.hoist 3 (.one 2 (.one 4 (.one 5 .done)))))) _ rfl (by decide +kernel) (fun w k hh => hh.draw k) (fun w hh => hh) ?_
  refine p_free rfl rfl rfl rfl (fun _ _ => v_move rfl) ?_
  refine p_hoist rfl rfl rfl rfl (fun w hh => v_loadAgg (vs := [_, _, _, _, _]) (Try.isAgg59 w) (Try.sizeOf59 w) rfl (hh.cells 0 rfl rfl)) ?_
  refine p_hoist rfl rfl rfl rfl (fun w hh => v_loadAgg (vs := [_, _, _, _, _]) (Try.isAgg59 w) (Try.sizeOf59 w) rfl (hh.cells 0 rfl rfl)) ?_
  refine p_one rfl ?_
  obtain ⟨t7, h2, hm⟩ := bindO hm
  refine g_callH [] [] rfl rfl rfl rfl rfl rfl rfl (fun a w => Try.call108 a w) (fun w hh => c_laurelref01_First s0 qa0 na0 ca0 qa1 na1 ca1 qa2 na2 ca2 w (HV.callee (S0 := []) (vs0 := []) hh (roC (hh.rsep (S0 := []) (vs0 := []) 0 rfl) (roC (hh.rsep (S0 := []) (vs0 := []) 1 rfl) (roC (hh.rsep (S0 := []) (vs0 := []) 2 rfl) roN)))) hna0 hqa0 hla0 hna1 hqa1 hla1 hna2 hqa2 hla2 h2) (fun l h3 => ?_)
  refine p_next (fun w hh => hh) ?_
  refine p_one rfl ?_
  obtain ⟨t9, h4, hm⟩ := bindO hm
  refine g_callH [] [] rfl rfl rfl rfl rfl rfl rfl (fun a w => Try.call109 a w) (fun w hh => c_laurelref01_Last s0 qa0 na0 ca0 qa1 na1 ca1 qa2 na2 ca2 w (HV.callee (S0 := []) (vs0 := []) hh (roC (hh.rsep (S0 := []) (vs0 := []) 0 rfl) (roC (hh.rsep (S0 := []) (vs0 := []) 1 rfl) (roC (hh.rsep (S0 := []) (vs0 := []) 2 rfl) roN)))) hna0 hqa0 hla0 hna1 hqa1 hla1 hna2 hqa2 hla2 h4) (fun l_1 h5 => ?_)
  refine p_next (fun w hh => hh) ?_
  refine p_one rfl ?_
  obtain ⟨t10, h6, hm⟩ := bindO hm
  refine g_callH [] [] rfl rfl rfl rfl rfl rfl rfl (fun a w => Try.call107 a w) (fun w hh => c_laurelref01_off minute1 t7 t9 w (HV.callee (S0 := []) (vs0 := []) hh roN)  h6) (fun l_2 h7 => ?_)
  refine p_next (fun w hh => hh) ?_
  refine p_done ?_
  refine g_n_then ?_
  refine g_cond rfl (fun h8 => ?_) (fun h8 => ?_)
  ·replace hm := ifT (h8) hm
   refine g_seq ?_
   refine g_region ?_
   refine g_val rfl rfl rfl (fun _ _ => v_assign rfl) ?_
   refine g_nil ?_
   refine g_n_then ?_
   refine g_ret ?_
   refine g_r_then ?_
   obtain rfl := Option.some.inj hm
   refine g_done rfl (fun w hh => (.tmp rfl .nil)) (fun w hh => ⟨(), rfl, trivial, hh.sel [] [] 3 (by decide) (by decide) rfl rfl rfl⟩)
  ·replace hm := ifF ((fun hh => Bool.noConfusion ((h8).symm.trans hh))) hm
   refine g_skip ?_
   refine g_n_then ?_
   refine g_seq ?_
   refine g_region ?_
   refine g_val rfl rfl rfl (fun _ _ => v_assign rfl) ?_
   refine g_nil ?_
   refine g_n_then ?_
   refine g_ret ?_
   obtain rfl := Option.some.inj hm
   refine g_done rfl (fun w hh => (.tmp rfl .nil)) (fun w hh => ⟨(), rfl, trivial, hh.sel [] [] 3 (by decide) (by decide) rfl rfl rfl⟩)
def m_laurelref01_Height_L0 (s0 : Sands) (minute1 : Int) (s : Int) : Option (Int ⊕ (Unit ⊕ Int)) :=
 if s < (s0.table.length : Int) then
 ((ix s0.table s).bind fun t20 =>
 if t20.min = minute1 then
 ((ix s0.table s).bind fun t28 =>
 some (.inr (.inr t28.h))) else
 ((addc s 1).bind fun t16 =>
 some (.inl t16))) else
 (some (.inr (.inl ())))
def m_laurelref01_Height_L1 (s0 : Sands) (minute1 : Int) (s_1 : Int) : Option (Int ⊕ Int) :=
 (addc s_1 1).bind fun t34 =>
 (ix s0.table t34).bind fun t35 =>
 if t35.min < minute1 then
 ((addc s_1 1).bind fun t41 =>
 some (.inl t41)) else
 (some (.inr s_1))
structure m_laurelref01_Height_C2 where
  a7 : Water
  b8 : Water
def m_laurelref01_Height_L2 (o_2 : m_laurelref01_Height_C2) (minute1 : Int) (s_2 : Int) : Option (Int ⊕ Int) :=
 (addc s_2 1).bind fun t59 =>
 (subc t59 o_2.a7.h).bind fun t62 =>
 (subc o_2.b8.min o_2.a7.min).bind fun t67 =>
 (mulc t62 t67).bind fun t68 =>
 (subc o_2.b8.h o_2.a7.h).bind fun t73 =>
 (subc minute1 o_2.a7.min).bind fun t77 =>
 (mulc t73 t77).bind fun t78 =>
 if t68 ≤ t78 then
 ((addc s_2 1).bind fun t81 =>
 some (.inl t81)) else
 (some (.inr s_2))
def m_laurelref01_Height (s0 : Sands) (minute1 : Int) : Option Int :=
 (iterM FU (m_laurelref01_Height_L0 s0 minute1) 0).bind fun o =>
 oc o (fun j => (iterM FU (m_laurelref01_Height_L1 s0 minute1) 0).bind fun o_1 =>
 ((ix s0.table o_1).bind fun t45 =>
 (addc o_1 1).bind fun t50 =>
 (ix s0.table t50).bind fun t51 =>
 some (⟨(⟨t45.min, t45.h⟩ : Water), t51⟩ : m_laurelref01_Height_C2)).bind fun o_2 =>
 (iterM FU (m_laurelref01_Height_L2 o_2 minute1) (min o_2.a7.h o_2.b8.h)).bind fun o_3 =>
 some o_3) (fun r_3 => some r_3)
set_option maxRecDepth 100000 in
set_option maxHeartbeats 4000000 in
theorem c_laurelref01_Height (s0 : Sands) (minute1 : Int) (qa0 : Option Addr) (na0 ca0 : Nat) (qa1 : Option Addr) (na1 ca1 : Nat) (qa2 : Option Addr) (na2 ca2 : Nat) (w : World) (hw : HV w (keys [] []) [] [] [(aB qa0, aO qa0, RW.enc s0.table), (aB qa1, aO qa1, RI.enc s0.floors), (aB qa2, aO qa2, RS.enc s0.sills)] w) (hna0 : s0.table.length = na0) (hqa0 : AOK na0 qa0) (hla0 : na0 ≤ ca0) (hna1 : s0.floors.length = na1) (hqa1 : AOK na1 qa1) (hla1 : na1 ≤ ca1) (hna2 : s0.sills.length = na2) (hqa2 : AOK na2 qa2) (hla2 : na2 ≤ ca2) {res : Int} (hm : m_laurelref01_Height s0 minute1 = some res) :
    Calls Try.prog 35 #[.agg #[.slice qa0 na0 ca0, .int .i64 s0.wind.lo, .int .i64 s0.wind.hi, .slice qa1 na1 ca1, .slice qa2 na2 ca2], .int .i64 minute1] w (fun en w' => ∃ l : Unit, en = .returned (.int .i64 res) ∧ (True) ∧ HV w (keys [] []) [] [] [] w') := by
  unfold m_laurelref01_Height at hm
  refine g_enter (args := [.agg #[.slice qa0 na0 ca0, .int .i64 s0.wind.lo, .int .i64 s0.wind.hi, .slice qa1 na1 ca1, .slice qa2 na2 ca2], .int .i64 minute1]) Try.func35 rfl Try.ntmps35 rfl (e := [(0, _), (1, _)]) rfl (H := HV w (keys [] []) [] [] [(aB qa0, aO qa0, RW.enc s0.table), (aB qa1, aO qa1, RI.enc s0.floors), (aB qa2, aO qa2, RS.enc s0.sills)]) hw ?_
  refine g_seq ?_
  refine g_region ?_
  refine g_boxV rfl rfl (fun b h1 => ?_)
  refine g_val rfl rfl rfl (fun _ _ => v_assign rfl) ?_
  refine g_nil ?_
  refine g_n_then ?_
  refine g_seq ?_
  refine g_seq ?_
  refine g_region ?_
  refine g_val rfl rfl rfl (fun _ _ => v_assign rfl) ?_
  refine g_nil ?_
  refine g_n_then ?_
  obtain ⟨o, h2, h3⟩ := bindO hm
  refine g_cut (ι := Unit) (fun j => o = .inl j) (fun j => [(1, .int .i64 minute1), (2, ptr b 0)]) (fun j => [(b, .cells #[.slice qa0 na0 ca0, .int .i64 s0.wind.lo, .int .i64 s0.wind.hi, .slice qa1 na1 ca1, .slice qa2 na2 ca2] 59 (0, 0))]) (fun j => []) ?_ ?_
  ·replace hm := h2
   refine g_block ?_
   refine g_loopF (ι := Unit) hm (fun s l => True) (fun s l => [(1, .int .i64 minute1), (2, ptr b 0), (5, .int .i64 s)]) (fun s l => [(b, .cells #[.slice qa0 na0 ca0, .int .i64 s0.wind.lo, .int .i64 s0.wind.hi, .slice qa1 na1 ca1, .slice qa2 na2 ca2] 59 (0, 0))]) (fun s l => []) () (trivial) ((.cons rfl (.cons rfl (.cons rfl .nil)))) (fun w hh => hh) (fun s l r hpl hm h4 => ?_)
   unfold m_laurelref01_Height_L0 at hm
   refine g_seq ?_
   refine g_seq ?_
   refine g_region ?_
   refine g_val rfl rfl rfl (fun _ _ => v_move rfl) ?_
   refine g_val rfl rfl rfl (fun w _ => v_fieldAddr 0 (Try.runUnderlying59 w) rfl (Try.sizeOf56 w) rfl) ?_
   refine g_val rfl rfl rfl (fun w hh => v_load (Try.isAgg56 w) rfl (hh.cell 0 rfl rfl)) ?_
   refine g_val rfl rfl rfl (fun w _ => v_lenR hna0 (Try.runUnderlying56 w) rfl) ?_
   refine g_val rfl rfl rfl (fun _ _ => v_lss rfl rfl) ?_
   refine g_nil ?_
   refine g_n_then ?_
   refine g_cond rfl (fun h5 => ?_) (fun h5 => ?_)
   ·replace hm := ifT (of_decide_eq_true h5) hm
    refine g_skip ?_
    refine g_n_then ?_
    refine g_seq ?_
    refine g_block ?_
    refine g_seq ?_
    refine g_region ?_
    refine g_val rfl rfl rfl (fun w _ => v_fieldAddr 0 (Try.runUnderlying59 w) rfl (Try.sizeOf56 w) rfl) ?_
    refine g_val rfl rfl rfl (fun w hh => v_load (Try.isAgg56 w) rfl (hh.cell 0 rfl rfl)) ?_
    refine g_val rfl rfl rfl (fun _ _ => v_move rfl) ?_
    obtain ⟨t20, h6, hm⟩ := bindO hm
    refine g_val rfl rfl rfl (fun w _ => v_ixR h6 (Try.runUnderlying56 w) (Try.sizeOf158 w) rfl rfl hna0 hqa0) ?_
    refine g_val rfl rfl rfl (fun w _ => v_fieldAddr 0 (Try.runUnderlying158 w) rfl (Try.sizeOf3 w) rfl) ?_
    refine g_val rfl rfl rfl (fun w hh => v_ldE RW 0 h6 (Try.isAgg3 w) rfl (hh.seg 0 rfl) rfl rfl) ?_
    refine g_val rfl rfl rfl (fun _ _ => v_move rfl) ?_
    refine g_val rfl rfl rfl (fun _ _ => v_eql rfl rfl) ?_
    refine g_nil ?_
    refine g_n_then ?_
    refine g_cond rfl (fun h7 => ?_) (fun h7 => ?_)
    ·replace hm := ifT (of_decide_eq_true h7) hm
     refine g_seq ?_
     refine g_region ?_
     refine g_val rfl rfl rfl (fun w _ => v_fieldAddr 0 (Try.runUnderlying59 w) rfl (Try.sizeOf56 w) rfl) ?_
     refine g_val rfl rfl rfl (fun w hh => v_load (Try.isAgg56 w) rfl (hh.cell 0 rfl rfl)) ?_
     refine g_val rfl rfl rfl (fun _ _ => v_move rfl) ?_
     obtain ⟨t28, h8, hm⟩ := bindO hm
     refine g_val rfl rfl rfl (fun w _ => v_ixR h8 (Try.runUnderlying56 w) (Try.sizeOf158 w) rfl rfl hna0 hqa0) ?_
     refine g_val rfl rfl rfl (fun w _ => v_fieldAddr 1 (Try.runUnderlying158 w) rfl (Try.sizeOf3 w) rfl) ?_
     refine g_val rfl rfl rfl (fun w hh => v_ldE RW 1 h8 (Try.isAgg3 w) rfl (hh.seg 0 rfl) rfl rfl) ?_
     refine g_val rfl rfl rfl (fun _ _ => v_assign rfl) ?_
     refine g_nil ?_
     refine g_n_then ?_
     refine g_ret ?_
     refine g_r_blk ?_
     refine g_r_then ?_
     refine g_r_then ?_
     refine g_r_blk ?_
     obtain rfl := Option.some.inj hm
     have hbo := h4 _ rfl
     subst hbo
     refine g_r_then ?_
     replace hm := ocR h3
     refine g_r_then ?_
     obtain rfl := Option.some.inj hm
     refine g_done rfl (fun w hh => (.tmp rfl .nil)) (fun w hh => ⟨(), rfl, trivial, hh.sel [] [] 3 (by decide) (by decide) rfl rfl rfl⟩)
    ·replace hm := ifF (of_decide_eq_false h7) hm
     refine g_skip ?_
     refine g_n_blk ?_
     refine g_n_then ?_
     refine g_region ?_
     refine g_val rfl rfl rfl (fun _ _ => v_move rfl) ?_
     obtain ⟨t16, h9, hm⟩ := bindO hm
     refine g_val rfl rfl rfl (fun _ _ => v_addc h9 rfl rfl) ?_
     refine g_val rfl rfl rfl (fun _ _ => v_assign rfl) ?_
     refine g_nil ?_
     obtain rfl := Option.some.inj hm
     refine g_n_then ?_
     exact g_again' _ () rfl (trivial) ((.cons rfl (.cons rfl (.cons rfl .nil)))) (fun w hh => hh)
   ·replace hm := ifF (of_decide_eq_false h5) hm
    refine g_exit ?_
    refine g_x_then ?_
    refine g_x_then ?_
    refine g_x_blk ?_
    obtain rfl := Option.some.inj hm
    have hbo := h4 _ rfl
    subst hbo
    exact g_leaf () (rfl) ((.cons rfl (.cons rfl .nil))) (fun w hh => hh)
  ·intro j hj
   have h10 := hj
   subst h10
   replace hm := ocL h3
   refine g_n_then ?_
   refine g_seq ?_
   refine g_region ?_
   refine g_val rfl rfl rfl (fun _ _ => v_assign rfl) ?_
   refine g_nil ?_
   refine g_n_then ?_
   refine g_seq ?_
   obtain ⟨o_1, h11, h12⟩ := bindO hm
   refine g_cut (ι := Unit) (fun l_1 => True) (fun l_1 => [(1, .int .i64 minute1), (2, ptr b 0), (6, .int .i64 o_1)]) (fun l_1 => [(b, .cells #[.slice qa0 na0 ca0, .int .i64 s0.wind.lo, .int .i64 s0.wind.hi, .slice qa1 na1 ca1, .slice qa2 na2 ca2] 59 (0, 0))]) (fun l_1 => []) ?_ ?_
   ·replace hm := h11
    refine g_block ?_
    refine g_loopF (ι := Unit) hm (fun s_1 l_2 => True) (fun s_1 l_2 => [(1, .int .i64 minute1), (2, ptr b 0), (6, .int .i64 s_1)]) (fun s_1 l_2 => [(b, .cells #[.slice qa0 na0 ca0, .int .i64 s0.wind.lo, .int .i64 s0.wind.hi, .slice qa1 na1 ca1, .slice qa2 na2 ca2] 59 (0, 0))]) (fun s_1 l_2 => []) () (trivial) ((.cons rfl (.cons rfl (.cons rfl .nil)))) (fun w hh => hh) (fun s_1 l_2 r_1 hpl hm h13 => ?_)
    unfold m_laurelref01_Height_L1 at hm
    refine g_seq ?_
    refine g_seq ?_
    refine g_region ?_
    refine g_val rfl rfl rfl (fun w _ => v_fieldAddr 0 (Try.runUnderlying59 w) rfl (Try.sizeOf56 w) rfl) ?_
    refine g_val rfl rfl rfl (fun w hh => v_load (Try.isAgg56 w) rfl (hh.cell 0 rfl rfl)) ?_
    refine g_val rfl rfl rfl (fun _ _ => v_move rfl) ?_
    obtain ⟨t34, h14, hm⟩ := bindO hm
    refine g_val rfl rfl rfl (fun _ _ => v_addc h14 rfl rfl) ?_
    obtain ⟨t35, h15, hm⟩ := bindO hm
    refine g_val rfl rfl rfl (fun w _ => v_ixR h15 (Try.runUnderlying56 w) (Try.sizeOf158 w) rfl rfl hna0 hqa0) ?_
    refine g_val rfl rfl rfl (fun w _ => v_fieldAddr 0 (Try.runUnderlying158 w) rfl (Try.sizeOf3 w) rfl) ?_
    refine g_val rfl rfl rfl (fun w hh => v_ldE RW 0 h15 (Try.isAgg3 w) rfl (hh.seg 0 rfl) rfl rfl) ?_
    refine g_val rfl rfl rfl (fun _ _ => v_move rfl) ?_
    refine g_val rfl rfl rfl (fun _ _ => v_lss rfl rfl) ?_
    refine g_nil ?_
    refine g_n_then ?_
    refine g_cond rfl (fun h16 => ?_) (fun h16 => ?_)
    ·replace hm := ifT (of_decide_eq_true h16) hm
     refine g_skip ?_
     refine g_n_then ?_
     refine g_block ?_
     refine g_region ?_
     refine g_val rfl rfl rfl (fun _ _ => v_move rfl) ?_
     obtain ⟨t41, h17, hm⟩ := bindO hm
     refine g_val rfl rfl rfl (fun _ _ => v_addc h17 rfl rfl) ?_
     refine g_val rfl rfl rfl (fun _ _ => v_assign rfl) ?_
     refine g_nil ?_
     refine g_n_blk ?_
     obtain rfl := Option.some.inj hm
     refine g_n_then ?_
     exact g_again' _ () rfl (trivial) ((.cons rfl (.cons rfl (.cons rfl .nil)))) (fun w hh => hh)
    ·replace hm := ifF (of_decide_eq_false h16) hm
     refine g_exit ?_
     refine g_x_then ?_
     refine g_x_then ?_
     refine g_x_blk ?_
     obtain rfl := Option.some.inj hm
     have hbo := h13 _ rfl
     subst hbo
     exact g_leaf () (trivial) ((.cons rfl (.cons rfl (.cons rfl .nil)))) (fun w hh => hh)
   ·intro l_1 hj
    replace hm := h12
    refine g_n_then ?_
    refine g_seq ?_
    obtain ⟨o_2, h18, h19⟩ := bindO hm
    refine g_cut (ι := Nat × Nat) (fun l_3 => True) (fun l_3 => [(1, .int .i64 minute1), (7, ptr l_3.1 0), (8, ptr l_3.2 0)]) (fun l_3 => [(b, .cells #[.slice qa0 na0 ca0, .int .i64 s0.wind.lo, .int .i64 s0.wind.hi, .slice qa1 na1 ca1, .slice qa2 na2 ca2] 59 (0, 0)), (l_3.1, .cells #[.int .i64 o_2.a7.min, .int .i64 o_2.a7.h] 158 (0, 0)), (l_3.2, .cells #[.int .i64 o_2.b8.min, .int .i64 o_2.b8.h] 158 (0, 0))]) (fun l_3 => []) ?_ ?_
    ·replace hm := h18
     obtain ⟨t45, h20, hm⟩ := bindO hm
     obtain ⟨t50, h21, hm⟩ := bindO hm
     obtain ⟨t51, h22, hm⟩ := bindO hm
     refine g_draw none (.free 0 (.hoist 1 (.free 2 (.free 3 (.hoist 4 (.free 5 (.hoist 6 (.free 7 (.free 8 (.free 9 (.hoist 10 (.br (.alt 11 (.one 12 (.one 13 (.one 14 .done))) (.alt 12 (.one 11 (.one 13 (.one 14 .done))) .nil)))))))))))))) _ rfl (by decide +kernel) (fun w k hh => hh.draw k) (fun w hh => hh) ?_
     refine p_free rfl rfl rfl rfl (fun w _ => v_fieldAddr 0 (Try.runUnderlying59 w) rfl (Try.sizeOf56 w) rfl) ?_
     refine p_hoist rfl rfl rfl rfl (fun w hh => v_load (Try.isAgg56 w) rfl (hh.cell 0 rfl rfl)) ?_
     refine p_free rfl rfl rfl rfl (fun _ _ => v_move rfl) ?_
     refine p_free rfl rfl rfl rfl (fun w _ => v_ixR h20 (Try.runUnderlying56 w) (Try.sizeOf158 w) rfl rfl hna0 hqa0) ?_
     refine p_hoist rfl rfl rfl rfl (fun w hh => v_ldEA RW 0 [.int .i64 t45.min, .int .i64 t45.h] h20 (Try.isAgg158 w) (Try.sizeOf158 w) rfl (hh.seg 0 rfl) rfl (Nat.add_zero _).symm) ?_
     refine p_free rfl rfl rfl rfl (fun w _ => v_fieldAddr 0 (Try.runUnderlying59 w) rfl (Try.sizeOf56 w) rfl) ?_
     refine p_hoist rfl rfl rfl rfl (fun w hh => v_load (Try.isAgg56 w) rfl (hh.cell 0 rfl rfl)) ?_
     refine p_free rfl rfl rfl rfl (fun _ _ => v_move rfl) ?_
     refine p_free rfl rfl rfl rfl (fun _ _ => v_addc h21 rfl rfl) ?_
     refine p_free rfl rfl rfl rfl (fun w _ => v_ixR h22 (Try.runUnderlying56 w) (Try.sizeOf158 w) rfl rfl hna0 hqa0) ?_
     refine p_hoist rfl rfl rfl rfl (fun w hh => v_ldEA RW 0 [.int .i64 t51.min, .int .i64 t51.h] h22 (Try.isAgg158 w) (Try.sizeOf158 w) rfl (hh.seg 0 rfl) rfl (Nat.add_zero _).symm) ?_
     refine p_br ?_
     refine p_alt rfl ?_ ?_
     ·refine g_allocV (fun w => Try.zeroValue158 w) rfl (fun b_1 h23 => ?_)
      refine p_next (fun w hh => hh.sel [1] [] 0 (by decide) (by decide) rfl rfl rfl) ?_
      refine p_one rfl ?_
      refine g_allocV (fun w => Try.zeroValue158 w) rfl (fun b_2 h24 => ?_)
      refine p_next (fun w hh => hh.sel [2] [] 0 (by decide) (by decide) rfl rfl rfl) ?_
      refine p_one rfl ?_
      refine g_stSA (us := #[_, _]) (cs' := [_, _]) (S' := [_, _, _]) 1 (fun w => Try.sizeOf158 w) rfl rfl rfl rfl rfl rfl rfl ?_
      refine p_next (fun w hh => hh.sel [2] [] 0 (by decide) (by decide) rfl rfl rfl) ?_
      refine p_one rfl ?_
      refine g_stSA (us := #[_, _]) (cs' := [_, _]) (S' := [_, _, _]) 0 (fun w => Try.sizeOf158 w) rfl rfl rfl rfl rfl rfl rfl ?_
      refine p_next (fun w hh => hh.sel [2] [] 0 (by decide) (by decide) rfl rfl rfl) ?_
      refine p_done ?_
      obtain rfl := Option.some.inj hm
      exact g_leaf (b_1, b_2) (trivial) ((.cons rfl (.cons rfl (.cons rfl .nil)))) (fun w hh => hh.sel [2, 1, 0] [] 0 (by decide) (by decide) rfl rfl rfl)
     refine p_alt rfl ?_ ?_
     ·refine g_allocV (fun w => Try.zeroValue158 w) rfl (fun b_3 h25 => ?_)
      refine p_next (fun w hh => hh.sel [1] [] 0 (by decide) (by decide) rfl rfl rfl) ?_
      refine p_one rfl ?_
      refine g_allocV (fun w => Try.zeroValue158 w) rfl (fun b_4 h26 => ?_)
      refine p_next (fun w hh => hh.sel [2] [] 0 (by decide) (by decide) rfl rfl rfl) ?_
      refine p_one rfl ?_
      refine g_stSA (us := #[_, _]) (cs' := [_, _]) (S' := [_, _, _]) 0 (fun w => Try.sizeOf158 w) rfl rfl rfl rfl rfl rfl rfl ?_
      refine p_next (fun w hh => hh.sel [2] [] 0 (by decide) (by decide) rfl rfl rfl) ?_
      refine p_one rfl ?_
      refine g_stSA (us := #[_, _]) (cs' := [_, _]) (S' := [_, _, _]) 1 (fun w => Try.sizeOf158 w) rfl rfl rfl rfl rfl rfl rfl ?_
      refine p_next (fun w hh => hh.sel [2] [] 0 (by decide) (by decide) rfl rfl rfl) ?_
      refine p_done ?_
      obtain rfl := Option.some.inj hm
      exact g_leaf (b_4, b_3) (trivial) ((.cons rfl (.cons rfl (.cons rfl .nil)))) (fun w hh => hh.sel [2, 0, 1] [] 0 (by decide) (by decide) rfl rfl rfl)
     exact p_nil
    ·intro l_3 hj
     replace hm := h19
     refine g_n_then ?_
     refine g_seq ?_
     refine g_region ?_
     refine g_val rfl rfl rfl (fun w _ => v_fieldAddr 1 (Try.runUnderlying158 w) rfl (Try.sizeOf3 w) rfl) ?_
     refine g_val rfl rfl rfl (fun w hh => v_load (Try.isAgg3 w) rfl (hh.cell 1 rfl rfl)) ?_
     refine g_val rfl rfl rfl (fun w _ => v_fieldAddr 1 (Try.runUnderlying158 w) rfl (Try.sizeOf3 w) rfl) ?_
     refine g_val rfl rfl rfl (fun w hh => v_load (Try.isAgg3 w) rfl (hh.cell 2 rfl rfl)) ?_
     refine g_val rfl rfl rfl (fun _ _ => v_min rfl rfl) ?_
     refine g_val rfl rfl rfl (fun _ _ => v_assign rfl) ?_
     refine g_nil ?_
     refine g_n_then ?_
     refine g_seq ?_
     obtain ⟨o_3, h27, h28⟩ := bindO hm
     refine g_cut (ι := Unit) (fun l_4 => True) (fun l_4 => [(9, .int .i64 o_3)]) (fun l_4 => [(b, .cells #[.slice qa0 na0 ca0, .int .i64 s0.wind.lo, .int .i64 s0.wind.hi, .slice qa1 na1 ca1, .slice qa2 na2 ca2] 59 (0, 0)), (l_3.1, .cells #[.int .i64 o_2.a7.min, .int .i64 o_2.a7.h] 158 (0, 0)), (l_3.2, .cells #[.int .i64 o_2.b8.min, .int .i64 o_2.b8.h] 158 (0, 0))]) (fun l_4 => []) ?_ ?_
     ·replace hm := h27
      refine g_block ?_
      refine g_loopF (ι := Unit) hm (fun s_2 l_5 => True) (fun s_2 l_5 => [(1, .int .i64 minute1), (7, ptr l_3.1 0), (8, ptr l_3.2 0), (9, .int .i64 s_2)]) (fun s_2 l_5 => [(b, .cells #[.slice qa0 na0 ca0, .int .i64 s0.wind.lo, .int .i64 s0.wind.hi, .slice qa1 na1 ca1, .slice qa2 na2 ca2] 59 (0, 0)), (l_3.1, .cells #[.int .i64 o_2.a7.min, .int .i64 o_2.a7.h] 158 (0, 0)), (l_3.2, .cells #[.int .i64 o_2.b8.min, .int .i64 o_2.b8.h] 158 (0, 0))]) (fun s_2 l_5 => []) () (trivial) ((.cons rfl (.cons rfl (.cons rfl (.cons rfl .nil))))) (fun w hh => hh) (fun s_2 l_5 r_2 hpl hm h29 => ?_)
      unfold m_laurelref01_Height_L2 at hm
      refine g_seq ?_
      refine g_seq ?_
      refine g_region ?_
      refine g_val rfl rfl rfl (fun _ _ => v_move rfl) ?_
      obtain ⟨t59, h30, hm⟩ := bindO hm
      refine g_val rfl rfl rfl (fun _ _ => v_addc h30 rfl rfl) ?_
      refine g_val rfl rfl rfl (fun w _ => v_fieldAddr 1 (Try.runUnderlying158 w) rfl (Try.sizeOf3 w) rfl) ?_
      refine g_val rfl rfl rfl (fun w hh => v_load (Try.isAgg3 w) rfl (hh.cell 1 rfl rfl)) ?_
      obtain ⟨t62, h31, hm⟩ := bindO hm
      refine g_val rfl rfl rfl (fun _ _ => v_subc h31 rfl rfl) ?_
      refine g_val rfl rfl rfl (fun w _ => v_fieldAddr 0 (Try.runUnderlying158 w) rfl (Try.sizeOf3 w) rfl) ?_
      refine g_val rfl rfl rfl (fun w hh => v_load (Try.isAgg3 w) rfl (hh.cell 2 rfl rfl)) ?_
      refine g_val rfl rfl rfl (fun w _ => v_fieldAddr 0 (Try.runUnderlying158 w) rfl (Try.sizeOf3 w) rfl) ?_
      refine g_val rfl rfl rfl (fun w hh => v_load (Try.isAgg3 w) rfl (hh.cell 1 rfl rfl)) ?_
      obtain ⟨t67, h32, hm⟩ := bindO hm
      refine g_val rfl rfl rfl (fun _ _ => v_subc h32 rfl rfl) ?_
      obtain ⟨t68, h33, hm⟩ := bindO hm
      refine g_val rfl rfl rfl (fun _ _ => v_mulc h33 rfl rfl) ?_
      refine g_val rfl rfl rfl (fun w _ => v_fieldAddr 1 (Try.runUnderlying158 w) rfl (Try.sizeOf3 w) rfl) ?_
      refine g_val rfl rfl rfl (fun w hh => v_load (Try.isAgg3 w) rfl (hh.cell 2 rfl rfl)) ?_
      refine g_val rfl rfl rfl (fun w _ => v_fieldAddr 1 (Try.runUnderlying158 w) rfl (Try.sizeOf3 w) rfl) ?_
      refine g_val rfl rfl rfl (fun w hh => v_load (Try.isAgg3 w) rfl (hh.cell 1 rfl rfl)) ?_
      obtain ⟨t73, h34, hm⟩ := bindO hm
      refine g_val rfl rfl rfl (fun _ _ => v_subc h34 rfl rfl) ?_
      refine g_val rfl rfl rfl (fun _ _ => v_move rfl) ?_
      refine g_val rfl rfl rfl (fun w _ => v_fieldAddr 0 (Try.runUnderlying158 w) rfl (Try.sizeOf3 w) rfl) ?_
      refine g_val rfl rfl rfl (fun w hh => v_load (Try.isAgg3 w) rfl (hh.cell 1 rfl rfl)) ?_
      obtain ⟨t77, h35, hm⟩ := bindO hm
      refine g_val rfl rfl rfl (fun _ _ => v_subc h35 rfl rfl) ?_
      obtain ⟨t78, h36, hm⟩ := bindO hm
      refine g_val rfl rfl rfl (fun _ _ => v_mulc h36 rfl rfl) ?_
      refine g_val rfl rfl rfl (fun _ _ => v_leq rfl rfl) ?_
      refine g_nil ?_
      refine g_n_then ?_
      refine g_cond rfl (fun h37 => ?_) (fun h37 => ?_)
      ·replace hm := ifT (of_decide_eq_true h37) hm
       refine g_skip ?_
       refine g_n_then ?_
       refine g_block ?_
       refine g_region ?_
       refine g_val rfl rfl rfl (fun _ _ => v_move rfl) ?_
       obtain ⟨t81, h38, hm⟩ := bindO hm
       refine g_val rfl rfl rfl (fun _ _ => v_addc h38 rfl rfl) ?_
       refine g_val rfl rfl rfl (fun _ _ => v_assign rfl) ?_
       refine g_nil ?_
       refine g_n_blk ?_
       obtain rfl := Option.some.inj hm
       refine g_n_then ?_
       exact g_again' _ () rfl (trivial) ((.cons rfl (.cons rfl (.cons rfl (.cons rfl .nil))))) (fun w hh => hh)
      ·replace hm := ifF (of_decide_eq_false h37) hm
       refine g_exit ?_
       refine g_x_then ?_
       refine g_x_then ?_
       refine g_x_blk ?_
       obtain rfl := Option.some.inj hm
       have hbo := h29 _ rfl
       subst hbo
       exact g_leaf () (trivial) ((.cons rfl .nil)) (fun w hh => hh)
     ·intro l_4 hj
      replace hm := h28
      refine g_n_then ?_
      refine g_seq ?_
      refine g_region ?_
      refine g_val rfl rfl rfl (fun _ _ => v_move rfl) ?_
      refine g_val rfl rfl rfl (fun _ _ => v_assign rfl) ?_
      refine g_nil ?_
      refine g_n_then ?_
      refine g_ret ?_
      obtain rfl := Option.some.inj hm
      refine g_done rfl (fun w hh => (.tmp rfl .nil)) (fun w hh => ⟨(), rfl, trivial, hh.sel [] [] 3 (by decide) (by decide) rfl rfl rfl⟩)
def m_slices_Equal_tideWatertideWater_L0 (s10 : (List Water)) (s21 : (List Water)) (s : Int) : Option (Int ⊕ (Unit ⊕ Bool)) :=
 if s < (s10.length : Int) then
 ((ix s10 s).bind fun t18 =>
 (ix s21 s).bind fun t22 =>
 if t18 = t22 then
 ((addc s 1).bind fun t25 =>
 some (.inl t25)) else
 (some (.inr (.inr false)))) else
 (some (.inr (.inl ())))
def m_slices_Equal_tideWatertideWater (s10 : (List Water)) (s21 : (List Water)) : Option Bool :=
 if (s10.length : Int) = (s21.length : Int) then
 ((iterM FU (m_slices_Equal_tideWatertideWater_L0 s10 s21) 0).bind fun o =>
 oc o (fun j => some true) (fun r_1 => some r_1)) else
 (some false)
set_option maxRecDepth 100000 in
set_option maxHeartbeats 4000000 in
theorem c_slices_Equal_tideWatertideWater (s10 : (List Water)) (s21 : (List Water)) (qa0 : Option Addr) (na0 ca0 : Nat) (qa1 : Option Addr) (na1 ca1 : Nat) (w : World) (hw : HV w (keys [] []) [] [] [(aB qa0, aO qa0, RW.enc s10), (aB qa1, aO qa1, RW.enc s21)] w) (hna0 : s10.length = na0) (hqa0 : AOK na0 qa0) (hla0 : na0 ≤ ca0) (hna1 : s21.length = na1) (hqa1 : AOK na1 qa1) (hla1 : na1 ≤ ca1) {res : Bool} (hm : m_slices_Equal_tideWatertideWater s10 s21 = some res) :
    Calls Try.prog 157 #[.slice qa0 na0 ca0, .slice qa1 na1 ca1] w (fun en w' => ∃ l : Unit, en = .returned (.bool res) ∧ (True) ∧ HV w (keys [] []) [] [] [] w') := by
  unfold m_slices_Equal_tideWatertideWater at hm
  refine g_enter (args := [.slice qa0 na0 ca0, .slice qa1 na1 ca1]) Try.func157 rfl Try.ntmps157 rfl (e := [(0, _), (1, _)]) rfl (H := HV w (keys [] []) [] [] [(aB qa0, aO qa0, RW.enc s10), (aB qa1, aO qa1, RW.enc s21)]) hw ?_
  refine g_seq ?_
  refine g_region ?_
  refine g_val rfl rfl rfl (fun _ _ => v_assign rfl) ?_
  refine g_nil ?_
  refine g_n_then ?_
  refine g_seq ?_
  refine g_seq ?_
  refine g_region ?_
  refine g_val rfl rfl rfl (fun _ _ => v_move rfl) ?_
  refine g_val rfl rfl rfl (fun w _ => v_lenR hna0 (Try.runUnderlying23 w) rfl) ?_
  refine g_val rfl rfl rfl (fun _ _ => v_move rfl) ?_
  refine g_val rfl rfl rfl (fun w _ => v_lenR hna1 (Try.runUnderlying23 w) rfl) ?_
  refine g_val rfl rfl rfl (fun _ _ => v_neq rfl rfl) ?_
  refine g_nil ?_
  refine g_n_then ?_
  refine g_cond rfl (fun h1 => ?_) (fun h1 => ?_)
  ·replace hm := ifF (of_ndec_true h1) hm
   refine g_seq ?_
   refine g_region ?_
   refine g_val rfl rfl rfl (fun _ _ => v_assign rfl) ?_
   refine g_nil ?_
   refine g_n_then ?_
   refine g_ret ?_
   refine g_r_then ?_
   obtain rfl := Option.some.inj hm
   refine g_done rfl (fun w hh => (.tmp rfl .nil)) (fun w hh => ⟨(), rfl, trivial, hh.sel [] [] 2 (by decide) (by decide) rfl rfl rfl⟩)
  ·replace hm := ifT (of_ndec_false h1) hm
   refine g_skip ?_
   refine g_n_then ?_
   refine g_seq ?_
   refine g_seq ?_
   refine g_region ?_
   refine g_val rfl rfl rfl (fun _ _ => v_move rfl) ?_
   refine g_val rfl rfl rfl (fun w _ => v_lenR hna0 (Try.runUnderlying23 w) rfl) ?_
   refine g_val rfl rfl rfl (fun _ _ => v_move rfl) ?_
   refine g_nil ?_
   refine g_n_then ?_
   obtain ⟨o, h2, h3⟩ := bindO hm
   refine g_cut (ι := Unit) (fun j => o = .inl j) (fun j => []) (fun j => []) (fun j => []) ?_ ?_
   ·replace hm := h2
    refine g_block ?_
    refine g_loopF (ι := Unit) hm (fun s l => True) (fun s l => [(0, .slice qa0 na0 ca0), (1, .slice qa1 na1 ca1), (12, .int .i64 (s10.length : Int)), (13, .int .i64 s)]) (fun s l => []) (fun s l => []) () (trivial) ((.cons rfl (.cons rfl (.cons rfl (.cons rfl .nil))))) (fun w hh => hh) (fun s l r hpl hm h4 => ?_)
    unfold m_slices_Equal_tideWatertideWater_L0 at hm
    refine g_seq ?_
    refine g_region ?_
    refine g_val rfl rfl rfl (fun _ _ => v_lss rfl rfl) ?_
    refine g_nil ?_
    refine g_n_then ?_
    refine g_seq ?_
    refine g_cond rfl (fun h5 => ?_) (fun h5 => ?_)
    ·replace hm := ifT (of_decide_eq_true h5) hm
     refine g_skip ?_
     refine g_n_then ?_
     refine g_seq ?_
     refine g_block ?_
     refine g_seq ?_
     refine g_region ?_
     refine g_val rfl rfl rfl (fun _ _ => v_move rfl) ?_
     refine g_val rfl rfl rfl (fun _ _ => v_assign rfl) ?_
     refine g_nil ?_
     refine g_n_then ?_
     refine g_seq ?_
     refine g_draw none (.free 0 (.free 1 (.free 2 (.hoist 3 (.free 4 (.free 5 (.free 6 (.hoist 7 (.free 8 .done))))))))) _ rfl (by decide +kernel) (fun w k hh => hh.draw k) (fun w hh => hh) ?_
     refine p_free rfl rfl rfl rfl (fun _ _ => v_move rfl) ?_
     refine p_free rfl rfl rfl rfl (fun _ _ => v_move rfl) ?_
     obtain ⟨t18, h6, hm⟩ := bindO hm
     refine p_free rfl rfl rfl rfl (fun w _ => v_ixR h6 (Try.runUnderlying23 w) (Try.sizeOf68 w) rfl rfl hna0 hqa0) ?_
     refine p_hoist rfl rfl rfl rfl (fun w hh => v_ldEA RW 0 [.int .i64 t18.min, .int .i64 t18.h] h6 (Try.isAgg68 w) (Try.sizeOf68 w) rfl (hh.seg 0 rfl) rfl (Nat.add_zero _).symm) ?_
     refine p_free rfl rfl rfl rfl (fun _ _ => v_move rfl) ?_
     refine p_free rfl rfl rfl rfl (fun _ _ => v_move rfl) ?_
     obtain ⟨t22, h7, hm⟩ := bindO hm
     refine p_free rfl rfl rfl rfl (fun w _ => v_ixR h7 (Try.runUnderlying23 w) (Try.sizeOf68 w) rfl rfl hna1 hqa1) ?_
     refine p_hoist rfl rfl rfl rfl (fun w hh => v_ldEA RW 0 [.int .i64 t22.min, .int .i64 t22.h] h7 (Try.isAgg68 w) (Try.sizeOf68 w) rfl (hh.seg 1 rfl) rfl (Nat.add_zero _).symm) ?_
     refine p_free rfl rfl rfl rfl (fun w _ => v_neqAgg (gxeq68 t18 t22 w) gxeqg68 rfl rfl) ?_
     refine p_done ?_
     refine g_n_then ?_
     refine g_cond rfl (fun h8 => ?_) (fun h8 => ?_)
     ·replace hm := ifF (of_ndec_true h8) hm
      refine g_seq ?_
      refine g_region ?_
      refine g_val rfl rfl rfl (fun _ _ => v_assign rfl) ?_
      refine g_nil ?_
      refine g_n_then ?_
      refine g_ret ?_
      refine g_r_blk ?_
      refine g_r_then ?_
      refine g_r_then ?_
      refine g_r_blk ?_
      obtain rfl := Option.some.inj hm
      have hbo := h4 _ rfl
      subst hbo
      refine g_r_then ?_
      replace hm := ocR h3
      refine g_r_then ?_
      obtain rfl := Option.some.inj hm
      refine g_done rfl (fun w hh => (.tmp rfl .nil)) (fun w hh => ⟨(), rfl, trivial, hh.sel [] [] 2 (by decide) (by decide) rfl rfl rfl⟩)
     ·replace hm := ifT (of_ndec_false h8) hm
      refine g_skip ?_
      refine g_n_blk ?_
      refine g_n_then ?_
      refine g_region ?_
      obtain ⟨t25, h9, hm⟩ := bindO hm
      refine g_val rfl rfl rfl (fun _ _ => v_addc h9 rfl rfl) ?_
      refine g_val rfl rfl rfl (fun _ _ => v_move rfl) ?_
      refine g_nil ?_
      obtain rfl := Option.some.inj hm
      refine g_n_then ?_
      exact g_again' _ () rfl (trivial) ((.cons rfl (.cons rfl (.cons rfl (.cons rfl .nil))))) (fun w hh => hh)
    ·replace hm := ifF (of_decide_eq_false h5) hm
     refine g_exit ?_
     refine g_x_then ?_
     refine g_x_then ?_
     refine g_x_blk ?_
     obtain rfl := Option.some.inj hm
     have hbo := h4 _ rfl
     subst hbo
     exact g_leaf () (rfl) (.nil) (fun w hh => hh)
   ·intro j hj
    have h10 := hj
    subst h10
    replace hm := ocL h3
    refine g_n_then ?_
    refine g_seq ?_
    refine g_region ?_
    refine g_val rfl rfl rfl (fun _ _ => v_assign rfl) ?_
    refine g_nil ?_
    refine g_n_then ?_
    refine g_ret ?_
    obtain rfl := Option.some.inj hm
    refine g_done rfl (fun w hh => (.tmp rfl .nil)) (fun w hh => ⟨(), rfl, trivial, hh.sel [] [] 2 (by decide) (by decide) rfl rfl rfl⟩)
def m_laurelkit_Eq_tideWater (a0 : (List Water)) (b1 : (List Water)) : Option Bool :=
 (m_slices_Equal_tideWatertideWater a0 b1).bind fun t7 =>
 some t7
set_option maxRecDepth 100000 in
set_option maxHeartbeats 4000000 in
theorem c_laurelkit_Eq_tideWater (a0 : (List Water)) (b1 : (List Water)) (qa0 : Option Addr) (na0 ca0 : Nat) (qa1 : Option Addr) (na1 ca1 : Nat) (w : World) (hw : HV w (keys [] []) [] [] [(aB qa0, aO qa0, RW.enc a0), (aB qa1, aO qa1, RW.enc b1)] w) (hna0 : a0.length = na0) (hqa0 : AOK na0 qa0) (hla0 : na0 ≤ ca0) (hna1 : b1.length = na1) (hqa1 : AOK na1 qa1) (hla1 : na1 ≤ ca1) {res : Bool} (hm : m_laurelkit_Eq_tideWater a0 b1 = some res) :
    Calls Try.prog 112 #[.slice qa0 na0 ca0, .slice qa1 na1 ca1] w (fun en w' => ∃ l : Unit, en = .returned (.bool res) ∧ (True) ∧ HV w (keys [] []) [] [] [] w') := by
  unfold m_laurelkit_Eq_tideWater at hm
  refine g_enter (args := [.slice qa0 na0 ca0, .slice qa1 na1 ca1]) Try.func112 rfl Try.ntmps112 rfl (e := [(0, _), (1, _)]) rfl (H := HV w (keys [] []) [] [] [(aB qa0, aO qa0, RW.enc a0), (aB qa1, aO qa1, RW.enc b1)]) hw ?_
  refine g_seq ?_
  refine g_region ?_
  refine g_val rfl rfl rfl (fun _ _ => v_assign rfl) ?_
  refine g_nil ?_
  refine g_n_then ?_
  refine g_seq ?_
  refine g_region ?_
  refine g_val rfl rfl rfl (fun _ _ => v_move rfl) ?_
  refine g_val rfl rfl rfl (fun _ _ => v_move rfl) ?_
  obtain ⟨t7, h1, hm⟩ := bindO hm
  refine g_callH [] [] rfl rfl rfl rfl rfl rfl rfl (fun a w => Try.call157 a w) (fun w hh => c_slices_Equal_tideWatertideWater a0 b1 qa0 na0 ca0 qa1 na1 ca1 w (HV.callee (S0 := []) (vs0 := []) hh (roC (hh.rsep (S0 := []) (vs0 := []) 0 rfl) (roC (hh.rsep (S0 := []) (vs0 := []) 1 rfl) roN))) hna0 hqa0 hla0 hna1 hqa1 hla1 h1) (fun l h2 => ?_)
  refine g_val rfl rfl rfl (fun _ _ => v_assign rfl) ?_
  refine g_nil ?_
  refine g_n_then ?_
  refine g_ret ?_
  obtain rfl := Option.some.inj hm
  refine g_done rfl (fun w hh => (.tmp rfl .nil)) (fun w hh => ⟨(), rfl, trivial, hh.sel [] [] 2 (by decide) (by decide) rfl rfl rfl⟩)
def m_slices_Equal_intint_L0 (s10 : (List Int)) (s21 : (List Int)) (s : Int) : Option (Int ⊕ (Unit ⊕ Bool)) :=
 if s < (s10.length : Int) then
 ((ix s10 s).bind fun t18 =>
 (ix s21 s).bind fun t22 =>
 if t18 = t22 then
 ((addc s 1).bind fun t25 =>
 some (.inl t25)) else
 (some (.inr (.inr false)))) else
 (some (.inr (.inl ())))
def m_slices_Equal_intint (s10 : (List Int)) (s21 : (List Int)) : Option Bool :=
 if (s10.length : Int) = (s21.length : Int) then
 ((iterM FU (m_slices_Equal_intint_L0 s10 s21) 0).bind fun o =>
 oc o (fun j => some true) (fun r_1 => some r_1)) else
 (some false)
set_option maxRecDepth 100000 in
set_option maxHeartbeats 4000000 in
theorem c_slices_Equal_intint (s10 : (List Int)) (s21 : (List Int)) (qa0 : Option Addr) (na0 ca0 : Nat) (qa1 : Option Addr) (na1 ca1 : Nat) (w : World) (hw : HV w (keys [] []) [] [] [(aB qa0, aO qa0, RI.enc s10), (aB qa1, aO qa1, RI.enc s21)] w) (hna0 : s10.length = na0) (hqa0 : AOK na0 qa0) (hla0 : na0 ≤ ca0) (hna1 : s21.length = na1) (hqa1 : AOK na1 qa1) (hla1 : na1 ≤ ca1) {res : Bool} (hm : m_slices_Equal_intint s10 s21 = some res) :
    Calls Try.prog 130 #[.slice qa0 na0 ca0, .slice qa1 na1 ca1] w (fun en w' => ∃ l : Unit, en = .returned (.bool res) ∧ (True) ∧ HV w (keys [] []) [] [] [] w') := by
  unfold m_slices_Equal_intint at hm
  refine g_enter (args := [.slice qa0 na0 ca0, .slice qa1 na1 ca1]) Try.func130 rfl Try.ntmps130 rfl (e := [(0, _), (1, _)]) rfl (H := HV w (keys [] []) [] [] [(aB qa0, aO qa0, RI.enc s10), (aB qa1, aO qa1, RI.enc s21)]) hw ?_
  refine g_seq ?_
  refine g_region ?_
  refine g_val rfl rfl rfl (fun _ _ => v_assign rfl) ?_
  refine g_nil ?_
  refine g_n_then ?_
  refine g_seq ?_
  refine g_seq ?_
  refine g_region ?_
  refine g_val rfl rfl rfl (fun _ _ => v_move rfl) ?_
  refine g_val rfl rfl rfl (fun w _ => v_lenR hna0 (Try.runUnderlying26 w) rfl) ?_
  refine g_val rfl rfl rfl (fun _ _ => v_move rfl) ?_
  refine g_val rfl rfl rfl (fun w _ => v_lenR hna1 (Try.runUnderlying26 w) rfl) ?_
  refine g_val rfl rfl rfl (fun _ _ => v_neq rfl rfl) ?_
  refine g_nil ?_
  refine g_n_then ?_
  refine g_cond rfl (fun h1 => ?_) (fun h1 => ?_)
  ·replace hm := ifF (of_ndec_true h1) hm
   refine g_seq ?_
   refine g_region ?_
   refine g_val rfl rfl rfl (fun _ _ => v_assign rfl) ?_
   refine g_nil ?_
   refine g_n_then ?_
   refine g_ret ?_
   refine g_r_then ?_
   obtain rfl := Option.some.inj hm
   refine g_done rfl (fun w hh => (.tmp rfl .nil)) (fun w hh => ⟨(), rfl, trivial, hh.sel [] [] 2 (by decide) (by decide) rfl rfl rfl⟩)
  ·replace hm := ifT (of_ndec_false h1) hm
   refine g_skip ?_
   refine g_n_then ?_
   refine g_seq ?_
   refine g_seq ?_
   refine g_region ?_
   refine g_val rfl rfl rfl (fun _ _ => v_move rfl) ?_
   refine g_val rfl rfl rfl (fun w _ => v_lenR hna0 (Try.runUnderlying26 w) rfl) ?_
   refine g_val rfl rfl rfl (fun _ _ => v_move rfl) ?_
   refine g_nil ?_
   refine g_n_then ?_
   obtain ⟨o, h2, h3⟩ := bindO hm
   refine g_cut (ι := Unit) (fun j => o = .inl j) (fun j => []) (fun j => []) (fun j => []) ?_ ?_
   ·replace hm := h2
    refine g_block ?_
    refine g_loopF (ι := Unit) hm (fun s l => True) (fun s l => [(0, .slice qa0 na0 ca0), (1, .slice qa1 na1 ca1), (12, .int .i64 (s10.length : Int)), (13, .int .i64 s)]) (fun s l => []) (fun s l => []) () (trivial) ((.cons rfl (.cons rfl (.cons rfl (.cons rfl .nil))))) (fun w hh => hh) (fun s l r hpl hm h4 => ?_)
    unfold m_slices_Equal_intint_L0 at hm
    refine g_seq ?_
    refine g_region ?_
    refine g_val rfl rfl rfl (fun _ _ => v_lss rfl rfl) ?_
    refine g_nil ?_
    refine g_n_then ?_
    refine g_seq ?_
    refine g_cond rfl (fun h5 => ?_) (fun h5 => ?_)
    ·replace hm := ifT (of_decide_eq_true h5) hm
     refine g_skip ?_
     refine g_n_then ?_
     refine g_seq ?_
     refine g_block ?_
     refine g_seq ?_
     refine g_region ?_
     refine g_val rfl rfl rfl (fun _ _ => v_move rfl) ?_
     refine g_val rfl rfl rfl (fun _ _ => v_assign rfl) ?_
     refine g_nil ?_
     refine g_n_then ?_
     refine g_seq ?_
     refine g_draw none (.free 0 (.free 1 (.free 2 (.hoist 3 (.free 4 (.free 5 (.free 6 (.hoist 7 (.free 8 .done))))))))) _ rfl (by decide +kernel) (fun w k hh => hh.draw k) (fun w hh => hh) ?_
     refine p_free rfl rfl rfl rfl (fun _ _ => v_move rfl) ?_
     refine p_free rfl rfl rfl rfl (fun _ _ => v_move rfl) ?_
     obtain ⟨t18, h6, hm⟩ := bindO hm
     refine p_free rfl rfl rfl rfl (fun w _ => v_ixR h6 (Try.runUnderlying26 w) (Try.sizeOf3 w) rfl rfl hna0 hqa0) ?_
     refine p_hoist rfl rfl rfl rfl (fun w hh => v_ldE RI 0 h6 (Try.isAgg3 w) rfl (hh.seg 0 rfl) rfl (Nat.add_zero _).symm) ?_
     refine p_free rfl rfl rfl rfl (fun _ _ => v_move rfl) ?_
     refine p_free rfl rfl rfl rfl (fun _ _ => v_move rfl) ?_
     obtain ⟨t22, h7, hm⟩ := bindO hm
     refine p_free rfl rfl rfl rfl (fun w _ => v_ixR h7 (Try.runUnderlying26 w) (Try.sizeOf3 w) rfl rfl hna1 hqa1) ?_
     refine p_hoist rfl rfl rfl rfl (fun w hh => v_ldE RI 0 h7 (Try.isAgg3 w) rfl (hh.seg 1 rfl) rfl (Nat.add_zero _).symm) ?_
     refine p_free rfl rfl rfl rfl (fun _ _ => v_neq rfl rfl) ?_
     refine p_done ?_
     refine g_n_then ?_
     refine g_cond rfl (fun h8 => ?_) (fun h8 => ?_)
     ·replace hm := ifF (of_ndec_true h8) hm
      refine g_seq ?_
      refine g_region ?_
      refine g_val rfl rfl rfl (fun _ _ => v_assign rfl) ?_
      refine g_nil ?_
      refine g_n_then ?_
      refine g_ret ?_
      refine g_r_blk ?_
      refine g_r_then ?_
      refine g_r_then ?_
      refine g_r_blk ?_
      obtain rfl := Option.some.inj hm
      have hbo := h4 _ rfl
      subst hbo
      refine g_r_then ?_
      replace hm := ocR h3
      refine g_r_then ?_
      obtain rfl := Option.some.inj hm
      refine g_done rfl (fun w hh => (.tmp rfl .nil)) (fun w hh => ⟨(), rfl, trivial, hh.sel [] [] 2 (by decide) (by decide) rfl rfl rfl⟩)
     ·replace hm := ifT (of_ndec_false h8) hm
      refine g_skip ?_
      refine g_n_blk ?_
      refine g_n_then ?_
      refine g_region ?_
      obtain ⟨t25, h9, hm⟩ := bindO hm
      refine g_val rfl rfl rfl (fun _ _ => v_addc h9 rfl rfl) ?_
      refine g_val rfl rfl rfl (fun _ _ => v_move rfl) ?_
      refine g_nil ?_
      obtain rfl := Option.some.inj hm
      refine g_n_then ?_
      exact g_again' _ () rfl (trivial) ((.cons rfl (.cons rfl (.cons rfl (.cons rfl .nil))))) (fun w hh => hh)
    ·replace hm := ifF (of_decide_eq_false h5) hm
     refine g_exit ?_
     refine g_x_then ?_
     refine g_x_then ?_
     refine g_x_blk ?_
     obtain rfl := Option.some.inj hm
     have hbo := h4 _ rfl
     subst hbo
     exact g_leaf () (rfl) (.nil) (fun w hh => hh)
   ·intro j hj
    have h10 := hj
    subst h10
    replace hm := ocL h3
    refine g_n_then ?_
    refine g_seq ?_
    refine g_region ?_
    refine g_val rfl rfl rfl (fun _ _ => v_assign rfl) ?_
    refine g_nil ?_
    refine g_n_then ?_
    refine g_ret ?_
    obtain rfl := Option.some.inj hm
    refine g_done rfl (fun w hh => (.tmp rfl .nil)) (fun w hh => ⟨(), rfl, trivial, hh.sel [] [] 2 (by decide) (by decide) rfl rfl rfl⟩)
end Go.Proofs.Wk

