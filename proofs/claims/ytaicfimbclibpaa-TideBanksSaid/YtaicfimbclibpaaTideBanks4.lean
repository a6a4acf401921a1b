/- What the functions that the law TideBanks reaches come to, and why it holds: part 4. -/
import Derived.Test.YtaicfimbclibpaaTideBanks3
namespace Go.Proofs.Wk
open Go Go.Fw Go.Gx Go.Pl
set_option linter.unusedVariables false
theorem gxinf3 : (Try.prog.info? 3).map (fun i => (i.zero, i.size, i.bytes)) = some (some (.int .i64 0), 1, 8) := by kernel_rfl
theorem gxinf51 : (Try.prog.info? 51).map (fun i => (i.zero, i.size, i.bytes)) = some (some (.agg #[.int .i64 0, .int .i64 0, .int .i64 0]), 3, 24) := by kernel_rfl
theorem gxinf68 : (Try.prog.info? 68).map (fun i => (i.zero, i.size, i.bytes)) = some (some (.agg #[.int .i64 0, .int .i64 0]), 2, 16) := by kernel_rfl
theorem gxinf158 : (Try.prog.info? 158).map (fun i => (i.zero, i.size, i.bytes)) = some (some (.agg #[.int .i64 0, .int .i64 0]), 2, 16) := by kernel_rfl
theorem gxinf159 : (Try.prog.info? 159).map (fun i => (i.zero, i.size, i.bytes)) = some (some (.agg #[.int .i64 0, .int .i64 0, .int .i64 0]), 3, 24) := by kernel_rfl
set_option maxRecDepth 100000 in
theorem gxeqg25 : Try.prog.eqGuardType Try.prog.depth 25 = false := by decide +kernel
set_option maxRecDepth 100000 in
theorem gxsth25 : Try.prog.stoodInHeld 25 = false := by decide +kernel
set_option maxRecDepth 100000 in
theorem gxeq25 (x y : Span) (w : World) : (Op.equalIn 10000 25 (.agg (RP.cells x).toArray) (.agg (RP.cells y).toArray)).run Try.prog w = .ok (decide (x = y)) w := by
  have h := equal_struct (xs := (RP.cells x).toArray) (ys := (RP.cells y).toArray) Try.underlying25 gxsth25 (.int rfl (fun w => Try.isAgg3 w) ⟨_, Try.underlying3⟩ rfl rfl (.int rfl (fun w => Try.isAgg3 w) ⟨_, Try.underlying3⟩ rfl rfl .nil)) w
  rw [h]
  congr 1
  cases x; cases y
  rw [Bool.eq_iff_iff]
  simp only [Bool.and_eq_true, decide_eq_true_eq, Span.mk.injEq, and_true]
set_option maxRecDepth 100000 in
theorem gxeqg51 : Try.prog.eqGuardType Try.prog.depth 51 = false := by decide +kernel
set_option maxRecDepth 100000 in
theorem gxsth51 : Try.prog.stoodInHeld 51 = false := by decide +kernel
set_option maxRecDepth 100000 in
theorem gxeq51 (x y : Sill) (w : World) : (Op.equalIn 10000 51 (.agg (RS.cells x).toArray) (.agg (RS.cells y).toArray)).run Try.prog w = .ok (decide (x = y)) w := by
  have h := equal_struct (xs := (RS.cells x).toArray) (ys := (RS.cells y).toArray) Try.underlying51 gxsth51 (.int rfl (fun w => Try.isAgg3 w) ⟨_, Try.underlying3⟩ rfl rfl (.int rfl (fun w => Try.isAgg3 w) ⟨_, Try.underlying3⟩ rfl rfl (.int rfl (fun w => Try.isAgg3 w) ⟨_, Try.underlying3⟩ rfl rfl .nil))) w
  rw [h]
  congr 1
  cases x; cases y
  rw [Bool.eq_iff_iff]
  simp only [Bool.and_eq_true, decide_eq_true_eq, Sill.mk.injEq, and_true]
set_option maxRecDepth 100000 in
theorem gxeqg68 : Try.prog.eqGuardType Try.prog.depth 68 = false := by decide +kernel
set_option maxRecDepth 100000 in
theorem gxsth68 : Try.prog.stoodInHeld 68 = false := by decide +kernel
set_option maxRecDepth 100000 in
theorem gxeq68 (x y : Water) (w : World) : (Op.equalIn 10000 68 (.agg (RW.cells x).toArray) (.agg (RW.cells y).toArray)).run Try.prog w = .ok (decide (x = y)) w := by
  have h := equal_struct (xs := (RW.cells x).toArray) (ys := (RW.cells y).toArray) Try.underlying68 gxsth68 (.int rfl (fun w => Try.isAgg3 w) ⟨_, Try.underlying3⟩ rfl rfl (.int rfl (fun w => Try.isAgg3 w) ⟨_, Try.underlying3⟩ rfl rfl .nil)) w
  rw [h]
  congr 1
  cases x; cases y
  rw [Bool.eq_iff_iff]
  simp only [Bool.and_eq_true, decide_eq_true_eq, Water.mk.injEq, and_true]
def m_laurelkit_Dup_tideWater (l0 : (List Water)) : Option (List Water) :=
 (makec 16 (⟨0, 0⟩ : Water) 0 (l0.length : Int)).bind fun t5 =>
 (appc 16 t5 l0).bind fun t7 =>
 some t7
set_option maxRecDepth 100000 in
set_option maxHeartbeats 4000000 in
theorem c_laurelkit_Dup_tideWater (l0 : (List Water)) (qa0 : Option Addr) (na0 ca0 : Nat) (w : World) (hw : HV w (keys [] []) [] [] [(aB qa0, aO qa0, RW.enc l0)] w) (hna0 : l0.length = na0) (hqa0 : AOK na0 qa0) (hla0 : na0 ≤ ca0) {res : (List Water)} (hm : m_laurelkit_Dup_tideWater l0 = some res) :
    Calls Try.prog 100 #[.slice qa0 na0 ca0] w (fun en w' => ∃ l : VL, en = .returned (slv l.q l.n l.cap) ∧ (VOK 2 l.n l.cap (RW.enc res) l.sp l.q) ∧ HV w (keys [] []) [] [⟨68, RW.enc res, l.sp, l.q⟩] [] w') := by
  unfold m_laurelkit_Dup_tideWater at hm
  refine g_enter (args := [.slice qa0 na0 ca0]) Try.func100 rfl Try.ntmps100 rfl (e := [(0, _)]) rfl (H := HV w (keys [] []) [] [] [(aB qa0, aO qa0, RW.enc l0)]) hw ?_
  refine g_seq ?_
  refine g_region ?_
  refine g_val rfl rfl rfl (fun _ _ => v_nilS rfl) ?_
  refine g_nil ?_
  refine g_n_then ?_
  refine g_seq ?_
  refine g_region ?_
  refine g_val rfl rfl rfl (fun _ _ => v_move rfl) ?_
  refine g_val rfl rfl rfl (fun w _ => v_lenR hna0 (Try.runUnderlying23 w) rfl) ?_
  obtain ⟨t5, h2, hm⟩ := bindO hm
  refine g_vmake RW (⟨0, 0⟩ : Water) h2 Try.underlying23 gxinf68 rfl rfl rfl rfl rfl (fun L h3 => ?_)
  refine g_val rfl rfl rfl (fun _ _ => v_move rfl) ?_
  obtain ⟨t7, h4, hm⟩ := bindO hm
  refine g_vapp RW 0 h4 Try.underlying23 gxinf68 rfl rfl rfl rfl rfl h3 rfl rfl hna0 hqa0 (fun w hh => (hh.seg 0 rfl)) rfl (fun L_1 h5 h5n => ?_)
  refine g_sel (S' := []) (vs' := [_]) [] [0] 0 (by decide) (by decide) rfl rfl rfl ?_
  refine g_val rfl rfl rfl (fun _ _ => v_assign rfl) ?_
  refine g_nil ?_
  refine g_n_then ?_
  refine g_ret ?_
  obtain rfl := Option.some.inj hm
  refine g_done rfl (fun w hh => (.tmp rfl .nil)) (fun w hh => ⟨L_1, rfl, h5, hh.sel [] [0] 1 (by decide) (by decide) rfl rfl rfl⟩)
def m_laurelkit_Dup_int (l0 : (List Int)) : Option (List Int) :=
 (makec 8 0 0 (l0.length : Int)).bind fun t5 =>
 (appc 8 t5 l0).bind fun t7 =>
 some t7
set_option maxRecDepth 100000 in
set_option maxHeartbeats 4000000 in
theorem c_laurelkit_Dup_int (l0 : (List Int)) (qa0 : Option Addr) (na0 ca0 : Nat) (w : World) (hw : HV w (keys [] []) [] [] [(aB qa0, aO qa0, RI.enc l0)] w) (hna0 : l0.length = na0) (hqa0 : AOK na0 qa0) (hla0 : na0 ≤ ca0) {res : (List Int)} (hm : m_laurelkit_Dup_int l0 = some res) :
    Calls Try.prog 65 #[.slice qa0 na0 ca0] w (fun en w' => ∃ l : VL, en = .returned (slv l.q l.n l.cap) ∧ (VOK 1 l.n l.cap (RI.enc res) l.sp l.q) ∧ HV w (keys [] []) [] [⟨3, RI.enc res, l.sp, l.q⟩] [] w') := by
  unfold m_laurelkit_Dup_int at hm
  refine g_enter (args := [.slice qa0 na0 ca0]) Try.func65 rfl Try.ntmps65 rfl (e := [(0, _)]) rfl (H := HV w (keys [] []) [] [] [(aB qa0, aO qa0, RI.enc l0)]) hw ?_
  refine g_seq ?_
  refine g_region ?_
  refine g_val rfl rfl rfl (fun _ _ => v_nilS rfl) ?_
  refine g_nil ?_
  refine g_n_then ?_
  refine g_seq ?_
  refine g_region ?_
  refine g_val rfl rfl rfl (fun _ _ => v_move rfl) ?_
  refine g_val rfl rfl rfl (fun w _ => v_lenR hna0 (Try.runUnderlying26 w) rfl) ?_
  obtain ⟨t5, h2, hm⟩ := bindO hm
  refine g_vmake RI 0 h2 Try.underlying26 gxinf3 rfl rfl rfl rfl rfl (fun L h3 => ?_)
  refine g_val rfl rfl rfl (fun _ _ => v_move rfl) ?_
  obtain ⟨t7, h4, hm⟩ := bindO hm
  refine g_vapp RI 0 h4 Try.underlying26 gxinf3 rfl rfl rfl rfl rfl h3 rfl rfl hna0 hqa0 (fun w hh => (hh.seg 0 rfl)) rfl (fun L_1 h5 h5n => ?_)
  refine g_sel (S' := []) (vs' := [_]) [] [0] 0 (by decide) (by decide) rfl rfl rfl ?_
  refine g_val rfl rfl rfl (fun _ _ => v_assign rfl) ?_
  refine g_nil ?_
  refine g_n_then ?_
  refine g_ret ?_
  obtain rfl := Option.some.inj hm
  refine g_done rfl (fun w hh => (.tmp rfl .nil)) (fun w hh => ⟨L_1, rfl, h5, hh.sel [] [0] 1 (by decide) (by decide) rfl rfl rfl⟩)
def m_laurelkit_Dup_tideSill (l0 : (List Sill)) : Option (List Sill) :=
 (makec 24 (⟨0, 0, 0⟩ : Sill) 0 (l0.length : Int)).bind fun t5 =>
 (appc 24 t5 l0).bind fun t7 =>
 some t7
set_option maxRecDepth 100000 in
set_option maxHeartbeats 4000000 in
theorem c_laurelkit_Dup_tideSill (l0 : (List Sill)) (qa0 : Option Addr) (na0 ca0 : Nat) (w : World) (hw : HV w (keys [] []) [] [] [(aB qa0, aO qa0, RS.enc l0)] w) (hna0 : l0.length = na0) (hqa0 : AOK na0 qa0) (hla0 : na0 ≤ ca0) {res : (List Sill)} (hm : m_laurelkit_Dup_tideSill l0 = some res) :
    Calls Try.prog 101 #[.slice qa0 na0 ca0] w (fun en w' => ∃ l : VL, en = .returned (slv l.q l.n l.cap) ∧ (VOK 3 l.n l.cap (RS.enc res) l.sp l.q) ∧ HV w (keys [] []) [] [⟨51, RS.enc res, l.sp, l.q⟩] [] w') := by
  unfold m_laurelkit_Dup_tideSill at hm
  refine g_enter (args := [.slice qa0 na0 ca0]) Try.func101 rfl Try.ntmps101 rfl (e := [(0, _)]) rfl (H := HV w (keys [] []) [] [] [(aB qa0, aO qa0, RS.enc l0)]) hw ?_
  refine g_seq ?_
  refine g_region ?_
  refine g_val rfl rfl rfl (fun _ _ => v_nilS rfl) ?_
  refine g_nil ?_
  refine g_n_then ?_
  refine g_seq ?_
  refine g_region ?_
  refine g_val rfl rfl rfl (fun _ _ => v_move rfl) ?_
  refine g_val rfl rfl rfl (fun w _ => v_lenR hna0 (Try.runUnderlying27 w) rfl) ?_
  obtain ⟨t5, h2, hm⟩ := bindO hm
  refine g_vmake RS (⟨0, 0, 0⟩ : Sill) h2 Try.underlying27 gxinf51 rfl rfl rfl rfl rfl (fun L h3 => ?_)
  refine g_val rfl rfl rfl (fun _ _ => v_move rfl) ?_
  obtain ⟨t7, h4, hm⟩ := bindO hm
  refine g_vapp RS 0 h4 Try.underlying27 gxinf51 rfl rfl rfl rfl rfl h3 rfl rfl hna0 hqa0 (fun w hh => (hh.seg 0 rfl)) rfl (fun L_1 h5 h5n => ?_)
  refine g_sel (S' := []) (vs' := [_]) [] [0] 0 (by decide) (by decide) rfl rfl rfl ?_
  refine g_val rfl rfl rfl (fun _ _ => v_assign rfl) ?_
  refine g_nil ?_
  refine g_n_then ?_
  refine g_ret ?_
  obtain rfl := Option.some.inj hm
  refine g_done rfl (fun w hh => (.tmp rfl .nil)) (fun w hh => ⟨L_1, rfl, h5, hh.sel [] [0] 1 (by decide) (by decide) rfl rfl rfl⟩)
def m_laurellaw01_Own (s0 : Sands) : Option Sands :=
 (m_laurelkit_Dup_tideWater s0.table).bind fun t5 =>
 (m_laurelkit_Dup_int s0.floors).bind fun t10 =>
 (m_laurelkit_Dup_tideSill s0.sills).bind fun t13 =>
 some (⟨t5, s0.wind, t10, t13⟩ : Sands)
set_option maxRecDepth 100000 in
set_option maxHeartbeats 4000000 in
theorem c_laurellaw01_Own (s0 : Sands) (qa0 : Option Addr) (na0 ca0 : Nat) (qa1 : Option Addr) (na1 ca1 : Nat) (qa2 : Option Addr) (na2 ca2 : Nat) (w : World) (hw : HV w (keys [] []) [] [] [(aB qa0, aO qa0, RW.enc s0.table), (aB qa1, aO qa1, RI.enc s0.floors), (aB qa2, aO qa2, RS.enc s0.sills)] w) (hna0 : s0.table.length = na0) (hqa0 : AOK na0 qa0) (hla0 : na0 ≤ ca0) (hna1 : s0.floors.length = na1) (hqa1 : AOK na1 qa1) (hla1 : na1 ≤ ca1) (hna2 : s0.sills.length = na2) (hqa2 : AOK na2 qa2) (hla2 : na2 ≤ ca2) {res : Sands} (hm : m_laurellaw01_Own s0 = some res) :
    Calls Try.prog 25 #[.agg #[.slice qa0 na0 ca0, .int .i64 s0.wind.lo, .int .i64 s0.wind.hi, .slice qa1 na1 ca1, .slice qa2 na2 ca2]] w (fun en w' => ∃ l : VL × VL × VL, en = .returned (.agg #[slv l.1.q l.1.n l.1.cap, .int .i64 res.wind.lo, .int .i64 res.wind.hi, slv l.2.1.q l.2.1.n l.2.1.cap, slv l.2.2.q l.2.2.n l.2.2.cap]) ∧ (VOK 2 l.1.n l.1.cap (RW.enc res.table) l.1.sp l.1.q ∧ VOK 1 l.2.1.n l.2.1.cap (RI.enc res.floors) l.2.1.sp l.2.1.q ∧ VOK 3 l.2.2.n l.2.2.cap (RS.enc res.sills) l.2.2.sp l.2.2.q) ∧ HV w (keys [] []) [] [⟨68, RW.enc res.table, l.1.sp, l.1.q⟩, ⟨3, RI.enc res.floors, l.2.1.sp, l.2.1.q⟩, ⟨51, RS.enc res.sills, l.2.2.sp, l.2.2.q⟩] [] w') := by
  unfold m_laurellaw01_Own at hm
  refine g_enter (args := [.agg #[.slice qa0 na0 ca0, .int .i64 s0.wind.lo, .int .i64 s0.wind.hi, .slice qa1 na1 ca1, .slice qa2 na2 ca2]]) Try.func25 rfl Try.ntmps25 rfl (e := [(0, _)]) rfl (H := HV w (keys [] []) [] [] [(aB qa0, aO qa0, RW.enc s0.table), (aB qa1, aO qa1, RI.enc s0.floors), (aB qa2, aO qa2, RS.enc s0.sills)]) hw ?_
  refine g_seq ?_
  refine g_region ?_
  refine g_boxV rfl rfl (fun b h4 => ?_)
  refine g_allocV (fun w => Try.zeroValue29 w) rfl (fun b_1 h5 => ?_)
  refine g_nil ?_
  refine g_n_then ?_
  refine g_seq ?_
  refine g_draw none (.free 0 (.hoist 1 (.free 3 (.hoist 4 (.free 5 (.hoist 6 (.free 8 (.hoist 9 (.one 2 (.one 7 (.one 10 (.free 11 (.one 12 .done))))))))))))) (HV _ _ [(b, .cells #[.slice qa0 na0 ca0, .int .i64 s0.wind.lo, .int .i64 s0.wind.hi, .slice qa1 na1 ca1, .slice qa2 na2 ca2] 29 (0, 0))] [] _) rfl (by decide +kernel) (fun w k hh => hh.draw k) (fun w hh => hh.sel [1] [] 0 (by decide) (by decide) rfl rfl rfl) ?_
  refine p_free rfl rfl rfl rfl (fun w _ => v_fieldAddr 0 (Try.runUnderlying29 w) rfl (Try.sizeOf23 w) rfl) ?_
  refine p_hoist rfl rfl rfl rfl (fun w hh => v_load (Try.isAgg23 w) rfl (hh.cell 0 rfl rfl)) ?_
  refine p_free rfl rfl rfl rfl (fun w _ => v_fieldAddr 1 (Try.runUnderlying29 w) rfl (Try.sizeOf25 w) rfl) ?_
  refine p_hoist rfl rfl rfl rfl (fun w hh => v_loadAgg (vs := [_, _]) (Try.isAgg25 w) (Try.sizeOf25 w) rfl (hh.cells 0 rfl rfl)) ?_
  refine p_free rfl rfl rfl rfl (fun w _ => v_fieldAddr 3 (Try.runUnderlying29 w) rfl (Try.sizeOf26 w) rfl) ?_
  refine p_hoist rfl rfl rfl rfl (fun w hh => v_load (Try.isAgg26 w) rfl (hh.cell 0 rfl rfl)) ?_
  refine p_free rfl rfl rfl rfl (fun w _ => v_fieldAddr 4 (Try.runUnderlying29 w) rfl (Try.sizeOf27 w) rfl) ?_
  refine p_hoist rfl rfl rfl rfl (fun w hh => v_load (Try.isAgg27 w) rfl (hh.cell 0 rfl rfl)) ?_
  refine p_one rfl ?_
  obtain ⟨t5, h6, hm⟩ := bindO hm
  refine g_callH [] [] rfl rfl rfl rfl rfl rfl rfl (fun a w => Try.call100 a w) (fun w hh => c_laurelkit_Dup_tideWater s0.table qa0 na0 ca0 w (HV.callee (S0 := []) (vs0 := []) hh (roC (hh.rsep (S0 := []) (vs0 := []) 0 rfl) roN)) hna0 hqa0 hla0 h6) (fun l h7 => ?_)
  have h8 := h7
  refine g_sel (S' := [_, _]) (vs' := [_]) [0, 1] [0] 0 (by decide) (by decide) rfl rfl rfl ?_
  refine p_next (fun w hh => hh.sel [1] [] 0 (by decide) (by decide) rfl rfl rfl) ?_
  refine p_one rfl ?_
  obtain ⟨t10, h9, hm⟩ := bindO hm
  refine g_callH [] [] rfl rfl rfl rfl rfl rfl rfl (fun a w => Try.call65 a w) (fun w hh => c_laurelkit_Dup_int s0.floors qa1 na1 ca1 w (HV.callee (S0 := []) (vs0 := []) hh (roC (hh.rsep (S0 := []) (vs0 := []) 1 rfl) roN)) hna1 hqa1 hla1 h9) (fun l_1 h10 => ?_)
  have h11 := h10
  refine g_sel (S' := [_, _]) (vs' := [_, _]) [0, 1] [0, 1] 0 (by decide) (by decide) rfl rfl rfl ?_
  refine p_next (fun w hh => hh.sel [1] [] 0 (by decide) (by decide) rfl rfl rfl) ?_
  refine p_one rfl ?_
  obtain ⟨t13, h12, hm⟩ := bindO hm
  refine g_callH [] [] rfl rfl rfl rfl rfl rfl rfl (fun a w => Try.call101 a w) (fun w hh => c_laurelkit_Dup_tideSill s0.sills qa2 na2 ca2 w (HV.callee (S0 := []) (vs0 := []) hh (roC (hh.rsep (S0 := []) (vs0 := []) 2 rfl) roN)) hna2 hqa2 hla2 h12) (fun l_2 h13 => ?_)
  have h14 := h13
  refine g_sel (S' := [_, _]) (vs' := [_, _, _]) [0, 1] [0, 1, 2] 0 (by decide) (by decide) rfl rfl rfl ?_
  refine p_next (fun w hh => hh.sel [1] [] 0 (by decide) (by decide) rfl rfl rfl) ?_
  refine p_free rfl rfl rfl rfl (fun _ _ => v_build (vs := [(0, _), (1, _), (2, _), (3, _)]) (cells := [_, _, _, _, _]) rfl rfl) ?_
  refine p_one rfl ?_
  refine g_stSA (us := #[_, _, _, _, _]) (cs' := [_, _, _, _, _]) (S' := [_, _]) 0 (fun w => Try.sizeOf29 w) rfl rfl rfl rfl rfl rfl rfl ?_
  refine p_next (fun w hh => hh.sel [1] [] 0 (by decide) (by decide) rfl rfl rfl) ?_
  refine p_done ?_
  refine g_n_then ?_
  refine g_ret ?_
  obtain rfl := Option.some.inj hm
  refine g_done rfl (fun w hh => (.cell rfl (loadVar_agg (vs := [_, _, _, _, _]) (Try.isAgg29 _) (Try.sizeOf29 _) (hh.cells 0 rfl rfl)) .nil)) (fun w hh => ⟨(l, l_1, l_2), rfl, ⟨h8, h11, h14⟩, hh.sel [] [2, 1, 0] 3 (by decide) (by decide) rfl rfl rfl⟩)
structure m_laurellaw01_theirs_S0 where
  t17 : Int
  out3_table : (List Water)
def m_laurellaw01_theirs_L0 (s0 : Sands) (s : m_laurellaw01_theirs_S0) : Option (m_laurellaw01_theirs_S0 ⊕ (List Water)) :=
 if s.t17 < (s0.table.length : Int) then
 ((ix s0.table s.t17).bind fun t19 =>
 (appc 16 s.out3_table [t19]).bind fun t25 =>
 (addc s.t17 1).bind fun t27 =>
 some (.inl (⟨t27, t25⟩ : m_laurellaw01_theirs_S0))) else
 (some (.inr s.out3_table))
structure m_laurellaw01_theirs_S1 where
  t31 : Int
  out3_sills : (List Sill)
def m_laurellaw01_theirs_L1 (s0 : Sands) (s_1 : m_laurellaw01_theirs_S1) : Option (m_laurellaw01_theirs_S1 ⊕ (List Sill)) :=
 if s_1.t31 < (s0.sills.length : Int) then
 ((ix s0.sills s_1.t31).bind fun t33 =>
 (appc 24 s_1.out3_sills [(⟨t33.a, t33.b, t33.h⟩ : Sill)]).bind fun t39 =>
 (addc s_1.t31 1).bind fun t41 =>
 some (.inl (⟨t41, t39⟩ : m_laurellaw01_theirs_S1))) else
 (some (.inr s_1.out3_sills))
def m_laurellaw01_theirs (s0 : Sands) : Option Sands :=
 ((m_laurelkit_Dup_int s0.floors).bind fun t12 =>
 some (⟨[], s0.wind, t12, []⟩ : Sands)).bind fun o =>
 (iterM FU (m_laurellaw01_theirs_L0 s0) (⟨0, o.table⟩ : m_laurellaw01_theirs_S0)).bind fun o_1 =>
 (iterM FU (m_laurellaw01_theirs_L1 s0) (⟨0, o.sills⟩ : m_laurellaw01_theirs_S1)).bind fun o_2 =>
 some (⟨o_1, o.wind, o.floors, o_2⟩ : Sands)
set_option maxRecDepth 100000 in
set_option maxHeartbeats 4000000 in
theorem c_laurellaw01_theirs (s0 : Sands) (qa0 : Option Addr) (na0 ca0 : Nat) (qa1 : Option Addr) (na1 ca1 : Nat) (qa2 : Option Addr) (na2 ca2 : Nat) (w : World) (hw : HV w (keys [] []) [] [] [(aB qa0, aO qa0, RW.enc s0.table), (aB qa1, aO qa1, RI.enc s0.floors), (aB qa2, aO qa2, RS.enc s0.sills)] w) (hna0 : s0.table.length = na0) (hqa0 : AOK na0 qa0) (hla0 : na0 ≤ ca0) (hna1 : s0.floors.length = na1) (hqa1 : AOK na1 qa1) (hla1 : na1 ≤ ca1) (hna2 : s0.sills.length = na2) (hqa2 : AOK na2 qa2) (hla2 : na2 ≤ ca2) {res : Sands} (hm : m_laurellaw01_theirs s0 = some res) :
    Calls Try.prog 32 #[.agg #[.slice qa0 na0 ca0, .int .i64 s0.wind.lo, .int .i64 s0.wind.hi, .slice qa1 na1 ca1, .slice qa2 na2 ca2]] w (fun en w' => ∃ l : VL × VL × VL, en = .returned (.agg #[slv l.1.q l.1.n l.1.cap, .int .i64 res.wind.lo, .int .i64 res.wind.hi, slv l.2.1.q l.2.1.n l.2.1.cap, slv l.2.2.q l.2.2.n l.2.2.cap]) ∧ (VOK 2 l.1.n l.1.cap (RW.enc res.table) l.1.sp l.1.q ∧ VOK 1 l.2.1.n l.2.1.cap (RI.enc res.floors) l.2.1.sp l.2.1.q ∧ VOK 3 l.2.2.n l.2.2.cap (RS.enc res.sills) l.2.2.sp l.2.2.q) ∧ HV w (keys [] []) [] [⟨158, RW.enc res.table, l.1.sp, l.1.q⟩, ⟨3, RI.enc res.floors, l.2.1.sp, l.2.1.q⟩, ⟨159, RS.enc res.sills, l.2.2.sp, l.2.2.q⟩] [] w') := by
  unfold m_laurellaw01_theirs at hm
  refine g_enter (args := [.agg #[.slice qa0 na0 ca0, .int .i64 s0.wind.lo, .int .i64 s0.wind.hi, .slice qa1 na1 ca1, .slice qa2 na2 ca2]]) Try.func32 rfl Try.ntmps32 rfl (e := [(0, _)]) rfl (H := HV w (keys [] []) [] [] [(aB qa0, aO qa0, RW.enc s0.table), (aB qa1, aO qa1, RI.enc s0.floors), (aB qa2, aO qa2, RS.enc s0.sills)]) hw ?_
  refine g_seq ?_
  refine g_region ?_
  refine g_boxV rfl rfl (fun b h4 => ?_)
  refine g_allocV (fun w => Try.zeroValue59 w) rfl (fun b_1 h5 => ?_)
  refine g_nil ?_
  refine g_n_then ?_
  refine g_seq ?_
  obtain ⟨o, h6, h7⟩ := bindO hm
  refine g_cut (ι := Nat × VL × VL × VL) (fun l => VOK 2 l.2.1.n l.2.1.cap (RW.enc o.table) l.2.1.sp l.2.1.q ∧ VOK 1 l.2.2.1.n l.2.2.1.cap (RI.enc o.floors) l.2.2.1.sp l.2.2.1.q ∧ VOK 3 l.2.2.2.n l.2.2.2.cap (RS.enc o.sills) l.2.2.2.sp l.2.2.2.q) (fun l => [(1, ptr b 0), (2, ptr b_1 0), (3, ptr l.1 0)]) (fun l => [(b_1, .cells #[slv none 0 0, .int .i64 0, .int .i64 0, slv none 0 0, slv none 0 0] 59 (0, 0)), (b, .cells #[.slice qa0 na0 ca0, .int .i64 s0.wind.lo, .int .i64 s0.wind.hi, .slice qa1 na1 ca1, .slice qa2 na2 ca2] 29 (0, 0)), (l.1, .cells #[slv l.2.1.q l.2.1.n l.2.1.cap, .int .i64 o.wind.lo, .int .i64 o.wind.hi, slv l.2.2.1.q l.2.2.1.n l.2.2.1.cap, slv l.2.2.2.q l.2.2.2.n l.2.2.2.cap] 59 (0, 0))]) (fun l => [⟨158, RW.enc o.table, l.2.1.sp, l.2.1.q⟩, ⟨3, RI.enc o.floors, l.2.2.1.sp, l.2.2.1.q⟩, ⟨159, RS.enc o.sills, l.2.2.2.sp, l.2.2.2.q⟩]) ?_ ?_
  ·replace hm := h6
   obtain ⟨t12, h11, hm⟩ := bindO hm
   refine g_draw none (.free 0 (.hoist 1 (.free 2 (.hoist 3 (.br (.alt 4 (.free 5 (.one 6 (.one 7 .done))) (.alt 6 (.one 4 (.free 5 (.one 7 .done))) .nil))))))) _ rfl (by decide +kernel) (fun w k hh => hh.draw k) (fun w hh => hh) ?_
   refine p_free rfl rfl rfl rfl (fun w _ => v_fieldAddr 1 (Try.runUnderlying29 w) rfl (Try.sizeOf25 w) rfl) ?_
   refine p_hoist rfl rfl rfl rfl (fun w hh => v_loadAgg (vs := [_, _]) (Try.isAgg25 w) (Try.sizeOf25 w) rfl (hh.cells 1 rfl rfl)) ?_
   refine p_free rfl rfl rfl rfl (fun w _ => v_fieldAddr 3 (Try.runUnderlying29 w) rfl (Try.sizeOf26 w) rfl) ?_
   refine p_hoist rfl rfl rfl rfl (fun w hh => v_load (Try.isAgg26 w) rfl (hh.cell 1 rfl rfl)) ?_
   refine p_br ?_
   refine p_alt rfl ?_ ?_
   ·refine g_callH [] [] rfl rfl rfl rfl rfl rfl rfl (fun a w => Try.call65 a w) (fun w hh => c_laurelkit_Dup_int s0.floors qa1 na1 ca1 w (HV.callee (S0 := []) (vs0 := []) hh (roC (hh.rsep (S0 := []) (vs0 := []) 1 rfl) roN)) hna1 hqa1 hla1 h11) (fun l_1 h12 => ?_)
    have h13 := h12
    refine g_sel (S' := [_, _]) (vs' := [_]) [0, 1] [0] 0 (by decide) (by decide) rfl rfl rfl ?_
    refine p_next (fun w hh => hh.sel [0, 1] [] 0 (by decide) (by decide) rfl rfl rfl) ?_
    refine p_free rfl rfl rfl rfl (fun _ _ => v_build (vs := [(1, _), (2, _)]) (cells := [_, _, _, _, _]) rfl rfl) ?_
    refine p_one rfl ?_
    refine g_allocV (fun w => Try.zeroValue59 w) rfl (fun b_2 h14 => ?_)
    refine p_next (fun w hh => hh.sel [1, 2] [] 0 (by decide) (by decide) rfl rfl rfl) ?_
    refine p_one rfl ?_
    refine g_stSA (us := #[_, _, _, _, _]) (cs' := [_, _, _, _, _]) (S' := [_, _, _]) 0 (fun w => Try.sizeOf59 w) rfl rfl rfl rfl rfl rfl rfl ?_
    refine p_next (fun w hh => hh.sel [1, 2] [] 0 (by decide) (by decide) rfl rfl rfl) ?_
    refine p_done ?_
    refine g_vnil 158 ?_
    refine g_vnil 159 ?_
    obtain rfl := Option.some.inj hm
    exact g_leaf (b_2, ⟨none, 0, 0, []⟩, l_1, ⟨none, 0, 0, []⟩) (⟨VOK.nil, h13, VOK.nil⟩) ((.cons rfl (.cons rfl (.cons rfl .nil)))) (fun w hh => hh.sel [1, 2, 0] [1, 2, 0] 0 (by decide) (by decide) rfl rfl rfl)
   refine p_alt rfl ?_ ?_
   ·refine g_allocV (fun w => Try.zeroValue59 w) rfl (fun b_3 h15 => ?_)
    refine p_next (fun w hh => hh.sel [1, 2] [] 0 (by decide) (by decide) rfl rfl rfl) ?_
    refine p_one rfl ?_
    refine g_callH [] [] rfl rfl rfl rfl rfl rfl rfl (fun a w => Try.call65 a w) (fun w hh => c_laurelkit_Dup_int s0.floors qa1 na1 ca1 w (HV.callee (S0 := []) (vs0 := []) hh (roC (hh.rsep (S0 := []) (vs0 := []) 1 rfl) roN)) hna1 hqa1 hla1 h11) (fun l_2 h16 => ?_)
    have h17 := h16
    refine g_sel (S' := [_, _, _]) (vs' := [_]) [0, 1, 2] [0] 0 (by decide) (by decide) rfl rfl rfl ?_
    refine p_next (fun w hh => hh.sel [1, 2] [] 0 (by decide) (by decide) rfl rfl rfl) ?_
    refine p_free rfl rfl rfl rfl (fun _ _ => v_build (vs := [(1, _), (2, _)]) (cells := [_, _, _, _, _]) rfl rfl) ?_
    refine p_one rfl ?_
    refine g_stSA (us := #[_, _, _, _, _]) (cs' := [_, _, _, _, _]) (S' := [_, _, _]) 0 (fun w => Try.sizeOf59 w) rfl rfl rfl rfl rfl rfl rfl ?_
    refine p_next (fun w hh => hh.sel [1, 2] [] 0 (by decide) (by decide) rfl rfl rfl) ?_
    refine p_done ?_
    refine g_vnil 158 ?_
    refine g_vnil 159 ?_
    obtain rfl := Option.some.inj hm
    exact g_leaf (b_3, ⟨none, 0, 0, []⟩, l_2, ⟨none, 0, 0, []⟩) (⟨VOK.nil, h17, VOK.nil⟩) ((.cons rfl (.cons rfl (.cons rfl .nil)))) (fun w hh => hh.sel [1, 2, 0] [1, 2, 0] 0 (by decide) (by decide) rfl rfl rfl)
   exact p_nil
  ·intro l hj
   obtain ⟨h8, h9, h10⟩ := hj
   replace hm := h7
   refine g_n_then ?_
   refine g_seq ?_
   refine g_seq ?_
   refine g_region ?_
   refine g_val rfl rfl rfl (fun w _ => v_fieldAddr 0 (Try.runUnderlying29 w) rfl (Try.sizeOf23 w) rfl) ?_
   refine g_val rfl rfl rfl (fun w hh => v_load (Try.isAgg23 w) rfl (hh.cell 1 rfl rfl)) ?_
   refine g_val rfl rfl rfl (fun w _ => v_lenR hna0 (Try.runUnderlying23 w) rfl) ?_
   refine g_val rfl rfl rfl (fun _ _ => v_move rfl) ?_
   refine g_nil ?_
   refine g_n_then ?_
   obtain ⟨o_1, h18, h19⟩ := bindO hm
   refine g_cut (ι := VL) (fun l_3 => VOK 2 l_3.n l_3.cap (RW.enc o_1) l_3.sp l_3.q) (fun l_3 => [(1, ptr b 0), (2, ptr b_1 0), (3, ptr l.1 0)]) (fun l_3 => [(b_1, .cells #[slv none 0 0, .int .i64 0, .int .i64 0, slv none 0 0, slv none 0 0] 59 (0, 0)), (b, .cells #[.slice qa0 na0 ca0, .int .i64 s0.wind.lo, .int .i64 s0.wind.hi, .slice qa1 na1 ca1, .slice qa2 na2 ca2] 29 (0, 0)), (l.1, .cells #[slv l_3.q l_3.n l_3.cap, .int .i64 o.wind.lo, .int .i64 o.wind.hi, slv l.2.2.1.q l.2.2.1.n l.2.2.1.cap, slv l.2.2.2.q l.2.2.2.n l.2.2.2.cap] 59 (0, 0))]) (fun l_3 => [⟨158, RW.enc o_1, l_3.sp, l_3.q⟩, ⟨3, RI.enc o.floors, l.2.2.1.sp, l.2.2.1.q⟩, ⟨159, RS.enc o.sills, l.2.2.2.sp, l.2.2.2.q⟩]) ?_ ?_
   ·replace hm := h18
    refine g_block ?_
    refine g_loopF (ι := VL) hm (fun s l_4 => VOK 2 l_4.n l_4.cap (RW.enc s.out3_table) l_4.sp l_4.q) (fun s l_4 => [(1, ptr b 0), (2, ptr b_1 0), (3, ptr l.1 0), (15, .slice qa0 na0 ca0), (16, .int .i64 (s0.table.length : Int)), (17, .int .i64 s.t17)]) (fun s l_4 => [(b_1, .cells #[slv none 0 0, .int .i64 0, .int .i64 0, slv none 0 0, slv none 0 0] 59 (0, 0)), (b, .cells #[.slice qa0 na0 ca0, .int .i64 s0.wind.lo, .int .i64 s0.wind.hi, .slice qa1 na1 ca1, .slice qa2 na2 ca2] 29 (0, 0)), (l.1, .cells #[slv l_4.q l_4.n l_4.cap, .int .i64 o.wind.lo, .int .i64 o.wind.hi, slv l.2.2.1.q l.2.2.1.n l.2.2.1.cap, slv l.2.2.2.q l.2.2.2.n l.2.2.2.cap] 59 (0, 0))]) (fun s l_4 => [⟨158, RW.enc s.out3_table, l_4.sp, l_4.q⟩, ⟨3, RI.enc o.floors, l.2.2.1.sp, l.2.2.1.q⟩, ⟨159, RS.enc o.sills, l.2.2.2.sp, l.2.2.2.q⟩]) l.2.1 (h8) ((.cons rfl (.cons rfl (.cons rfl (.cons rfl (.cons rfl (.cons rfl .nil))))))) (fun w hh => hh) (fun s l_4 r hpl hm h22 => ?_)
    have h21 := hpl
    unfold m_laurellaw01_theirs_L0 at hm
    refine g_seq ?_
    refine g_region ?_
    refine g_val rfl rfl rfl (fun _ _ => v_lss rfl rfl) ?_
    refine g_nil ?_
    refine g_n_then ?_
    refine g_seq ?_
    refine g_cond rfl (fun h23 => ?_) (fun h23 => ?_)
    ·replace hm := ifT (of_decide_eq_true h23) hm
     refine g_skip ?_
     refine g_n_then ?_
     refine g_seq ?_
     refine g_block ?_
     refine g_seq ?_
     refine g_region ?_
     obtain ⟨t19, h24, hm⟩ := bindO hm
     refine g_val rfl rfl rfl (fun w _ => v_ixR h24 (Try.runUnderlying23 w) (Try.sizeOf68 w) rfl rfl hna0 hqa0) ?_
     refine g_val rfl rfl rfl (fun w hh => v_ldEA RW 0 [.int .i64 t19.min, .int .i64 t19.h] h24 (Try.isAgg68 w) (Try.sizeOf68 w) rfl (hh.seg 0 rfl) rfl (Nat.add_zero _).symm) ?_
     refine g_allocV (fun w => Try.zeroValue68 w) rfl (fun b_4 h25 => ?_)
     refine g_stSA (us := #[_, _]) (cs' := [_, _]) (S' := [_, _, _, _]) 0 (fun w => Try.sizeOf68 w) rfl rfl rfl rfl rfl rfl rfl ?_
     refine g_nil ?_
     refine g_n_then ?_
     refine g_region ?_
     refine g_val rfl rfl rfl (fun w _ => v_fieldAddr 0 (Try.runUnderlying59 w) rfl (Try.sizeOf56 w) rfl) ?_
     refine g_val rfl rfl rfl (fun w hh => v_load (Try.isAgg56 w) rfl (hh.cell 3 rfl rfl)) ?_
     refine g_val rfl rfl rfl (fun w hh => v_loadAgg (vs := [_, _]) (Try.isAgg68 w) (Try.sizeOf68 w) rfl (hh.cells 0 rfl rfl)) ?_
     refine g_vlit RW [t19] (ps := [(0, _)]) (cells := [_, _]) (fun w => Try.runUnderlying56 w) (fun w => Try.sizeOf158 w) (fun w => Try.zeroValue158 w) rfl rfl rfl rfl rfl rfl rfl rfl (fun L h26 => ?_)
     obtain ⟨t25, h27, hm⟩ := bindO hm
     refine g_vapp RW 1 h27 Try.underlying56 gxinf158 rfl rfl rfl rfl rfl h21 rfl rfl (vlen RW h26 rfl) (AOK.q (vne h26)) (fun w hh => (hh.vsegA 0 rfl h26)) rfl (fun L_1 h28 h28n => ?_)
     refine g_sel (S' := [_, _, _, _]) (vs' := [_, _, _, _]) [0, 1, 2, 3] [0, 1, 2, 3] 0 (by decide) (by decide) rfl rfl rfl ?_
     refine g_val rfl rfl rfl (fun w _ => v_fieldAddr 0 (Try.runUnderlying59 w) rfl (Try.sizeOf56 w) rfl) ?_
     refine g_stS (cs' := #[_, _, _, _, _]) (S' := [_, _, _, _]) 3 (fun w => Try.sizeOf56 w) rfl rfl rfl rfl rfl rfl rfl ?_
     refine g_nil ?_
     refine g_n_blk ?_
     refine g_n_then ?_
     refine g_region ?_
     obtain ⟨t27, h29, hm⟩ := bindO hm
     refine g_val rfl rfl rfl (fun _ _ => v_addc h29 rfl rfl) ?_
     refine g_val rfl rfl rfl (fun _ _ => v_move rfl) ?_
     refine g_nil ?_
     obtain rfl := Option.some.inj hm
     refine g_n_then ?_
     exact g_again' _ L_1 rfl (h28) ((.cons rfl (.cons rfl (.cons rfl (.cons rfl (.cons rfl (.cons rfl .nil))))))) (fun w hh => hh.sel [1, 2, 3] [1, 2, 3] 0 (by decide) (by decide) rfl rfl rfl)
    ·replace hm := ifF (of_decide_eq_false h23) hm
     refine g_exit ?_
     refine g_x_then ?_
     refine g_x_then ?_
     refine g_x_blk ?_
     obtain rfl := Option.some.inj hm
     have hbo := h22 _ rfl
     subst hbo
     exact g_leaf l_4 (h21) ((.cons rfl (.cons rfl (.cons rfl .nil)))) (fun w hh => hh)
   ·intro l_3 hj
    have h20 := hj
    replace hm := h19
    refine g_n_then ?_
    refine g_seq ?_
    refine g_seq ?_
    refine g_region ?_
    refine g_val rfl rfl rfl (fun w _ => v_fieldAddr 4 (Try.runUnderlying29 w) rfl (Try.sizeOf27 w) rfl) ?_
    refine g_val rfl rfl rfl (fun w hh => v_load (Try.isAgg27 w) rfl (hh.cell 1 rfl rfl)) ?_
    refine g_val rfl rfl rfl (fun w _ => v_lenR hna2 (Try.runUnderlying27 w) rfl) ?_
    refine g_val rfl rfl rfl (fun _ _ => v_move rfl) ?_
    refine g_nil ?_
    refine g_n_then ?_
    obtain ⟨o_2, h30, h31⟩ := bindO hm
    refine g_cut (ι := VL) (fun l_5 => VOK 3 l_5.n l_5.cap (RS.enc o_2) l_5.sp l_5.q) (fun l_5 => [(2, ptr b_1 0), (3, ptr l.1 0)]) (fun l_5 => [(b_1, .cells #[slv none 0 0, .int .i64 0, .int .i64 0, slv none 0 0, slv none 0 0] 59 (0, 0)), (b, .cells #[.slice qa0 na0 ca0, .int .i64 s0.wind.lo, .int .i64 s0.wind.hi, .slice qa1 na1 ca1, .slice qa2 na2 ca2] 29 (0, 0)), (l.1, .cells #[slv l_3.q l_3.n l_3.cap, .int .i64 o.wind.lo, .int .i64 o.wind.hi, slv l.2.2.1.q l.2.2.1.n l.2.2.1.cap, slv l_5.q l_5.n l_5.cap] 59 (0, 0))]) (fun l_5 => [⟨158, RW.enc o_1, l_3.sp, l_3.q⟩, ⟨3, RI.enc o.floors, l.2.2.1.sp, l.2.2.1.q⟩, ⟨159, RS.enc o_2, l_5.sp, l_5.q⟩]) ?_ ?_
    ·replace hm := h30
     refine g_block ?_
     refine g_loopF (ι := VL) hm (fun s_1 l_6 => VOK 3 l_6.n l_6.cap (RS.enc s_1.out3_sills) l_6.sp l_6.q) (fun s_1 l_6 => [(2, ptr b_1 0), (3, ptr l.1 0), (29, .slice qa2 na2 ca2), (30, .int .i64 (s0.sills.length : Int)), (31, .int .i64 s_1.t31)]) (fun s_1 l_6 => [(b_1, .cells #[slv none 0 0, .int .i64 0, .int .i64 0, slv none 0 0, slv none 0 0] 59 (0, 0)), (b, .cells #[.slice qa0 na0 ca0, .int .i64 s0.wind.lo, .int .i64 s0.wind.hi, .slice qa1 na1 ca1, .slice qa2 na2 ca2] 29 (0, 0)), (l.1, .cells #[slv l_3.q l_3.n l_3.cap, .int .i64 o.wind.lo, .int .i64 o.wind.hi, slv l.2.2.1.q l.2.2.1.n l.2.2.1.cap, slv l_6.q l_6.n l_6.cap] 59 (0, 0))]) (fun s_1 l_6 => [⟨158, RW.enc o_1, l_3.sp, l_3.q⟩, ⟨3, RI.enc o.floors, l.2.2.1.sp, l.2.2.1.q⟩, ⟨159, RS.enc s_1.out3_sills, l_6.sp, l_6.q⟩]) l.2.2.2 (h10) ((.cons rfl (.cons rfl (.cons rfl (.cons rfl (.cons rfl .nil)))))) (fun w hh => hh) (fun s_1 l_6 r_1 hpl hm h34 => ?_)
     have h33 := hpl
     unfold m_laurellaw01_theirs_L1 at hm
     refine g_seq ?_
     refine g_region ?_
     refine g_val rfl rfl rfl (fun _ _ => v_lss rfl rfl) ?_
     refine g_nil ?_
     refine g_n_then ?_
     refine g_seq ?_
     refine g_cond rfl (fun h35 => ?_) (fun h35 => ?_)
     ·replace hm := ifT (of_decide_eq_true h35) hm
      refine g_skip ?_
      refine g_n_then ?_
      refine g_seq ?_
      refine g_block ?_
      refine g_seq ?_
      refine g_region ?_
      obtain ⟨t33, h36, hm⟩ := bindO hm
      refine g_val rfl rfl rfl (fun w _ => v_ixR h36 (Try.runUnderlying27 w) (Try.sizeOf51 w) rfl rfl hna2 hqa2) ?_
      refine g_val rfl rfl rfl (fun w hh => v_ldEA RS 0 [.int .i64 t33.a, .int .i64 t33.b, .int .i64 t33.h] h36 (Try.isAgg51 w) (Try.sizeOf51 w) rfl (hh.seg 2 rfl) rfl (Nat.add_zero _).symm) ?_
      refine g_allocV (fun w => Try.zeroValue51 w) rfl (fun b_5 h37 => ?_)
      refine g_stSA (us := #[_, _, _]) (cs' := [_, _, _]) (S' := [_, _, _, _]) 0 (fun w => Try.sizeOf51 w) rfl rfl rfl rfl rfl rfl rfl ?_
      refine g_nil ?_
      refine g_n_then ?_
      refine g_region ?_
      refine g_val rfl rfl rfl (fun w _ => v_fieldAddr 4 (Try.runUnderlying59 w) rfl (Try.sizeOf57 w) rfl) ?_
      refine g_val rfl rfl rfl (fun w hh => v_load (Try.isAgg57 w) rfl (hh.cell 3 rfl rfl)) ?_
      refine g_val rfl rfl rfl (fun w hh => v_loadAgg (vs := [_, _, _]) (Try.isAgg51 w) (Try.sizeOf51 w) rfl (hh.cells 0 rfl rfl)) ?_
      refine g_vlit RS [(⟨t33.a, t33.b, t33.h⟩ : Sill)] (ps := [(0, _)]) (cells := [_, _, _]) (fun w => Try.runUnderlying57 w) (fun w => Try.sizeOf159 w) (fun w => Try.zeroValue159 w) rfl rfl rfl rfl rfl rfl rfl rfl (fun L_2 h38 => ?_)
      obtain ⟨t39, h39, hm⟩ := bindO hm
      refine g_vapp RS 3 h39 Try.underlying57 gxinf159 rfl rfl rfl rfl rfl h33 rfl rfl (vlen RS h38 rfl) (AOK.q (vne h38)) (fun w hh => (hh.vsegA 0 rfl h38)) rfl (fun L_3 h40 h40n => ?_)
      refine g_sel (S' := [_, _, _, _]) (vs' := [_, _, _, _]) [0, 1, 2, 3] [0, 1, 2, 3] 0 (by decide) (by decide) rfl rfl rfl ?_
      refine g_val rfl rfl rfl (fun w _ => v_fieldAddr 4 (Try.runUnderlying59 w) rfl (Try.sizeOf57 w) rfl) ?_
      refine g_stS (cs' := #[_, _, _, _, _]) (S' := [_, _, _, _]) 3 (fun w => Try.sizeOf57 w) rfl rfl rfl rfl rfl rfl rfl ?_
      refine g_nil ?_
      refine g_n_blk ?_
      refine g_n_then ?_
      refine g_region ?_
      obtain ⟨t41, h41, hm⟩ := bindO hm
      refine g_val rfl rfl rfl (fun _ _ => v_addc h41 rfl rfl) ?_
      refine g_val rfl rfl rfl (fun _ _ => v_move rfl) ?_
      refine g_nil ?_
      obtain rfl := Option.some.inj hm
      refine g_n_then ?_
      exact g_again' _ L_3 rfl (h40) ((.cons rfl (.cons rfl (.cons rfl (.cons rfl (.cons rfl .nil)))))) (fun w hh => hh.sel [1, 2, 3] [1, 2, 3] 0 (by decide) (by decide) rfl rfl rfl)
     ·replace hm := ifF (of_decide_eq_false h35) hm
      refine g_exit ?_
      refine g_x_then ?_
      refine g_x_then ?_
      refine g_x_blk ?_
      obtain rfl := Option.some.inj hm
      have hbo := h34 _ rfl
      subst hbo
      exact g_leaf l_6 (h33) ((.cons rfl (.cons rfl .nil))) (fun w hh => hh)
    ·intro l_5 hj
     have h32 := hj
     replace hm := h31
     refine g_n_then ?_
     refine g_seq ?_
     refine g_region ?_
     refine g_val rfl rfl rfl (fun w hh => v_loadAgg (vs := [_, _, _, _, _]) (Try.isAgg59 w) (Try.sizeOf59 w) rfl (hh.cells 2 rfl rfl)) ?_
     refine g_stSA (us := #[_, _, _, _, _]) (cs' := [_, _, _, _, _]) (S' := [_, _, _]) 0 (fun w => Try.sizeOf59 w) rfl rfl rfl rfl rfl rfl rfl ?_
     refine g_nil ?_
     refine g_n_then ?_
     refine g_ret ?_
     obtain rfl := Option.some.inj hm
     refine g_done rfl (fun w hh => (.cell rfl (loadVar_agg (vs := [_, _, _, _, _]) (Try.isAgg59 _) (Try.sizeOf59 _) (hh.cells 0 rfl rfl)) .nil)) (fun w hh => ⟨(l_3, l.2.2.1, l_5), rfl, ⟨h20, h9, h32⟩, hh.sel [] [0, 1, 2] 3 (by decide) (by decide) rfl rfl rfl⟩)
def m_laurelref01_off (n0 : Int) (lo1 : Int) (hi2 : Int) : Option Bool :=
 (if n0 < lo1 then
 (some true) else
 (some (decide (hi2 < n0)))).bind fun o =>
 some o
set_option maxRecDepth 100000 in
set_option maxHeartbeats 4000000 in
theorem c_laurelref01_off (n0 : Int) (lo1 : Int) (hi2 : Int)  (w : World) (hw : HV w (keys [] []) [] [] [] w)  {res : Bool} (hm : m_laurelref01_off n0 lo1 hi2 = some res) :
    Calls Try.prog 107 #[.int .i64 n0, .int .i64 lo1, .int .i64 hi2] w (fun en w' => ∃ l : Unit, en = .returned (.bool res) ∧ (True) ∧ HV w (keys [] []) [] [] [] w') := by
  unfold m_laurelref01_off at hm
  refine g_enter (args := [.int .i64 n0, .int .i64 lo1, .int .i64 hi2]) Try.func107 rfl Try.ntmps107 rfl (e := [(0, _), (1, _), (2, _)]) rfl (H := HV w (keys [] []) [] [] []) hw ?_
  refine g_seq ?_
  refine g_region ?_
  refine g_val rfl rfl rfl (fun _ _ => v_assign rfl) ?_
  refine g_nil ?_
  refine g_n_then ?_
  refine g_seq ?_
  obtain ⟨o, h1, h2⟩ := bindO hm
  refine g_cut (ι := Unit) (fun l => True) (fun l => [(6, .bool o)]) (fun l => []) (fun l => []) ?_ ?_
  ·replace hm := h1
   refine g_region ?_
   refine g_val rfl rfl rfl (fun _ _ => v_move rfl) ?_
   refine g_val rfl rfl rfl (fun _ _ => v_move rfl) ?_
   refine g_val rfl rfl rfl (fun _ _ => v_lss rfl rfl) ?_
   refine g_val rfl rfl rfl (fun _ _ => v_move rfl) ?_
   refine g_case 10 rfl (fun h3 => ?_) (fun h3 => ?_)
   ·replace hm := ifT (of_decide_eq_true h3) hm
    refine g_skipG rfl rfl rfl rfl rfl rfl ?_
    refine g_skipG rfl rfl rfl rfl rfl rfl ?_
    refine g_skipG rfl rfl rfl rfl rfl rfl ?_
    refine g_val rfl rfl rfl (fun _ _ => v_pickT rfl rfl) ?_
    refine g_val rfl rfl rfl (fun _ _ => v_assign rfl) ?_
    refine g_nil ?_
    obtain rfl := Option.some.inj hm
    exact g_leaf () (trivial) ((.cons rfl .nil)) (fun w hh => hh)
   ·replace hm := ifF (of_decide_eq_false h3) hm
    refine v_unguard rfl rfl ?_
    refine g_val rfl rfl rfl (fun _ _ => v_move rfl) ?_
    refine v_unguard rfl rfl ?_
    refine g_val rfl rfl rfl (fun _ _ => v_move rfl) ?_
    refine v_unguard rfl rfl ?_
    refine g_val rfl rfl rfl (fun _ _ => v_gtr rfl rfl) ?_
    refine g_val rfl rfl rfl (fun _ _ => v_pickF rfl rfl) ?_
    refine g_val rfl rfl rfl (fun _ _ => v_assign rfl) ?_
    refine g_nil ?_
    obtain rfl := Option.some.inj hm
    exact g_leaf () (trivial) ((.cons rfl .nil)) (fun w hh => hh)
  ·intro l hj
   replace hm := h2
   refine g_n_then ?_
   refine g_ret ?_
   obtain rfl := Option.some.inj hm
   refine g_done rfl (fun w hh => (.tmp rfl .nil)) (fun w hh => ⟨(), rfl, trivial, hh⟩)
def m_laurelref01_Check_L0 (s0 : Sands) (s : Int) : Option (Int ⊕ (Unit ⊕ Int)) :=
 if s < (s0.table.length : Int) then
 (((ix s0.table s).bind fun t37 =>
 (m_laurelref01_off t37.min 0 1440).bind fun t40 =>
 if t40 = true then
 (some true) else
 ((ix s0.table s).bind fun t45 =>
 (m_laurelref01_off t45.h 0 999).bind fun t48 =>
 some t48)).bind fun o_2 =>
 if o_2 = true then
 (some (.inr (.inr 3))) else
 ((addc s 1).bind fun t33 =>
 some (.inl t33))) else
 (some (.inr (.inl ())))
def m_laurelref01_Check_L1 (s0 : Sands) (s_1 : Int) : Option (Int ⊕ (Unit ⊕ Int)) :=
 if s_1 < (s0.floors.length : Int) then
 ((ix s0.floors s_1).bind fun t68 =>
 (m_laurelref01_off t68 0 999).bind fun t70 =>
 if t70 = true then
 (some (.inr (.inr 3))) else
 ((addc s_1 1).bind fun t64 =>
 some (.inl t64))) else
 (some (.inr (.inl ())))
def m_laurelref01_Check_L2 (s0 : Sands) (s_2 : Int) : Option (Int ⊕ (Unit ⊕ Int)) :=
 if s_2 < (s0.sills.length : Int) then
 ((ix s0.sills s_2).bind fun t81 =>
 (m_laurelref01_off t81.h 0 999).bind fun t84 =>
 if t84 = true then
 (some (.inr (.inr 3))) else
 ((addc s_2 1).bind fun t77 =>
 some (.inl t77))) else
 (some (.inr (.inl ())))
def m_laurelref01_Check_L3 (s0 : Sands) (s_3 : Int) : Option (Int ⊕ (Unit ⊕ Int)) :=
 if s_3 < (s0.table.length : Int) then
 ((ix s0.table s_3).bind fun t95 =>
 (subc s_3 1).bind fun t101 =>
 (ix s0.table t101).bind fun t102 =>
 if t95.min ≤ t102.min then
 (some (.inr (.inr 4))) else
 ((addc s_3 1).bind fun t91 =>
 some (.inl t91))) else
 (some (.inr (.inl ())))
def m_laurelref01_Check_L4 (s0 : Sands) (s_4 : Int) : Option (Int ⊕ (Unit ⊕ Int)) :=
 if s_4 < (s0.sills.length : Int) then
 (((ix s0.sills s_4).bind fun t123 =>
 (subc (s0.floors.length : Int) 1).bind fun t127 =>
 (m_laurelref01_off t123.a (-1) t127).bind fun t128 =>
 if t128 = true then
 (some true) else
 ((ix s0.sills s_4).bind fun t133 =>
 (subc (s0.floors.length : Int) 1).bind fun t137 =>
 (m_laurelref01_off t133.b (-1) t137).bind fun t138 =>
 some t138)).bind fun o_8 =>
 if o_8 = true then
 (some (.inr (.inr 1))) else
 ((addc s_4 1).bind fun t119 =>
 some (.inl t119))) else
 (some (.inr (.inl ())))
def m_laurelref01_Check_L5 (s0 : Sands) (s_5 : Int) : Option (Int ⊕ (Unit ⊕ Int)) :=
 if s_5 < (s0.sills.length : Int) then
 ((ix s0.sills s_5).bind fun t150 =>
 (ix s0.sills s_5).bind fun t156 =>
 if t150.a = t156.b then
 (some (.inr (.inr 8))) else
 ((addc s_5 1).bind fun t146 =>
 some (.inl t146))) else
 (some (.inr (.inl ())))
def m_laurelref01_Check (s0 : Sands) : Option Int :=
 ((m_laurelref01_off (s0.table.length : Int) 2 12).bind fun t16 =>
 if t16 = true then
 (some true) else
 ((m_laurelref01_off (s0.floors.length : Int) 1 8).bind fun t19 =>
 if t19 = true then
 (some true) else
 (some (decide (16 < (s0.sills.length : Int)))))).bind fun o =>
 if o = true then
 (some 2) else
 ((iterM FU (m_laurelref01_Check_L0 s0) 0).bind fun o_1 =>
 oc o_1 (fun j => ((m_laurelref01_off s0.wind.lo (-50) 50).bind fun t53 =>
 if t53 = true then
 (some true) else
 ((m_laurelref01_off s0.wind.hi (-50) 50).bind fun t58 =>
 some t58)).bind fun o_3 =>
 if o_3 = true then
 (some 3) else
 ((iterM FU (m_laurelref01_Check_L1 s0) 0).bind fun o_4 =>
 oc o_4 (fun j_1 => (iterM FU (m_laurelref01_Check_L2 s0) 0).bind fun o_5 =>
 oc o_5 (fun j_2 => (iterM FU (m_laurelref01_Check_L3 s0) 1).bind fun o_6 =>
 oc o_6 (fun j_3 => if s0.wind.hi < s0.wind.lo then
 (some 4) else
 ((iterM FU (m_laurelref01_Check_L4 s0) 0).bind fun o_7 =>
 oc o_7 (fun j_4 => (iterM FU (m_laurelref01_Check_L5 s0) 0).bind fun o_9 =>
 oc o_9 (fun j_5 => some 0) (fun r_6 => some r_6)) (fun r_7 => some r_7))) (fun r_8 => some r_8)) (fun r_9 => some r_9)) (fun r_10 => some r_10))) (fun r_11 => some r_11))
set_option maxRecDepth 100000 in
set_option maxHeartbeats 4000000 in
theorem c_laurelref01_Check (s0 : Sands) (qa0 : Option Addr) (na0 ca0 : Nat) (qa1 : Option Addr) (na1 ca1 : Nat) (qa2 : Option Addr) (na2 ca2 : Nat) (w : World) (hw : HV w (keys [] []) [] [] [(aB qa0, aO qa0, RW.enc s0.table), (aB qa1, aO qa1, RI.enc s0.floors), (aB qa2, aO qa2, RS.enc s0.sills)] w) (hna0 : s0.table.length = na0) (hqa0 : AOK na0 qa0) (hla0 : na0 ≤ ca0) (hna1 : s0.floors.length = na1) (hqa1 : AOK na1 qa1) (hla1 : na1 ≤ ca1) (hna2 : s0.sills.length = na2) (hqa2 : AOK na2 qa2) (hla2 : na2 ≤ ca2) {res : Int} (hm : m_laurelref01_Check s0 = some res) :
    Calls Try.prog 33 #[.agg #[.slice qa0 na0 ca0, .int .i64 s0.wind.lo, .int .i64 s0.wind.hi, .slice qa1 na1 ca1, .slice qa2 na2 ca2]] w (fun en w' => ∃ l : Unit, en = .returned (.int .i64 res) ∧ (True) ∧ HV w (keys [] []) [] [] [] w') := by
  unfold m_laurelref01_Check at hm
  refine g_enter (args := [.agg #[.slice qa0 na0 ca0, .int .i64 s0.wind.lo, .int .i64 s0.wind.hi, .slice qa1 na1 ca1, .slice qa2 na2 ca2]]) Try.func33 rfl Try.ntmps33 rfl (e := [(0, _)]) rfl (H := HV w (keys [] []) [] [] [(aB qa0, aO qa0, RW.enc s0.table), (aB qa1, aO qa1, RI.enc s0.floors), (aB qa2, aO qa2, RS.enc s0.sills)]) hw ?_
  refine g_seq ?_
  refine g_region ?_
  refine g_boxV rfl rfl (fun b h1 => ?_)
  refine g_val rfl rfl rfl (fun _ _ => v_assign rfl) ?_
  refine g_nil ?_
  refine g_n_then ?_
  refine g_seq ?_
  refine g_region ?_
  refine g_val rfl rfl rfl (fun w _ => v_fieldAddr 3 (Try.runUnderlying59 w) rfl (Try.sizeOf26 w) rfl) ?_
  refine g_val rfl rfl rfl (fun w hh => v_load (Try.isAgg26 w) rfl (hh.cell 0 rfl rfl)) ?_
  refine g_val rfl rfl rfl (fun w _ => v_lenR hna1 (Try.runUnderlying26 w) rfl) ?_
  refine g_val rfl rfl rfl (fun _ _ => v_assign rfl) ?_
  refine g_nil ?_
  refine g_n_then ?_
  refine g_seq ?_
  refine g_seq ?_
  obtain ⟨o, h2, h3⟩ := bindO hm
  refine g_cut (ι := Unit) (fun l => True) (fun l => [(1, ptr b 0), (3, .int .i64 (s0.floors.length : Int)), (26, .bool o)]) (fun l => [(b, .cells #[.slice qa0 na0 ca0, .int .i64 s0.wind.lo, .int .i64 s0.wind.hi, .slice qa1 na1 ca1, .slice qa2 na2 ca2] 59 (0, 0))]) (fun l => []) ?_ ?_
  ·replace hm := h2
   refine g_region ?_
   refine g_val rfl rfl rfl (fun w _ => v_fieldAddr 0 (Try.runUnderlying59 w) rfl (Try.sizeOf56 w) rfl) ?_
   refine g_val rfl rfl rfl (fun w hh => v_load (Try.isAgg56 w) rfl (hh.cell 0 rfl rfl)) ?_
   refine g_val rfl rfl rfl (fun w _ => v_lenR hna0 (Try.runUnderlying56 w) rfl) ?_
   obtain ⟨t16, h4, hm⟩ := bindO hm
   refine g_callH [] [] rfl rfl rfl rfl rfl rfl rfl (fun a w => Try.call107 a w) (fun w hh => c_laurelref01_off (s0.table.length : Int) 2 12 w (HV.callee (S0 := []) (vs0 := []) hh roN)  h4) (fun l_1 h5 => ?_)
   refine g_val rfl rfl rfl (fun _ _ => v_move rfl) ?_
   refine g_case 17 rfl (fun h6 => ?_) (fun h6 => ?_)
   ·replace hm := ifT (h6) hm
    refine g_skipG rfl rfl rfl rfl rfl rfl ?_
    refine g_skipG rfl rfl rfl rfl rfl rfl ?_
    refine g_val rfl rfl rfl (fun _ _ => v_pickT rfl rfl) ?_
    refine g_val rfl rfl rfl (fun _ _ => v_move rfl) ?_
    refine g_skipG rfl rfl rfl rfl rfl rfl ?_
    refine g_skipG rfl rfl rfl rfl rfl rfl ?_
    refine g_skipG rfl rfl rfl rfl rfl rfl ?_
    refine g_skipG rfl rfl rfl rfl rfl rfl ?_
    refine g_val rfl rfl rfl (fun _ _ => v_pickT rfl rfl) ?_
    refine g_nil ?_
    obtain rfl := Option.some.inj hm
    exact g_leaf () (trivial) ((.cons rfl (.cons rfl (.cons rfl .nil)))) (fun w hh => hh)
   ·replace hm := ifF ((fun hh => Bool.noConfusion ((h6).symm.trans hh))) hm
    refine v_unguard rfl rfl ?_
    refine g_val rfl rfl rfl (fun _ _ => v_move rfl) ?_
    refine v_unguard rfl rfl ?_
    obtain ⟨t19, h7, hm⟩ := bindO hm
    refine g_callH [] [] rfl rfl rfl rfl rfl rfl rfl (fun a w => Try.call107 a w) (fun w hh => c_laurelref01_off (s0.floors.length : Int) 1 8 w (HV.callee (S0 := []) (vs0 := []) hh roN)  h7) (fun l_2 h8 => ?_)
    refine g_val rfl rfl rfl (fun _ _ => v_pickF rfl rfl) ?_
    refine g_val rfl rfl rfl (fun _ _ => v_move rfl) ?_
    refine g_case 21 rfl (fun h9 => ?_) (fun h9 => ?_)
    ·replace hm := ifT (h9) hm
     refine g_skipG rfl rfl rfl rfl rfl rfl ?_
     refine g_skipG rfl rfl rfl rfl rfl rfl ?_
     refine g_skipG rfl rfl rfl rfl rfl rfl ?_
     refine g_skipG rfl rfl rfl rfl rfl rfl ?_
     refine g_val rfl rfl rfl (fun _ _ => v_pickT rfl rfl) ?_
     refine g_nil ?_
     obtain rfl := Option.some.inj hm
     exact g_leaf () (trivial) ((.cons rfl (.cons rfl (.cons rfl .nil)))) (fun w hh => hh)
    ·replace hm := ifF ((fun hh => Bool.noConfusion ((h9).symm.trans hh))) hm
     refine v_unguard rfl rfl ?_
     refine g_val rfl rfl rfl (fun w _ => v_fieldAddr 4 (Try.runUnderlying59 w) rfl (Try.sizeOf57 w) rfl) ?_
     refine v_unguard rfl rfl ?_
     refine g_val rfl rfl rfl (fun w hh => v_load (Try.isAgg57 w) rfl (hh.cell 0 rfl rfl)) ?_
     refine v_unguard rfl rfl ?_
     refine g_val rfl rfl rfl (fun w _ => v_lenR hna2 (Try.runUnderlying57 w) rfl) ?_
     refine v_unguard rfl rfl ?_
     refine g_val rfl rfl rfl (fun _ _ => v_gtr rfl rfl) ?_
     refine g_val rfl rfl rfl (fun _ _ => v_pickF rfl rfl) ?_
     refine g_nil ?_
     obtain rfl := Option.some.inj hm
     exact g_leaf () (trivial) ((.cons rfl (.cons rfl (.cons rfl .nil)))) (fun w hh => hh)
  ·intro l hj
   replace hm := h3
   refine g_n_then ?_
   refine g_cond rfl (fun h10 => ?_) (fun h10 => ?_)
   ·replace hm := ifT (h10) hm
    refine g_seq ?_
    refine g_region ?_
    refine g_val rfl rfl rfl (fun _ _ => v_assign rfl) ?_
    refine g_nil ?_
    refine g_n_then ?_
    refine g_ret ?_
    refine g_r_then ?_
    obtain rfl := Option.some.inj hm
    refine g_done rfl (fun w hh => (.tmp rfl .nil)) (fun w hh => ⟨(), rfl, trivial, hh.sel [] [] 3 (by decide) (by decide) rfl rfl rfl⟩)
   ·replace hm := ifF ((fun hh => Bool.noConfusion ((h10).symm.trans hh))) hm
    refine g_skip ?_
    refine g_n_then ?_
    refine g_seq ?_
    refine g_seq ?_
    refine g_region ?_
    refine g_val rfl rfl rfl (fun _ _ => v_assign rfl) ?_
    refine g_nil ?_
    refine g_n_then ?_
    obtain ⟨o_1, h11, h12⟩ := bindO hm
    refine g_cut (ι := Unit) (fun j => o_1 = .inl j) (fun j => [(1, ptr b 0), (3, .int .i64 (s0.floors.length : Int))]) (fun j => [(b, .cells #[.slice qa0 na0 ca0, .int .i64 s0.wind.lo, .int .i64 s0.wind.hi, .slice qa1 na1 ca1, .slice qa2 na2 ca2] 59 (0, 0))]) (fun j => []) ?_ ?_
    ·replace hm := h11
     refine g_block ?_
     refine g_loopF (ι := Unit) hm (fun s l_3 => True) (fun s l_3 => [(1, ptr b 0), (3, .int .i64 (s0.floors.length : Int)), (4, .int .i64 s)]) (fun s l_3 => [(b, .cells #[.slice qa0 na0 ca0, .int .i64 s0.wind.lo, .int .i64 s0.wind.hi, .slice qa1 na1 ca1, .slice qa2 na2 ca2] 59 (0, 0))]) (fun s l_3 => []) () (trivial) ((.cons rfl (.cons rfl (.cons rfl .nil)))) (fun w hh => hh) (fun s l_3 r hpl hm h13 => ?_)
     unfold m_laurelref01_Check_L0 at hm
     refine g_seq ?_
     refine g_seq ?_
     refine g_region ?_
     refine g_val rfl rfl rfl (fun _ _ => v_move rfl) ?_
     refine g_val rfl rfl rfl (fun w _ => v_fieldAddr 0 (Try.runUnderlying59 w) rfl (Try.sizeOf56 w) rfl) ?_
     refine g_val rfl rfl rfl (fun w hh => v_load (Try.isAgg56 w) rfl (hh.cell 0 rfl rfl)) ?_
     refine g_val rfl rfl rfl (fun w _ => v_lenR hna0 (Try.runUnderlying56 w) rfl) ?_
     refine g_val rfl rfl rfl (fun _ _ => v_lss rfl rfl) ?_
     refine g_nil ?_
     refine g_n_then ?_
     refine g_cond rfl (fun h14 => ?_) (fun h14 => ?_)
     ·replace hm := ifT (of_decide_eq_true h14) hm
      refine g_skip ?_
      refine g_n_then ?_
      refine g_seq ?_
      refine g_block ?_
      refine g_seq ?_
      obtain ⟨o_2, h15, h16⟩ := bindO hm
      refine g_cut (ι := Unit) (fun l_4 => True) (fun l_4 => [(1, ptr b 0), (3, .int .i64 (s0.floors.length : Int)), (4, .int .i64 s), (49, .bool o_2)]) (fun l_4 => [(b, .cells #[.slice qa0 na0 ca0, .int .i64 s0.wind.lo, .int .i64 s0.wind.hi, .slice qa1 na1 ca1, .slice qa2 na2 ca2] 59 (0, 0))]) (fun l_4 => []) ?_ ?_
      ·replace hm := h15
       refine g_region ?_
       refine g_val rfl rfl rfl (fun w _ => v_fieldAddr 0 (Try.runUnderlying59 w) rfl (Try.sizeOf56 w) rfl) ?_
       refine g_val rfl rfl rfl (fun w hh => v_load (Try.isAgg56 w) rfl (hh.cell 0 rfl rfl)) ?_
       refine g_val rfl rfl rfl (fun _ _ => v_move rfl) ?_
       obtain ⟨t37, h17, hm⟩ := bindO hm
       refine g_val rfl rfl rfl (fun w _ => v_ixR h17 (Try.runUnderlying56 w) (Try.sizeOf158 w) rfl rfl hna0 hqa0) ?_
       refine g_val rfl rfl rfl (fun w _ => v_fieldAddr 0 (Try.runUnderlying158 w) rfl (Try.sizeOf3 w) rfl) ?_
       refine g_val rfl rfl rfl (fun w hh => v_ldE RW 0 h17 (Try.isAgg3 w) rfl (hh.seg 0 rfl) rfl rfl) ?_
       obtain ⟨t40, h18, hm⟩ := bindO hm
       refine g_callH [] [] rfl rfl rfl rfl rfl rfl rfl (fun a w => Try.call107 a w) (fun w hh => c_laurelref01_off t37.min 0 1440 w (HV.callee (S0 := []) (vs0 := []) hh roN)  h18) (fun l_5 h19 => ?_)
       refine g_val rfl rfl rfl (fun _ _ => v_move rfl) ?_
       refine g_case 41 rfl (fun h20 => ?_) (fun h20 => ?_)
       ·replace hm := ifT (h20) hm
        refine g_skipG rfl rfl rfl rfl rfl rfl ?_
        refine g_skipG rfl rfl rfl rfl rfl rfl ?_
        refine g_skipG rfl rfl rfl rfl rfl rfl ?_
        refine g_skipG rfl rfl rfl rfl rfl rfl ?_
        refine g_skipG rfl rfl rfl rfl rfl rfl ?_
        refine g_skipG rfl rfl rfl rfl rfl rfl ?_
        refine g_skipG rfl rfl rfl rfl rfl rfl ?_
        refine g_val rfl rfl rfl (fun _ _ => v_pickT rfl rfl) ?_
        refine g_nil ?_
        obtain rfl := Option.some.inj hm
        exact g_leaf () (trivial) ((.cons rfl (.cons rfl (.cons rfl (.cons rfl .nil))))) (fun w hh => hh)
       ·replace hm := ifF ((fun hh => Bool.noConfusion ((h20).symm.trans hh))) hm
        refine v_unguard rfl rfl ?_
        refine g_val rfl rfl rfl (fun w _ => v_fieldAddr 0 (Try.runUnderlying59 w) rfl (Try.sizeOf56 w) rfl) ?_
        refine v_unguard rfl rfl ?_
        refine g_val rfl rfl rfl (fun w hh => v_load (Try.isAgg56 w) rfl (hh.cell 0 rfl rfl)) ?_
        refine v_unguard rfl rfl ?_
        refine g_val rfl rfl rfl (fun _ _ => v_move rfl) ?_
        refine v_unguard rfl rfl ?_
        obtain ⟨t45, h21, hm⟩ := bindO hm
        refine g_val rfl rfl rfl (fun w _ => v_ixR h21 (Try.runUnderlying56 w) (Try.sizeOf158 w) rfl rfl hna0 hqa0) ?_
        refine v_unguard rfl rfl ?_
        refine g_val rfl rfl rfl (fun w _ => v_fieldAddr 1 (Try.runUnderlying158 w) rfl (Try.sizeOf3 w) rfl) ?_
        refine v_unguard rfl rfl ?_
        refine g_val rfl rfl rfl (fun w hh => v_ldE RW 1 h21 (Try.isAgg3 w) rfl (hh.seg 0 rfl) rfl rfl) ?_
        refine v_unguard rfl rfl ?_
        obtain ⟨t48, h22, hm⟩ := bindO hm
        refine g_callH [] [] rfl rfl rfl rfl rfl rfl rfl (fun a w => Try.call107 a w) (fun w hh => c_laurelref01_off t45.h 0 999 w (HV.callee (S0 := []) (vs0 := []) hh roN)  h22) (fun l_6 h23 => ?_)
        refine g_val rfl rfl rfl (fun _ _ => v_pickF rfl rfl) ?_
        refine g_nil ?_
        obtain rfl := Option.some.inj hm
        exact g_leaf () (trivial) ((.cons rfl (.cons rfl (.cons rfl (.cons rfl .nil))))) (fun w hh => hh)
      ·intro l_4 hj
       replace hm := h16
       refine g_n_then ?_
       refine g_cond rfl (fun h24 => ?_) (fun h24 => ?_)
       ·replace hm := ifT (h24) hm
        refine g_seq ?_
        refine g_region ?_
        refine g_val rfl rfl rfl (fun _ _ => v_assign rfl) ?_
        refine g_nil ?_
        refine g_n_then ?_
        refine g_ret ?_
        refine g_r_blk ?_
        refine g_r_then ?_
        refine g_r_then ?_
        refine g_r_blk ?_
        obtain rfl := Option.some.inj hm
        have hbo := h13 _ rfl
        subst hbo
        refine g_r_then ?_
        replace hm := ocR h12
        refine g_r_then ?_
        obtain rfl := Option.some.inj hm
        refine g_done rfl (fun w hh => (.tmp rfl .nil)) (fun w hh => ⟨(), rfl, trivial, hh.sel [] [] 3 (by decide) (by decide) rfl rfl rfl⟩)
       ·replace hm := ifF ((fun hh => Bool.noConfusion ((h24).symm.trans hh))) hm
        refine g_skip ?_
        refine g_n_blk ?_
        refine g_n_then ?_
        refine g_region ?_
        refine g_val rfl rfl rfl (fun _ _ => v_move rfl) ?_
        obtain ⟨t33, h25, hm⟩ := bindO hm
        refine g_val rfl rfl rfl (fun _ _ => v_addc h25 rfl rfl) ?_
        refine g_val rfl rfl rfl (fun _ _ => v_assign rfl) ?_
        refine g_nil ?_
        obtain rfl := Option.some.inj hm
        refine g_n_then ?_
        exact g_again' _ () rfl (trivial) ((.cons rfl (.cons rfl (.cons rfl .nil)))) (fun w hh => hh)
     ·replace hm := ifF (of_decide_eq_false h14) hm
      refine g_exit ?_
      refine g_x_then ?_
      refine g_x_then ?_
      refine g_x_blk ?_
      obtain rfl := Option.some.inj hm
      have hbo := h13 _ rfl
      subst hbo
      exact g_leaf () (rfl) ((.cons rfl (.cons rfl .nil))) (fun w hh => hh)
    ·intro j hj
     have h26 := hj
     subst h26
     replace hm := ocL h12
     refine g_n_then ?_
     refine g_seq ?_
     refine g_seq ?_
     obtain ⟨o_3, h27, h28⟩ := bindO hm
     refine g_cut (ι := Unit) (fun l_7 => True) (fun l_7 => [(1, ptr b 0), (3, .int .i64 (s0.floors.length : Int)), (59, .bool o_3)]) (fun l_7 => [(b, .cells #[.slice qa0 na0 ca0, .int .i64 s0.wind.lo, .int .i64 s0.wind.hi, .slice qa1 na1 ca1, .slice qa2 na2 ca2] 59 (0, 0))]) (fun l_7 => []) ?_ ?_
     ·replace hm := h27
      refine g_region ?_
      refine g_val rfl rfl rfl (fun w _ => v_fieldAddr 1 (Try.runUnderlying59 w) rfl (Try.sizeOf25 w) rfl) ?_
      refine g_val rfl rfl rfl (fun w _ => v_fieldAddr 0 (Try.runUnderlying25 w) rfl (Try.sizeOf3 w) rfl) ?_
      refine g_val rfl rfl rfl (fun w hh => v_load (Try.isAgg3 w) rfl (hh.cell 0 rfl rfl)) ?_
      obtain ⟨t53, h29, hm⟩ := bindO hm
      refine g_callH [] [] rfl rfl rfl rfl rfl rfl rfl (fun a w => Try.call107 a w) (fun w hh => c_laurelref01_off s0.wind.lo (-50) 50 w (HV.callee (S0 := []) (vs0 := []) hh roN)  h29) (fun l_8 h30 => ?_)
      refine g_val rfl rfl rfl (fun _ _ => v_move rfl) ?_
      refine g_case 54 rfl (fun h31 => ?_) (fun h31 => ?_)
      ·replace hm := ifT (h31) hm
       refine g_skipG rfl rfl rfl rfl rfl rfl ?_
       refine g_skipG rfl rfl rfl rfl rfl rfl ?_
       refine g_skipG rfl rfl rfl rfl rfl rfl ?_
       refine g_skipG rfl rfl rfl rfl rfl rfl ?_
       refine g_val rfl rfl rfl (fun _ _ => v_pickT rfl rfl) ?_
       refine g_nil ?_
       obtain rfl := Option.some.inj hm
       exact g_leaf () (trivial) ((.cons rfl (.cons rfl (.cons rfl .nil)))) (fun w hh => hh)
      ·replace hm := ifF ((fun hh => Bool.noConfusion ((h31).symm.trans hh))) hm
       refine v_unguard rfl rfl ?_
       refine g_val rfl rfl rfl (fun w _ => v_fieldAddr 1 (Try.runUnderlying59 w) rfl (Try.sizeOf25 w) rfl) ?_
       refine v_unguard rfl rfl ?_
       refine g_val rfl rfl rfl (fun w _ => v_fieldAddr 1 (Try.runUnderlying25 w) rfl (Try.sizeOf3 w) rfl) ?_
       refine v_unguard rfl rfl ?_
       refine g_val rfl rfl rfl (fun w hh => v_load (Try.isAgg3 w) rfl (hh.cell 0 rfl rfl)) ?_
       refine v_unguard rfl rfl ?_
       obtain ⟨t58, h32, hm⟩ := bindO hm
       refine g_callH [] [] rfl rfl rfl rfl rfl rfl rfl (fun a w => Try.call107 a w) (fun w hh => c_laurelref01_off s0.wind.hi (-50) 50 w (HV.callee (S0 := []) (vs0 := []) hh roN)  h32) (fun l_9 h33 => ?_)
       refine g_val rfl rfl rfl (fun _ _ => v_pickF rfl rfl) ?_
       refine g_nil ?_
       obtain rfl := Option.some.inj hm
       exact g_leaf () (trivial) ((.cons rfl (.cons rfl (.cons rfl .nil)))) (fun w hh => hh)
     ·intro l_7 hj
      replace hm := h28
      refine g_n_then ?_
      refine g_cond rfl (fun h34 => ?_) (fun h34 => ?_)
      ·replace hm := ifT (h34) hm
       refine g_seq ?_
       refine g_region ?_
       refine g_val rfl rfl rfl (fun _ _ => v_assign rfl) ?_
       refine g_nil ?_
       refine g_n_then ?_
       refine g_ret ?_
       refine g_r_then ?_
       obtain rfl := Option.some.inj hm
       refine g_done rfl (fun w hh => (.tmp rfl .nil)) (fun w hh => ⟨(), rfl, trivial, hh.sel [] [] 3 (by decide) (by decide) rfl rfl rfl⟩)
      ·replace hm := ifF ((fun hh => Bool.noConfusion ((h34).symm.trans hh))) hm
       refine g_skip ?_
       refine g_n_then ?_
       refine g_seq ?_
       refine g_seq ?_
       refine g_region ?_
       refine g_val rfl rfl rfl (fun _ _ => v_assign rfl) ?_
       refine g_nil ?_
       refine g_n_then ?_
       obtain ⟨o_4, h35, h36⟩ := bindO hm
       refine g_cut (ι := Unit) (fun j_1 => o_4 = .inl j_1) (fun j_1 => [(1, ptr b 0), (3, .int .i64 (s0.floors.length : Int))]) (fun j_1 => [(b, .cells #[.slice qa0 na0 ca0, .int .i64 s0.wind.lo, .int .i64 s0.wind.hi, .slice qa1 na1 ca1, .slice qa2 na2 ca2] 59 (0, 0))]) (fun j_1 => []) ?_ ?_
       ·replace hm := h35
        refine g_block ?_
        refine g_loopF (ι := Unit) hm (fun s_1 l_10 => True) (fun s_1 l_10 => [(1, ptr b 0), (3, .int .i64 (s0.floors.length : Int)), (5, .int .i64 s_1)]) (fun s_1 l_10 => [(b, .cells #[.slice qa0 na0 ca0, .int .i64 s0.wind.lo, .int .i64 s0.wind.hi, .slice qa1 na1 ca1, .slice qa2 na2 ca2] 59 (0, 0))]) (fun s_1 l_10 => []) () (trivial) ((.cons rfl (.cons rfl (.cons rfl .nil)))) (fun w hh => hh) (fun s_1 l_10 r_1 hpl hm h37 => ?_)
        unfold m_laurelref01_Check_L1 at hm
        refine g_seq ?_
        refine g_seq ?_
        refine g_region ?_
        refine g_val rfl rfl rfl (fun _ _ => v_move rfl) ?_
        refine g_val rfl rfl rfl (fun _ _ => v_move rfl) ?_
        refine g_val rfl rfl rfl (fun _ _ => v_lss rfl rfl) ?_
        refine g_nil ?_
        refine g_n_then ?_
        refine g_cond rfl (fun h38 => ?_) (fun h38 => ?_)
        ·replace hm := ifT (of_decide_eq_true h38) hm
         refine g_skip ?_
         refine g_n_then ?_
         refine g_seq ?_
         refine g_block ?_
         refine g_seq ?_
         refine g_region ?_
         refine g_val rfl rfl rfl (fun w _ => v_fieldAddr 3 (Try.runUnderlying59 w) rfl (Try.sizeOf26 w) rfl) ?_
         refine g_val rfl rfl rfl (fun w hh => v_load (Try.isAgg26 w) rfl (hh.cell 0 rfl rfl)) ?_
         refine g_val rfl rfl rfl (fun _ _ => v_move rfl) ?_
         obtain ⟨t68, h39, hm⟩ := bindO hm
         refine g_val rfl rfl rfl (fun w _ => v_ixR h39 (Try.runUnderlying26 w) (Try.sizeOf3 w) rfl rfl hna1 hqa1) ?_
         refine g_val rfl rfl rfl (fun w hh => v_ldE RI 0 h39 (Try.isAgg3 w) rfl (hh.seg 1 rfl) rfl (Nat.add_zero _).symm) ?_
         obtain ⟨t70, h40, hm⟩ := bindO hm
         refine g_callH [] [] rfl rfl rfl rfl rfl rfl rfl (fun a w => Try.call107 a w) (fun w hh => c_laurelref01_off t68 0 999 w (HV.callee (S0 := []) (vs0 := []) hh roN)  h40) (fun l_11 h41 => ?_)
         refine g_nil ?_
         refine g_n_then ?_
         refine g_cond rfl (fun h42 => ?_) (fun h42 => ?_)
         ·replace hm := ifT (h42) hm
          refine g_seq ?_
          refine g_region ?_
          refine g_val rfl rfl rfl (fun _ _ => v_assign rfl) ?_
          refine g_nil ?_
          refine g_n_then ?_
          refine g_ret ?_
          refine g_r_blk ?_
          refine g_r_then ?_
          refine g_r_then ?_
          refine g_r_blk ?_
          obtain rfl := Option.some.inj hm
          have hbo := h37 _ rfl
          subst hbo
          refine g_r_then ?_
          replace hm := ocR h36
          refine g_r_then ?_
          obtain rfl := Option.some.inj hm
          refine g_done rfl (fun w hh => (.tmp rfl .nil)) (fun w hh => ⟨(), rfl, trivial, hh.sel [] [] 3 (by decide) (by decide) rfl rfl rfl⟩)
         ·replace hm := ifF ((fun hh => Bool.noConfusion ((h42).symm.trans hh))) hm
          refine g_skip ?_
          refine g_n_blk ?_
          refine g_n_then ?_
          refine g_region ?_
          refine g_val rfl rfl rfl (fun _ _ => v_move rfl) ?_
          obtain ⟨t64, h43, hm⟩ := bindO hm
          refine g_val rfl rfl rfl (fun _ _ => v_addc h43 rfl rfl) ?_
          refine g_val rfl rfl rfl (fun _ _ => v_assign rfl) ?_
          refine g_nil ?_
          obtain rfl := Option.some.inj hm
          refine g_n_then ?_
          exact g_again' _ () rfl (trivial) ((.cons rfl (.cons rfl (.cons rfl .nil)))) (fun w hh => hh)
        ·replace hm := ifF (of_decide_eq_false h38) hm
         refine g_exit ?_
         refine g_x_then ?_
         refine g_x_then ?_
         refine g_x_blk ?_
         obtain rfl := Option.some.inj hm
         have hbo := h37 _ rfl
         subst hbo
         exact g_leaf () (rfl) ((.cons rfl (.cons rfl .nil))) (fun w hh => hh)
       ·intro j_1 hj
        have h44 := hj
        subst h44
        replace hm := ocL h36
        refine g_n_then ?_
        refine g_seq ?_
        refine g_seq ?_
        refine g_region ?_
        refine g_val rfl rfl rfl (fun _ _ => v_assign rfl) ?_
        refine g_nil ?_
        refine g_n_then ?_
        obtain ⟨o_5, h45, h46⟩ := bindO hm
        refine g_cut (ι := Unit) (fun j_2 => o_5 = .inl j_2) (fun j_2 => [(1, ptr b 0), (3, .int .i64 (s0.floors.length : Int))]) (fun j_2 => [(b, .cells #[.slice qa0 na0 ca0, .int .i64 s0.wind.lo, .int .i64 s0.wind.hi, .slice qa1 na1 ca1, .slice qa2 na2 ca2] 59 (0, 0))]) (fun j_2 => []) ?_ ?_
        ·replace hm := h45
         refine g_block ?_
         refine g_loopF (ι := Unit) hm (fun s_2 l_12 => True) (fun s_2 l_12 => [(1, ptr b 0), (3, .int .i64 (s0.floors.length : Int)), (6, .int .i64 s_2)]) (fun s_2 l_12 => [(b, .cells #[.slice qa0 na0 ca0, .int .i64 s0.wind.lo, .int .i64 s0.wind.hi, .slice qa1 na1 ca1, .slice qa2 na2 ca2] 59 (0, 0))]) (fun s_2 l_12 => []) () (trivial) ((.cons rfl (.cons rfl (.cons rfl .nil)))) (fun w hh => hh) (fun s_2 l_12 r_2 hpl hm h47 => ?_)
         unfold m_laurelref01_Check_L2 at hm
         refine g_seq ?_
         refine g_seq ?_
         refine g_region ?_
         refine g_val rfl rfl rfl (fun _ _ => v_move rfl) ?_
         refine g_val rfl rfl rfl (fun w _ => v_fieldAddr 4 (Try.runUnderlying59 w) rfl (Try.sizeOf57 w) rfl) ?_
         refine g_val rfl rfl rfl (fun w hh => v_load (Try.isAgg57 w) rfl (hh.cell 0 rfl rfl)) ?_
         refine g_val rfl rfl rfl (fun w _ => v_lenR hna2 (Try.runUnderlying57 w) rfl) ?_
         refine g_val rfl rfl rfl (fun _ _ => v_lss rfl rfl) ?_
         refine g_nil ?_
         refine g_n_then ?_
         refine g_cond rfl (fun h48 => ?_) (fun h48 => ?_)
         ·replace hm := ifT (of_decide_eq_true h48) hm
          refine g_skip ?_
          refine g_n_then ?_
          refine g_seq ?_
          refine g_block ?_
          refine g_seq ?_
          refine g_region ?_
          refine g_val rfl rfl rfl (fun w _ => v_fieldAddr 4 (Try.runUnderlying59 w) rfl (Try.sizeOf57 w) rfl) ?_
          refine g_val rfl rfl rfl (fun w hh => v_load (Try.isAgg57 w) rfl (hh.cell 0 rfl rfl)) ?_
          refine g_val rfl rfl rfl (fun _ _ => v_move rfl) ?_
          obtain ⟨t81, h49, hm⟩ := bindO hm
          refine g_val rfl rfl rfl (fun w _ => v_ixR h49 (Try.runUnderlying57 w) (Try.sizeOf159 w) rfl rfl hna2 hqa2) ?_
          refine g_val rfl rfl rfl (fun w _ => v_fieldAddr 2 (Try.runUnderlying159 w) rfl (Try.sizeOf3 w) rfl) ?_
          refine g_val rfl rfl rfl (fun w hh => v_ldE RS 2 h49 (Try.isAgg3 w) rfl (hh.seg 2 rfl) rfl rfl) ?_
          obtain ⟨t84, h50, hm⟩ := bindO hm
          refine g_callH [] [] rfl rfl rfl rfl rfl rfl rfl (fun a w => Try.call107 a w) (fun w hh => c_laurelref01_off t81.h 0 999 w (HV.callee (S0 := []) (vs0 := []) hh roN)  h50) (fun l_13 h51 => ?_)
          refine g_nil ?_
          refine g_n_then ?_
          refine g_cond rfl (fun h52 => ?_) (fun h52 => ?_)
          ·replace hm := ifT (h52) hm
           refine g_seq ?_
           refine g_region ?_
           refine g_val rfl rfl rfl (fun _ _ => v_assign rfl) ?_
           refine g_nil ?_
           refine g_n_then ?_
           refine g_ret ?_
           refine g_r_blk ?_
           refine g_r_then ?_
           refine g_r_then ?_
           refine g_r_blk ?_
           obtain rfl := Option.some.inj hm
           have hbo := h47 _ rfl
           subst hbo
           refine g_r_then ?_
           replace hm := ocR h46
           refine g_r_then ?_
           obtain rfl := Option.some.inj hm
           refine g_done rfl (fun w hh => (.tmp rfl .nil)) (fun w hh => ⟨(), rfl, trivial, hh.sel [] [] 3 (by decide) (by decide) rfl rfl rfl⟩)
          ·replace hm := ifF ((fun hh => Bool.noConfusion ((h52).symm.trans hh))) hm
           refine g_skip ?_
           refine g_n_blk ?_
           refine g_n_then ?_
           refine g_region ?_
           refine g_val rfl rfl rfl (fun _ _ => v_move rfl) ?_
           obtain ⟨t77, h53, hm⟩ := bindO hm
           refine g_val rfl rfl rfl (fun _ _ => v_addc h53 rfl rfl) ?_
           refine g_val rfl rfl rfl (fun _ _ => v_assign rfl) ?_
           refine g_nil ?_
           obtain rfl := Option.some.inj hm
           refine g_n_then ?_
           exact g_again' _ () rfl (trivial) ((.cons rfl (.cons rfl (.cons rfl .nil)))) (fun w hh => hh)
         ·replace hm := ifF (of_decide_eq_false h48) hm
          refine g_exit ?_
          refine g_x_then ?_
          refine g_x_then ?_
          refine g_x_blk ?_
          obtain rfl := Option.some.inj hm
          have hbo := h47 _ rfl
          subst hbo
          exact g_leaf () (rfl) ((.cons rfl (.cons rfl .nil))) (fun w hh => hh)
        ·intro j_2 hj
         have h54 := hj
         subst h54
         replace hm := ocL h46
         refine g_n_then ?_
         refine g_seq ?_
         refine g_seq ?_
         refine g_region ?_
         refine g_val rfl rfl rfl (fun _ _ => v_assign rfl) ?_
         refine g_nil ?_
         refine g_n_then ?_
         obtain ⟨o_6, h55, h56⟩ := bindO hm
         refine g_cut (ι := Unit) (fun j_3 => o_6 = .inl j_3) (fun j_3 => [(1, ptr b 0), (3, .int .i64 (s0.floors.length : Int))]) (fun j_3 => [(b, .cells #[.slice qa0 na0 ca0, .int .i64 s0.wind.lo, .int .i64 s0.wind.hi, .slice qa1 na1 ca1, .slice qa2 na2 ca2] 59 (0, 0))]) (fun j_3 => []) ?_ ?_
         ·replace hm := h55
          refine g_block ?_
          refine g_loopF (ι := Unit) hm (fun s_3 l_14 => True) (fun s_3 l_14 => [(1, ptr b 0), (3, .int .i64 (s0.floors.length : Int)), (7, .int .i64 s_3)]) (fun s_3 l_14 => [(b, .cells #[.slice qa0 na0 ca0, .int .i64 s0.wind.lo, .int .i64 s0.wind.hi, .slice qa1 na1 ca1, .slice qa2 na2 ca2] 59 (0, 0))]) (fun s_3 l_14 => []) () (trivial) ((.cons rfl (.cons rfl (.cons rfl .nil)))) (fun w hh => hh) (fun s_3 l_14 r_3 hpl hm h57 => ?_)
          unfold m_laurelref01_Check_L3 at hm
          refine g_seq ?_
          refine g_seq ?_
          refine g_region ?_
          refine g_val rfl rfl rfl (fun _ _ => v_move rfl) ?_
          refine g_val rfl rfl rfl (fun w _ => v_fieldAddr 0 (Try.runUnderlying59 w) rfl (Try.sizeOf56 w) rfl) ?_
          refine g_val rfl rfl rfl (fun w hh => v_load (Try.isAgg56 w) rfl (hh.cell 0 rfl rfl)) ?_
          refine g_val rfl rfl rfl (fun w _ => v_lenR hna0 (Try.runUnderlying56 w) rfl) ?_
          refine g_val rfl rfl rfl (fun _ _ => v_lss rfl rfl) ?_
          refine g_nil ?_
          refine g_n_then ?_
          refine g_cond rfl (fun h58 => ?_) (fun h58 => ?_)
          ·replace hm := ifT (of_decide_eq_true h58) hm
           refine g_skip ?_
           refine g_n_then ?_
           refine g_seq ?_
           refine g_block ?_
           refine g_seq ?_
           refine g_draw none (.free 0 (.hoist 1 (.free 2 (.free 3 (.free 4 (.hoist 5 (.free 6 (.hoist 7 (.free 8 (.free 9 (.free 10 (.free 11 (.hoist 12 (.free 13 .done)))))))))))))) _ rfl (by decide +kernel) (fun w k hh => hh.draw k) (fun w hh => hh) ?_
           refine p_free rfl rfl rfl rfl (fun w _ => v_fieldAddr 0 (Try.runUnderlying59 w) rfl (Try.sizeOf56 w) rfl) ?_
           refine p_hoist rfl rfl rfl rfl (fun w hh => v_load (Try.isAgg56 w) rfl (hh.cell 0 rfl rfl)) ?_
           refine p_free rfl rfl rfl rfl (fun _ _ => v_move rfl) ?_
           obtain ⟨t95, h59, hm⟩ := bindO hm
           refine p_free rfl rfl rfl rfl (fun w _ => v_ixR h59 (Try.runUnderlying56 w) (Try.sizeOf158 w) rfl rfl hna0 hqa0) ?_
           refine p_free rfl rfl rfl rfl (fun w _ => v_fieldAddr 0 (Try.runUnderlying158 w) rfl (Try.sizeOf3 w) rfl) ?_
           refine p_hoist rfl rfl rfl rfl (fun w hh => v_ldE RW 0 h59 (Try.isAgg3 w) rfl (hh.seg 0 rfl) rfl rfl) ?_
           refine p_free rfl rfl rfl rfl (fun w _ => v_fieldAddr 0 (Try.runUnderlying59 w) rfl (Try.sizeOf56 w) rfl) ?_
           refine p_hoist rfl rfl rfl rfl (fun w hh => v_load (Try.isAgg56 w) rfl (hh.cell 0 rfl rfl)) ?_
           refine p_free rfl rfl rfl rfl (fun _ _ => v_move rfl) ?_
           obtain ⟨t101, h60, hm⟩ := bindO hm
           refine p_free rfl rfl rfl rfl (fun _ _ => v_subc h60 rfl rfl) ?_
           obtain ⟨t102, h61, hm⟩ := bindO hm
           refine p_free rfl rfl rfl rfl (fun w _ => v_ixR h61 (Try.runUnderlying56 w) (Try.sizeOf158 w) rfl rfl hna0 hqa0) ?_
           refine p_free rfl rfl rfl rfl (fun w _ => v_fieldAddr 0 (Try.runUnderlying158 w) rfl (Try.sizeOf3 w) rfl) ?_
           refine p_hoist rfl rfl rfl rfl (fun w hh => v_ldE RW 0 h61 (Try.isAgg3 w) rfl (hh.seg 0 rfl) rfl rfl) ?_
           refine p_free rfl rfl rfl rfl (fun _ _ => v_leq rfl rfl) ?_
           refine p_done ?_
           refine g_n_then ?_
           refine g_cond rfl (fun h62 => ?_) (fun h62 => ?_)
           ·replace hm := ifT (of_decide_eq_true h62) hm
            refine g_seq ?_
            refine g_region ?_
            refine g_val rfl rfl rfl (fun _ _ => v_assign rfl) ?_
            refine g_nil ?_
            refine g_n_then ?_
            refine g_ret ?_
            refine g_r_blk ?_
            refine g_r_then ?_
            refine g_r_then ?_
            refine g_r_blk ?_
            obtain rfl := Option.some.inj hm
            have hbo := h57 _ rfl
            subst hbo
            refine g_r_then ?_
            replace hm := ocR h56
            refine g_r_then ?_
            obtain rfl := Option.some.inj hm
            refine g_done rfl (fun w hh => (.tmp rfl .nil)) (fun w hh => ⟨(), rfl, trivial, hh.sel [] [] 3 (by decide) (by decide) rfl rfl rfl⟩)
           ·replace hm := ifF (of_decide_eq_false h62) hm
            refine g_skip ?_
            refine g_n_blk ?_
            refine g_n_then ?_
            refine g_region ?_
            refine g_val rfl rfl rfl (fun _ _ => v_move rfl) ?_
            obtain ⟨t91, h63, hm⟩ := bindO hm
            refine g_val rfl rfl rfl (fun _ _ => v_addc h63 rfl rfl) ?_
            refine g_val rfl rfl rfl (fun _ _ => v_assign rfl) ?_
            refine g_nil ?_
            obtain rfl := Option.some.inj hm
            refine g_n_then ?_
            exact g_again' _ () rfl (trivial) ((.cons rfl (.cons rfl (.cons rfl .nil)))) (fun w hh => hh)
          ·replace hm := ifF (of_decide_eq_false h58) hm
           refine g_exit ?_
           refine g_x_then ?_
           refine g_x_then ?_
           refine g_x_blk ?_
           obtain rfl := Option.some.inj hm
           have hbo := h57 _ rfl
           subst hbo
           exact g_leaf () (rfl) ((.cons rfl (.cons rfl .nil))) (fun w hh => hh)
         ·intro j_3 hj
          have h64 := hj
          subst h64
          replace hm := ocL h56
          refine g_n_then ?_
          refine g_seq ?_
          refine g_seq ?_
          refine g_region ?_
          refine g_val rfl rfl rfl (fun w _ => v_fieldAddr 1 (Try.runUnderlying59 w) rfl (Try.sizeOf25 w) rfl) ?_
          refine g_val rfl rfl rfl (fun w _ => v_fieldAddr 0 (Try.runUnderlying25 w) rfl (Try.sizeOf3 w) rfl) ?_
          refine g_val rfl rfl rfl (fun w hh => v_load (Try.isAgg3 w) rfl (hh.cell 0 rfl rfl)) ?_
          refine g_val rfl rfl rfl (fun w _ => v_fieldAddr 1 (Try.runUnderlying59 w) rfl (Try.sizeOf25 w) rfl) ?_
          refine g_val rfl rfl rfl (fun w _ => v_fieldAddr 1 (Try.runUnderlying25 w) rfl (Try.sizeOf3 w) rfl) ?_
          refine g_val rfl rfl rfl (fun w hh => v_load (Try.isAgg3 w) rfl (hh.cell 0 rfl rfl)) ?_
          refine g_val rfl rfl rfl (fun _ _ => v_gtr rfl rfl) ?_
          refine g_nil ?_
          refine g_n_then ?_
          refine g_cond rfl (fun h65 => ?_) (fun h65 => ?_)
          ·replace hm := ifT (of_decide_eq_true h65) hm
           refine g_seq ?_
           refine g_region ?_
           refine g_val rfl rfl rfl (fun _ _ => v_assign rfl) ?_
           refine g_nil ?_
           refine g_n_then ?_
           refine g_ret ?_
           refine g_r_then ?_
           obtain rfl := Option.some.inj hm
           refine g_done rfl (fun w hh => (.tmp rfl .nil)) (fun w hh => ⟨(), rfl, trivial, hh.sel [] [] 3 (by decide) (by decide) rfl rfl rfl⟩)
          ·replace hm := ifF (of_decide_eq_false h65) hm
           refine g_skip ?_
           refine g_n_then ?_
           refine g_seq ?_
           refine g_seq ?_
           refine g_region ?_
           refine g_val rfl rfl rfl (fun _ _ => v_assign rfl) ?_
           refine g_nil ?_
           refine g_n_then ?_
           obtain ⟨o_7, h66, h67⟩ := bindO hm
           refine g_cut (ι := Unit) (fun j_4 => o_7 = .inl j_4) (fun j_4 => [(1, ptr b 0)]) (fun j_4 => [(b, .cells #[.slice qa0 na0 ca0, .int .i64 s0.wind.lo, .int .i64 s0.wind.hi, .slice qa1 na1 ca1, .slice qa2 na2 ca2] 59 (0, 0))]) (fun j_4 => []) ?_ ?_
           ·replace hm := h66
            refine g_block ?_
            refine g_loopF (ι := Unit) hm (fun s_4 l_15 => True) (fun s_4 l_15 => [(1, ptr b 0), (3, .int .i64 (s0.floors.length : Int)), (8, .int .i64 s_4)]) (fun s_4 l_15 => [(b, .cells #[.slice qa0 na0 ca0, .int .i64 s0.wind.lo, .int .i64 s0.wind.hi, .slice qa1 na1 ca1, .slice qa2 na2 ca2] 59 (0, 0))]) (fun s_4 l_15 => []) () (trivial) ((.cons rfl (.cons rfl (.cons rfl .nil)))) (fun w hh => hh) (fun s_4 l_15 r_4 hpl hm h68 => ?_)
            unfold m_laurelref01_Check_L4 at hm
            refine g_seq ?_
            refine g_seq ?_
            refine g_region ?_
            refine g_val rfl rfl rfl (fun _ _ => v_move rfl) ?_
            refine g_val rfl rfl rfl (fun w _ => v_fieldAddr 4 (Try.runUnderlying59 w) rfl (Try.sizeOf57 w) rfl) ?_
            refine g_val rfl rfl rfl (fun w hh => v_load (Try.isAgg57 w) rfl (hh.cell 0 rfl rfl)) ?_
            refine g_val rfl rfl rfl (fun w _ => v_lenR hna2 (Try.runUnderlying57 w) rfl) ?_
            refine g_val rfl rfl rfl (fun _ _ => v_lss rfl rfl) ?_
            refine g_nil ?_
            refine g_n_then ?_
            refine g_cond rfl (fun h69 => ?_) (fun h69 => ?_)
            ·replace hm := ifT (of_decide_eq_true h69) hm
             refine g_skip ?_
             refine g_n_then ?_
             refine g_seq ?_
             refine g_block ?_
             refine g_seq ?_
             obtain ⟨o_8, h70, h71⟩ := bindO hm
             refine g_cut (ι := Unit) (fun l_16 => True) (fun l_16 => [(1, ptr b 0), (3, .int .i64 (s0.floors.length : Int)), (8, .int .i64 s_4), (139, .bool o_8)]) (fun l_16 => [(b, .cells #[.slice qa0 na0 ca0, .int .i64 s0.wind.lo, .int .i64 s0.wind.hi, .slice qa1 na1 ca1, .slice qa2 na2 ca2] 59 (0, 0))]) (fun l_16 => []) ?_ ?_
             ·replace hm := h70
              refine g_region ?_
              refine g_val rfl rfl rfl (fun w _ => v_fieldAddr 4 (Try.runUnderlying59 w) rfl (Try.sizeOf57 w) rfl) ?_
              refine g_val rfl rfl rfl (fun w hh => v_load (Try.isAgg57 w) rfl (hh.cell 0 rfl rfl)) ?_
              refine g_val rfl rfl rfl (fun _ _ => v_move rfl) ?_
              obtain ⟨t123, h72, hm⟩ := bindO hm
              refine g_val rfl rfl rfl (fun w _ => v_ixR h72 (Try.runUnderlying57 w) (Try.sizeOf159 w) rfl rfl hna2 hqa2) ?_
              refine g_val rfl rfl rfl (fun w _ => v_fieldAddr 0 (Try.runUnderlying159 w) rfl (Try.sizeOf3 w) rfl) ?_
              refine g_val rfl rfl rfl (fun w hh => v_ldE RS 0 h72 (Try.isAgg3 w) rfl (hh.seg 2 rfl) rfl rfl) ?_
              refine g_val rfl rfl rfl (fun _ _ => v_move rfl) ?_
              obtain ⟨t127, h73, hm⟩ := bindO hm
              refine g_val rfl rfl rfl (fun _ _ => v_subc h73 rfl rfl) ?_
              obtain ⟨t128, h74, hm⟩ := bindO hm
              refine g_callH [] [] rfl rfl rfl rfl rfl rfl rfl (fun a w => Try.call107 a w) (fun w hh => c_laurelref01_off t123.a (-1) t127 w (HV.callee (S0 := []) (vs0 := []) hh roN)  h74) (fun l_17 h75 => ?_)
              refine g_val rfl rfl rfl (fun _ _ => v_move rfl) ?_
              refine g_case 129 rfl (fun h76 => ?_) (fun h76 => ?_)
              ·replace hm := ifT (h76) hm
               refine g_skipG rfl rfl rfl rfl rfl rfl ?_
               refine g_skipG rfl rfl rfl rfl rfl rfl ?_
               refine g_skipG rfl rfl rfl rfl rfl rfl ?_
               refine g_skipG rfl rfl rfl rfl rfl rfl ?_
               refine g_skipG rfl rfl rfl rfl rfl rfl ?_
               refine g_skipG rfl rfl rfl rfl rfl rfl ?_
               refine g_skipG rfl rfl rfl rfl rfl rfl ?_
               refine g_skipG rfl rfl rfl rfl rfl rfl ?_
               refine g_skipG rfl rfl rfl rfl rfl rfl ?_
               refine g_val rfl rfl rfl (fun _ _ => v_pickT rfl rfl) ?_
               refine g_nil ?_
               obtain rfl := Option.some.inj hm
               exact g_leaf () (trivial) ((.cons rfl (.cons rfl (.cons rfl (.cons rfl .nil))))) (fun w hh => hh)
              ·replace hm := ifF ((fun hh => Bool.noConfusion ((h76).symm.trans hh))) hm
               refine v_unguard rfl rfl ?_
               refine g_val rfl rfl rfl (fun w _ => v_fieldAddr 4 (Try.runUnderlying59 w) rfl (Try.sizeOf57 w) rfl) ?_
               refine v_unguard rfl rfl ?_
               refine g_val rfl rfl rfl (fun w hh => v_load (Try.isAgg57 w) rfl (hh.cell 0 rfl rfl)) ?_
               refine v_unguard rfl rfl ?_
               refine g_val rfl rfl rfl (fun _ _ => v_move rfl) ?_
               refine v_unguard rfl rfl ?_
               obtain ⟨t133, h77, hm⟩ := bindO hm
               refine g_val rfl rfl rfl (fun w _ => v_ixR h77 (Try.runUnderlying57 w) (Try.sizeOf159 w) rfl rfl hna2 hqa2) ?_
               refine v_unguard rfl rfl ?_
               refine g_val rfl rfl rfl (fun w _ => v_fieldAddr 1 (Try.runUnderlying159 w) rfl (Try.sizeOf3 w) rfl) ?_
               refine v_unguard rfl rfl ?_
               refine g_val rfl rfl rfl (fun w hh => v_ldE RS 1 h77 (Try.isAgg3 w) rfl (hh.seg 2 rfl) rfl rfl) ?_
               refine v_unguard rfl rfl ?_
               refine g_val rfl rfl rfl (fun _ _ => v_move rfl) ?_
               refine v_unguard rfl rfl ?_
               obtain ⟨t137, h78, hm⟩ := bindO hm
               refine g_val rfl rfl rfl (fun _ _ => v_subc h78 rfl rfl) ?_
               refine v_unguard rfl rfl ?_
               obtain ⟨t138, h79, hm⟩ := bindO hm
               refine g_callH [] [] rfl rfl rfl rfl rfl rfl rfl (fun a w => Try.call107 a w) (fun w hh => c_laurelref01_off t133.b (-1) t137 w (HV.callee (S0 := []) (vs0 := []) hh roN)  h79) (fun l_18 h80 => ?_)
               refine g_val rfl rfl rfl (fun _ _ => v_pickF rfl rfl) ?_
               refine g_nil ?_
               obtain rfl := Option.some.inj hm
               exact g_leaf () (trivial) ((.cons rfl (.cons rfl (.cons rfl (.cons rfl .nil))))) (fun w hh => hh)
             ·intro l_16 hj
              replace hm := h71
              refine g_n_then ?_
              refine g_cond rfl (fun h81 => ?_) (fun h81 => ?_)
              ·replace hm := ifT (h81) hm
               refine g_seq ?_
               refine g_region ?_
               refine g_val rfl rfl rfl (fun _ _ => v_assign rfl) ?_
               refine g_nil ?_
               refine g_n_then ?_
               refine g_ret ?_
               refine g_r_blk ?_
               refine g_r_then ?_
               refine g_r_then ?_
               refine g_r_blk ?_
               obtain rfl := Option.some.inj hm
               have hbo := h68 _ rfl
               subst hbo
               refine g_r_then ?_
               replace hm := ocR h67
               refine g_r_then ?_
               obtain rfl := Option.some.inj hm
               refine g_done rfl (fun w hh => (.tmp rfl .nil)) (fun w hh => ⟨(), rfl, trivial, hh.sel [] [] 3 (by decide) (by decide) rfl rfl rfl⟩)
              ·replace hm := ifF ((fun hh => Bool.noConfusion ((h81).symm.trans hh))) hm
               refine g_skip ?_
               refine g_n_blk ?_
               refine g_n_then ?_
               refine g_region ?_
               refine g_val rfl rfl rfl (fun _ _ => v_move rfl) ?_
               obtain ⟨t119, h82, hm⟩ := bindO hm
               refine g_val rfl rfl rfl (fun _ _ => v_addc h82 rfl rfl) ?_
               refine g_val rfl rfl rfl (fun _ _ => v_assign rfl) ?_
               refine g_nil ?_
               obtain rfl := Option.some.inj hm
               refine g_n_then ?_
               exact g_again' _ () rfl (trivial) ((.cons rfl (.cons rfl (.cons rfl .nil)))) (fun w hh => hh)
            ·replace hm := ifF (of_decide_eq_false h69) hm
             refine g_exit ?_
             refine g_x_then ?_
             refine g_x_then ?_
             refine g_x_blk ?_
             obtain rfl := Option.some.inj hm
             have hbo := h68 _ rfl
             subst hbo
             exact g_leaf () (rfl) ((.cons rfl .nil)) (fun w hh => hh)
           ·intro j_4 hj
            have h83 := hj
            subst h83
            replace hm := ocL h67
            refine g_n_then ?_
            refine g_seq ?_
            refine g_seq ?_
            refine g_region ?_
            refine g_val rfl rfl rfl (fun _ _ => v_assign rfl) ?_
            refine g_nil ?_
            refine g_n_then ?_
            obtain ⟨o_9, h84, h85⟩ := bindO hm
            refine g_cut (ι := Unit) (fun j_5 => o_9 = .inl j_5) (fun j_5 => []) (fun j_5 => [(b, .cells #[.slice qa0 na0 ca0, .int .i64 s0.wind.lo, .int .i64 s0.wind.hi, .slice qa1 na1 ca1, .slice qa2 na2 ca2] 59 (0, 0))]) (fun j_5 => []) ?_ ?_
            ·replace hm := h84
             refine g_block ?_
             refine g_loopF (ι := Unit) hm (fun s_5 l_19 => True) (fun s_5 l_19 => [(1, ptr b 0), (9, .int .i64 s_5)]) (fun s_5 l_19 => [(b, .cells #[.slice qa0 na0 ca0, .int .i64 s0.wind.lo, .int .i64 s0.wind.hi, .slice qa1 na1 ca1, .slice qa2 na2 ca2] 59 (0, 0))]) (fun s_5 l_19 => []) () (trivial) ((.cons rfl (.cons rfl .nil))) (fun w hh => hh) (fun s_5 l_19 r_5 hpl hm h86 => ?_)
             unfold m_laurelref01_Check_L5 at hm
             refine g_seq ?_
             refine g_seq ?_
             refine g_region ?_
             refine g_val rfl rfl rfl (fun _ _ => v_move rfl) ?_
             refine g_val rfl rfl rfl (fun w _ => v_fieldAddr 4 (Try.runUnderlying59 w) rfl (Try.sizeOf57 w) rfl) ?_
             refine g_val rfl rfl rfl (fun w hh => v_load (Try.isAgg57 w) rfl (hh.cell 0 rfl rfl)) ?_
             refine g_val rfl rfl rfl (fun w _ => v_lenR hna2 (Try.runUnderlying57 w) rfl) ?_
             refine g_val rfl rfl rfl (fun _ _ => v_lss rfl rfl) ?_
             refine g_nil ?_
             refine g_n_then ?_
             refine g_cond rfl (fun h87 => ?_) (fun h87 => ?_)
             ·replace hm := ifT (of_decide_eq_true h87) hm
              refine g_skip ?_
              refine g_n_then ?_
              refine g_seq ?_
              refine g_block ?_
              refine g_seq ?_
              refine g_draw none (.free 0 (.hoist 1 (.free 2 (.free 3 (.free 4 (.hoist 5 (.free 6 (.hoist 7 (.free 8 (.free 9 (.free 10 (.hoist 11 (.free 12 .done))))))))))))) _ rfl (by decide +kernel) (fun w k hh => hh.draw k) (fun w hh => hh) ?_
              refine p_free rfl rfl rfl rfl (fun w _ => v_fieldAddr 4 (Try.runUnderlying59 w) rfl (Try.sizeOf57 w) rfl) ?_
              refine p_hoist rfl rfl rfl rfl (fun w hh => v_load (Try.isAgg57 w) rfl (hh.cell 0 rfl rfl)) ?_
              refine p_free rfl rfl rfl rfl (fun _ _ => v_move rfl) ?_
              obtain ⟨t150, h88, hm⟩ := bindO hm
              refine p_free rfl rfl rfl rfl (fun w _ => v_ixR h88 (Try.runUnderlying57 w) (Try.sizeOf159 w) rfl rfl hna2 hqa2) ?_
              refine p_free rfl rfl rfl rfl (fun w _ => v_fieldAddr 0 (Try.runUnderlying159 w) rfl (Try.sizeOf3 w) rfl) ?_
              refine p_hoist rfl rfl rfl rfl (fun w hh => v_ldE RS 0 h88 (Try.isAgg3 w) rfl (hh.seg 2 rfl) rfl rfl) ?_
              refine p_free rfl rfl rfl rfl (fun w _ => v_fieldAddr 4 (Try.runUnderlying59 w) rfl (Try.sizeOf57 w) rfl) ?_
              refine p_hoist rfl rfl rfl rfl (fun w hh => v_load (Try.isAgg57 w) rfl (hh.cell 0 rfl rfl)) ?_
              refine p_free rfl rfl rfl rfl (fun _ _ => v_move rfl) ?_
              obtain ⟨t156, h89, hm⟩ := bindO hm
              refine p_free rfl rfl rfl rfl (fun w _ => v_ixR h89 (Try.runUnderlying57 w) (Try.sizeOf159 w) rfl rfl hna2 hqa2) ?_
              refine p_free rfl rfl rfl rfl (fun w _ => v_fieldAddr 1 (Try.runUnderlying159 w) rfl (Try.sizeOf3 w) rfl) ?_
              refine p_hoist rfl rfl rfl rfl (fun w hh => v_ldE RS 1 h89 (Try.isAgg3 w) rfl (hh.seg 2 rfl) rfl rfl) ?_
              refine p_free rfl rfl rfl rfl (fun _ _ => v_eql rfl rfl) ?_
              refine p_done ?_
              refine g_n_then ?_
              refine g_cond rfl (fun h90 => ?_) (fun h90 => ?_)
              ·replace hm := ifT (of_decide_eq_true h90) hm
               refine g_seq ?_
               refine g_region ?_
               refine g_val rfl rfl rfl (fun _ _ => v_assign rfl) ?_
               refine g_nil ?_
               refine g_n_then ?_
               refine g_ret ?_
               refine g_r_blk ?_
               refine g_r_then ?_
               refine g_r_then ?_
               refine g_r_blk ?_
               obtain rfl := Option.some.inj hm
               have hbo := h86 _ rfl
               subst hbo
               refine g_r_then ?_
               replace hm := ocR h85
               refine g_r_then ?_
               obtain rfl := Option.some.inj hm
               refine g_done rfl (fun w hh => (.tmp rfl .nil)) (fun w hh => ⟨(), rfl, trivial, hh.sel [] [] 3 (by decide) (by decide) rfl rfl rfl⟩)
              ·replace hm := ifF (of_decide_eq_false h90) hm
               refine g_skip ?_
               refine g_n_blk ?_
               refine g_n_then ?_
               refine g_region ?_
               refine g_val rfl rfl rfl (fun _ _ => v_move rfl) ?_
               obtain ⟨t146, h91, hm⟩ := bindO hm
               refine g_val rfl rfl rfl (fun _ _ => v_addc h91 rfl rfl) ?_
               refine g_val rfl rfl rfl (fun _ _ => v_assign rfl) ?_
               refine g_nil ?_
               obtain rfl := Option.some.inj hm
               refine g_n_then ?_
               exact g_again' _ () rfl (trivial) ((.cons rfl (.cons rfl .nil))) (fun w hh => hh)
             ·replace hm := ifF (of_decide_eq_false h87) hm
              refine g_exit ?_
              refine g_x_then ?_
              refine g_x_then ?_
              refine g_x_blk ?_
              obtain rfl := Option.some.inj hm
              have hbo := h86 _ rfl
              subst hbo
              exact g_leaf () (rfl) (.nil) (fun w hh => hh)
            ·intro j_5 hj
             have h92 := hj
             subst h92
             replace hm := ocL h85
             refine g_n_then ?_
             refine g_seq ?_
             refine g_region ?_
             refine g_val rfl rfl rfl (fun _ _ => v_assign rfl) ?_
             refine g_nil ?_
             refine g_n_then ?_
             refine g_ret ?_
             obtain rfl := Option.some.inj hm
             refine g_done rfl (fun w hh => (.tmp rfl .nil)) (fun w hh => ⟨(), rfl, trivial, hh.sel [] [] 3 (by decide) (by decide) rfl rfl rfl⟩)
def m_slices_Equal_tideWatertideWater_L0 (s10 : (List Water)) (s21 : (List Water)) (s : Int) : Option (Int ⊕ (Unit ⊕ Bool)) :=
 if s < (s10.length : Int) then
 ((ix s10 s).bind fun t18 =>
 (ix s21 s).bind fun t22 =>
 if t18 = t22 then
 ((addc s 1).bind fun t25 =>
 some (.inl t25)) else
 (some (.inr (.inr false)))) else
 (some (.inr (.inl ())))
def m_slices_Equal_tideWatertideWater (s10 : (List Water)) (s21 : (List Water)) : Option Bool :=
 if (s10.length : Int) = (s21.length : Int) then
 ((iterM FU (m_slices_Equal_tideWatertideWater_L0 s10 s21) 0).bind fun o =>
 oc o (fun j => some true) (fun r_1 => some r_1)) else
 (some false)
set_option maxRecDepth 100000 in
set_option maxHeartbeats 4000000 in
theorem c_slices_Equal_tideWatertideWater (s10 : (List Water)) (s21 : (List Water)) (qa0 : Option Addr) (na0 ca0 : Nat) (qa1 : Option Addr) (na1 ca1 : Nat) (w : World) (hw : HV w (keys [] []) [] [] [(aB qa0, aO qa0, RW.enc s10), (aB qa1, aO qa1, RW.enc s21)] w) (hna0 : s10.length = na0) (hqa0 : AOK na0 qa0) (hla0 : na0 ≤ ca0) (hna1 : s21.length = na1) (hqa1 : AOK na1 qa1) (hla1 : na1 ≤ ca1) {res : Bool} (hm : m_slices_Equal_tideWatertideWater s10 s21 = some res) :
    Calls Try.prog 157 #[.slice qa0 na0 ca0, .slice qa1 na1 ca1] w (fun en w' => ∃ l : Unit, en = .returned (.bool res) ∧ (True) ∧ HV w (keys [] []) [] [] [] w') := by
  unfold m_slices_Equal_tideWatertideWater at hm
  refine g_enter (args := [.slice qa0 na0 ca0, .slice qa1 na1 ca1]) Try.func157 rfl Try.ntmps157 rfl (e := [(0, _), (1, _)]) rfl (H := HV w (keys [] []) [] [] [(aB qa0, aO qa0, RW.enc s10), (aB qa1, aO qa1, RW.enc s21)]) hw ?_
  refine g_seq ?_
  refine g_region ?_
  refine g_val rfl rfl rfl (fun _ _ => v_assign rfl) ?_
  refine g_nil ?_
  refine g_n_then ?_
  refine g_seq ?_
  refine g_seq ?_
  refine g_region ?_
  refine g_val rfl rfl rfl (fun _ _ => v_move rfl) ?_
  refine g_val rfl rfl rfl (fun w _ => v_lenR hna0 (Try.runUnderlying23 w) rfl) ?_
  refine g_val rfl rfl rfl (fun _ _ => v_move rfl) ?_
  refine g_val rfl rfl rfl (fun w _ => v_lenR hna1 (Try.runUnderlying23 w) rfl) ?_
  refine g_val rfl rfl rfl (fun _ _ => v_neq rfl rfl) ?_
  refine g_nil ?_
  refine g_n_then ?_
  refine g_cond rfl (fun h1 => ?_) (fun h1 => ?_)
  ·replace hm := ifF (of_ndec_true h1) hm
   refine g_seq ?_
   refine g_region ?_
   refine g_val rfl rfl rfl (fun _ _ => v_assign rfl) ?_
   refine g_nil ?_
   refine g_n_then ?_
   refine g_ret ?_
   refine g_r_then ?_
   obtain rfl := Option.some.inj hm
   refine g_done rfl (fun w hh => (.tmp rfl .nil)) (fun w hh => ⟨(), rfl, trivial, hh.sel [] [] 2 (by decide) (by decide) rfl rfl rfl⟩)
  ·replace hm := ifT (of_ndec_false h1) hm
   refine g_skip ?_
   refine g_n_then ?_
   refine g_seq ?_
   refine g_seq ?_
   refine g_region ?_
   refine g_val rfl rfl rfl (fun _ _ => v_move rfl) ?_
   refine g_val rfl rfl rfl (fun w _ => v_lenR hna0 (Try.runUnderlying23 w) rfl) ?_
   refine g_val rfl rfl rfl (fun _ _ => v_move rfl) ?_
   refine g_nil ?_
   refine g_n_then ?_
   obtain ⟨o, h2, h3⟩ := bindO hm
   refine g_cut (ι := Unit) (fun j => o = .inl j) (fun j => []) (fun j => []) (fun j => []) ?_ ?_
   ·replace hm := h2
    refine g_block ?_
    refine g_loopF (ι := Unit) hm (fun s l => True) (fun s l => [(0, .slice qa0 na0 ca0), (1, .slice qa1 na1 ca1), (12, .int .i64 (s10.length : Int)), (13, .int .i64 s)]) (fun s l => []) (fun s l => []) () (trivial) ((.cons rfl (.cons rfl (.cons rfl (.cons rfl .nil))))) (fun w hh => hh) (fun s l r hpl hm h4 => ?_)
    unfold m_slices_Equal_tideWatertideWater_L0 at hm
    refine g_seq ?_
    refine g_region ?_
    refine g_val rfl rfl rfl (fun _ _ => v_lss rfl rfl) ?_
    refine g_nil ?_
    refine g_n_then ?_
    refine g_seq ?_
    refine g_cond rfl (fun h5 => ?_) (fun h5 => ?_)
    ·replace hm := ifT (of_decide_eq_true h5) hm
     refine g_skip ?_
     refine g_n_then ?_
     refine g_seq ?_
     refine g_block ?_
     refine g_seq ?_
     refine g_region ?_
     refine g_val rfl rfl rfl (fun _ _ => v_move rfl) ?_
     refine g_val rfl rfl rfl (fun _ _ => v_assign rfl) ?_
     refine g_nil ?_
     refine g_n_then ?_
     refine g_seq ?_
     refine g_draw none (.free 0 (.free 1 (.free 2 (.hoist 3 (.free 4 (.free 5 (.free 6 (.hoist 7 (.free 8 .done))))))))) _ rfl (by decide +kernel) (fun w k hh => hh.draw k) (fun w hh => hh) ?_
     refine p_free rfl rfl rfl rfl (fun _ _ => v_move rfl) ?_
     refine p_free rfl rfl rfl rfl (fun _ _ => v_move rfl) ?_
     obtain ⟨t18, h6, hm⟩ := bindO hm
     refine p_free rfl rfl rfl rfl (fun w _ => v_ixR h6 (Try.runUnderlying23 w) (Try.sizeOf68 w) rfl rfl hna0 hqa0) ?_
     refine p_hoist rfl rfl rfl rfl (fun w hh => v_ldEA RW 0 [.int .i64 t18.min, .int .i64 t18.h] h6 (Try.isAgg68 w) (Try.sizeOf68 w) rfl (hh.seg 0 rfl) rfl (Nat.add_zero _).symm) ?_
     refine p_free rfl rfl rfl rfl (fun _ _ => v_move rfl) ?_
     refine p_free rfl rfl rfl rfl (fun _ _ => v_move rfl) ?_
     obtain ⟨t22, h7, hm⟩ := bindO hm
     refine p_free rfl rfl rfl rfl (fun w _ => v_ixR h7 (Try.runUnderlying23 w) (Try.sizeOf68 w) rfl rfl hna1 hqa1) ?_
     refine p_hoist rfl rfl rfl rfl (fun w hh => v_ldEA RW 0 [.int .i64 t22.min, .int .i64 t22.h] h7 (Try.isAgg68 w) (Try.sizeOf68 w) rfl (hh.seg 1 rfl) rfl (Nat.add_zero _).symm) ?_
     refine p_free rfl rfl rfl rfl (fun w _ => v_neqAgg (gxeq68 t18 t22 w) gxeqg68 rfl rfl) ?_
     refine p_done ?_
     refine g_n_then ?_
     refine g_cond rfl (fun h8 => ?_) (fun h8 => ?_)
     ·replace hm := ifF (of_ndec_true h8) hm
      refine g_seq ?_
      refine g_region ?_
      refine g_val rfl rfl rfl (fun _ _ => v_assign rfl) ?_
      refine g_nil ?_
      refine g_n_then ?_
      refine g_ret ?_
      refine g_r_blk ?_
      refine g_r_then ?_
      refine g_r_then ?_
      refine g_r_blk ?_
      obtain rfl := Option.some.inj hm
      have hbo := h4 _ rfl
      subst hbo
      refine g_r_then ?_
      replace hm := ocR h3
      refine g_r_then ?_
      obtain rfl := Option.some.inj hm
      refine g_done rfl (fun w hh => (.tmp rfl .nil)) (fun w hh => ⟨(), rfl, trivial, hh.sel [] [] 2 (by decide) (by decide) rfl rfl rfl⟩)
     ·replace hm := ifT (of_ndec_false h8) hm
      refine g_skip ?_
      refine g_n_blk ?_
      refine g_n_then ?_
      refine g_region ?_
      obtain ⟨t25, h9, hm⟩ := bindO hm
      refine g_val rfl rfl rfl (fun _ _ => v_addc h9 rfl rfl) ?_
      refine g_val rfl rfl rfl (fun _ _ => v_move rfl) ?_
      refine g_nil ?_
      obtain rfl := Option.some.inj hm
      refine g_n_then ?_
      exact g_again' _ () rfl (trivial) ((.cons rfl (.cons rfl (.cons rfl (.cons rfl .nil))))) (fun w hh => hh)
    ·replace hm := ifF (of_decide_eq_false h5) hm
     refine g_exit ?_
     refine g_x_then ?_
     refine g_x_then ?_
     refine g_x_blk ?_
     obtain rfl := Option.some.inj hm
     have hbo := h4 _ rfl
     subst hbo
     exact g_leaf () (rfl) (.nil) (fun w hh => hh)
   ·intro j hj
    have h10 := hj
    subst h10
    replace hm := ocL h3
    refine g_n_then ?_
    refine g_seq ?_
    refine g_region ?_
    refine g_val rfl rfl rfl (fun _ _ => v_assign rfl) ?_
    refine g_nil ?_
    refine g_n_then ?_
    refine g_ret ?_
    obtain rfl := Option.some.inj hm
    refine g_done rfl (fun w hh => (.tmp rfl .nil)) (fun w hh => ⟨(), rfl, trivial, hh.sel [] [] 2 (by decide) (by decide) rfl rfl rfl⟩)
def m_laurelkit_Eq_tideWater (a0 : (List Water)) (b1 : (List Water)) : Option Bool :=
 (m_slices_Equal_tideWatertideWater a0 b1).bind fun t7 =>
 some t7
set_option maxRecDepth 100000 in
set_option maxHeartbeats 4000000 in
theorem c_laurelkit_Eq_tideWater (a0 : (List Water)) (b1 : (List Water)) (qa0 : Option Addr) (na0 ca0 : Nat) (qa1 : Option Addr) (na1 ca1 : Nat) (w : World) (hw : HV w (keys [] []) [] [] [(aB qa0, aO qa0, RW.enc a0), (aB qa1, aO qa1, RW.enc b1)] w) (hna0 : a0.length = na0) (hqa0 : AOK na0 qa0) (hla0 : na0 ≤ ca0) (hna1 : b1.length = na1) (hqa1 : AOK na1 qa1) (hla1 : na1 ≤ ca1) {res : Bool} (hm : m_laurelkit_Eq_tideWater a0 b1 = some res) :
    Calls Try.prog 112 #[.slice qa0 na0 ca0, .slice qa1 na1 ca1] w (fun en w' => ∃ l : Unit, en = .returned (.bool res) ∧ (True) ∧ HV w (keys [] []) [] [] [] w') := by
  unfold m_laurelkit_Eq_tideWater at hm
  refine g_enter (args := [.slice qa0 na0 ca0, .slice qa1 na1 ca1]) Try.func112 rfl Try.ntmps112 rfl (e := [(0, _), (1, _)]) rfl (H := HV w (keys [] []) [] [] [(aB qa0, aO qa0, RW.enc a0), (aB qa1, aO qa1, RW.enc b1)]) hw ?_
  refine g_seq ?_
  refine g_region ?_
  refine g_val rfl rfl rfl (fun _ _ => v_assign rfl) ?_
  refine g_nil ?_
  refine g_n_then ?_
  refine g_seq ?_
  refine g_region ?_
  refine g_val rfl rfl rfl (fun _ _ => v_move rfl) ?_
  refine g_val rfl rfl rfl (fun _ _ => v_move rfl) ?_
  obtain ⟨t7, h1, hm⟩ := bindO hm
  refine g_callH [] [] rfl rfl rfl rfl rfl rfl rfl (fun a w => Try.call157 a w) (fun w hh => c_slices_Equal_tideWatertideWater a0 b1 qa0 na0 ca0 qa1 na1 ca1 w (HV.callee (S0 := []) (vs0 := []) hh (roC (hh.rsep (S0 := []) (vs0 := []) 0 rfl) (roC (hh.rsep (S0 := []) (vs0 := []) 1 rfl) roN))) hna0 hqa0 hla0 hna1 hqa1 hla1 h1) (fun l h2 => ?_)
  refine g_val rfl rfl rfl (fun _ _ => v_assign rfl) ?_
  refine g_nil ?_
  refine g_n_then ?_
  refine g_ret ?_
  obtain rfl := Option.some.inj hm
  refine g_done rfl (fun w hh => (.tmp rfl .nil)) (fun w hh => ⟨(), rfl, trivial, hh.sel [] [] 2 (by decide) (by decide) rfl rfl rfl⟩)
def m_slices_Equal_intint_L0 (s10 : (List Int)) (s21 : (List Int)) (s : Int) : Option (Int ⊕ (Unit ⊕ Bool)) :=
 if s < (s10.length : Int) then
 ((ix s10 s).bind fun t18 =>
 (ix s21 s).bind fun t22 =>
 if t18 = t22 then
 ((addc s 1).bind fun t25 =>
 some (.inl t25)) else
 (some (.inr (.inr false)))) else
 (some (.inr (.inl ())))
def m_slices_Equal_intint (s10 : (List Int)) (s21 : (List Int)) : Option Bool :=
 if (s10.length : Int) = (s21.length : Int) then
 ((iterM FU (m_slices_Equal_intint_L0 s10 s21) 0).bind fun o =>
 oc o (fun j => some true) (fun r_1 => some r_1)) else
 (some false)
set_option maxRecDepth 100000 in
set_option maxHeartbeats 4000000 in
theorem c_slices_Equal_intint (s10 : (List Int)) (s21 : (List Int)) (qa0 : Option Addr) (na0 ca0 : Nat) (qa1 : Option Addr) (na1 ca1 : Nat) (w : World) (hw : HV w (keys [] []) [] [] [(aB qa0, aO qa0, RI.enc s10), (aB qa1, aO qa1, RI.enc s21)] w) (hna0 : s10.length = na0) (hqa0 : AOK na0 qa0) (hla0 : na0 ≤ ca0) (hna1 : s21.length = na1) (hqa1 : AOK na1 qa1) (hla1 : na1 ≤ ca1) {res : Bool} (hm : m_slices_Equal_intint s10 s21 = some res) :
    Calls Try.prog 130 #[.slice qa0 na0 ca0, .slice qa1 na1 ca1] w (fun en w' => ∃ l : Unit, en = .returned (.bool res) ∧ (True) ∧ HV w (keys [] []) [] [] [] w') := by
  unfold m_slices_Equal_intint at hm
  refine g_enter (args := [.slice qa0 na0 ca0, .slice qa1 na1 ca1]) Try.func130 rfl Try.ntmps130 rfl (e := [(0, _), (1, _)]) rfl (H := HV w (keys [] []) [] [] [(aB qa0, aO qa0, RI.enc s10), (aB qa1, aO qa1, RI.enc s21)]) hw ?_
  refine g_seq ?_
  refine g_region ?_
  refine g_val rfl rfl rfl (fun _ _ => v_assign rfl) ?_
  refine g_nil ?_
  refine g_n_then ?_
  refine g_seq ?_
  refine g_seq ?_
  refine g_region ?_
  refine g_val rfl rfl rfl (fun _ _ => v_move rfl) ?_
  refine g_val rfl rfl rfl (fun w _ => v_lenR hna0 (Try.runUnderlying26 w) rfl) ?_
  refine g_val rfl rfl rfl (fun _ _ => v_move rfl) ?_
  refine g_val rfl rfl rfl (fun w _ => v_lenR hna1 (Try.runUnderlying26 w) rfl) ?_
  refine g_val rfl rfl rfl (fun _ _ => v_neq rfl rfl) ?_
  refine g_nil ?_
  refine g_n_then ?_
  refine g_cond rfl (fun h1 => ?_) (fun h1 => ?_)
  ·replace hm := ifF (of_ndec_true h1) hm
   refine g_seq ?_
   refine g_region ?_
   refine g_val rfl rfl rfl (fun _ _ => v_assign rfl) ?_
   refine g_nil ?_
   refine g_n_then ?_
   refine g_ret ?_
   refine g_r_then ?_
   obtain rfl := Option.some.inj hm
   refine g_done rfl (fun w hh => (.tmp rfl .nil)) (fun w hh => ⟨(), rfl, trivial, hh.sel [] [] 2 (by decide) (by decide) rfl rfl rfl⟩)
  ·replace hm := ifT (of_ndec_false h1) hm
   refine g_skip ?_
   refine g_n_then ?_
   refine g_seq ?_
   refine g_seq ?_
   refine g_region ?_
   refine g_val rfl rfl rfl (fun _ _ => v_move rfl) ?_
   refine g_val rfl rfl rfl (fun w _ => v_lenR hna0 (Try.runUnderlying26 w) rfl) ?_
   refine g_val rfl rfl rfl (fun _ _ => v_move rfl) ?_
   refine g_nil ?_
   refine g_n_then ?_
   obtain ⟨o, h2, h3⟩ := bindO hm
   refine g_cut (ι := Unit) (fun j => o = .inl j) (fun j => []) (fun j => []) (fun j => []) ?_ ?_
   ·replace hm := h2
    refine g_block ?_
    refine g_loopF (ι := Unit) hm (fun s l => True) (fun s l => [(0, .slice qa0 na0 ca0), (1, .slice qa1 na1 ca1), (12, .int .i64 (s10.length : Int)), (13, .int .i64 s)]) (fun s l => []) (fun s l => []) () (trivial) ((.cons rfl (.cons rfl (.cons rfl (.cons rfl .nil))))) (fun w hh => hh) (fun s l r hpl hm h4 => ?_)
    unfold m_slices_Equal_intint_L0 at hm
    refine g_seq ?_
    refine g_region ?_
    refine g_val rfl rfl rfl (fun _ _ => v_lss rfl rfl) ?_
    refine g_nil ?_
    refine g_n_then ?_
    refine g_seq ?_
    refine g_cond rfl (fun h5 => ?_) (fun h5 => ?_)
    ·replace hm := ifT (of_decide_eq_true h5) hm
     refine g_skip ?_
     refine g_n_then ?_
     refine g_seq ?_
     refine g_block ?_
     refine g_seq ?_
     refine g_region ?_
     refine g_val rfl rfl rfl (fun _ _ => v_move rfl) ?_
     refine g_val rfl rfl rfl (fun _ _ => v_assign rfl) ?_
     refine g_nil ?_
     refine g_n_then ?_
     refine g_seq ?_
     refine g_draw none (.free 0 (.free 1 (.free 2 (.hoist 3 (.free 4 (.free 5 (.free 6 (.hoist 7 (.free 8 .done))))))))) _ rfl (by decide +kernel) (fun w k hh => hh.draw k) (fun w hh => hh) ?_
     refine p_free rfl rfl rfl rfl (fun _ _ => v_move rfl) ?_
     refine p_free rfl rfl rfl rfl (fun _ _ => v_move rfl) ?_
     obtain ⟨t18, h6, hm⟩ := bindO hm
     refine p_free rfl rfl rfl rfl (fun w _ => v_ixR h6 (Try.runUnderlying26 w) (Try.sizeOf3 w) rfl rfl hna0 hqa0) ?_
     refine p_hoist rfl rfl rfl rfl (fun w hh => v_ldE RI 0 h6 (Try.isAgg3 w) rfl (hh.seg 0 rfl) rfl (Nat.add_zero _).symm) ?_
     refine p_free rfl rfl rfl rfl (fun _ _ => v_move rfl) ?_
     refine p_free rfl rfl rfl rfl (fun _ _ => v_move rfl) ?_
     obtain ⟨t22, h7, hm⟩ := bindO hm
     refine p_free rfl rfl rfl rfl (fun w _ => v_ixR h7 (Try.runUnderlying26 w) (Try.sizeOf3 w) rfl rfl hna1 hqa1) ?_
     refine p_hoist rfl rfl rfl rfl (fun w hh => v_ldE RI 0 h7 (Try.isAgg3 w) rfl (hh.seg 1 rfl) rfl (Nat.add_zero _).symm) ?_
     refine p_free rfl rfl rfl rfl (fun _ _ => v_neq rfl rfl) ?_
     refine p_done ?_
     refine g_n_then ?_
     refine g_cond rfl (fun h8 => ?_) (fun h8 => ?_)
     ·replace hm := ifF (of_ndec_true h8) hm
      refine g_seq ?_
      refine g_region ?_
      refine g_val rfl rfl rfl (fun _ _ => v_assign rfl) ?_
      refine g_nil ?_
      refine g_n_then ?_
      refine g_ret ?_
      refine g_r_blk ?_
      refine g_r_then ?_
      refine g_r_then ?_
      refine g_r_blk ?_
      obtain rfl := Option.some.inj hm
      have hbo := h4 _ rfl
      subst hbo
      refine g_r_then ?_
      replace hm := ocR h3
      refine g_r_then ?_
      obtain rfl := Option.some.inj hm
      refine g_done rfl (fun w hh => (.tmp rfl .nil)) (fun w hh => ⟨(), rfl, trivial, hh.sel [] [] 2 (by decide) (by decide) rfl rfl rfl⟩)
     ·replace hm := ifT (of_ndec_false h8) hm
      refine g_skip ?_
      refine g_n_blk ?_
      refine g_n_then ?_
      refine g_region ?_
      obtain ⟨t25, h9, hm⟩ := bindO hm
      refine g_val rfl rfl rfl (fun _ _ => v_addc h9 rfl rfl) ?_
      refine g_val rfl rfl rfl (fun _ _ => v_move rfl) ?_
      refine g_nil ?_
      obtain rfl := Option.some.inj hm
      refine g_n_then ?_
      exact g_again' _ () rfl (trivial) ((.cons rfl (.cons rfl (.cons rfl (.cons rfl .nil))))) (fun w hh => hh)
    ·replace hm := ifF (of_decide_eq_false h5) hm
     refine g_exit ?_
     refine g_x_then ?_
     refine g_x_then ?_
     refine g_x_blk ?_
     obtain rfl := Option.some.inj hm
     have hbo := h4 _ rfl
     subst hbo
     exact g_leaf () (rfl) (.nil) (fun w hh => hh)
   ·intro j hj
    have h10 := hj
    subst h10
    replace hm := ocL h3
    refine g_n_then ?_
    refine g_seq ?_
    refine g_region ?_
    refine g_val rfl rfl rfl (fun _ _ => v_assign rfl) ?_
    refine g_nil ?_
    refine g_n_then ?_
    refine g_ret ?_
    obtain rfl := Option.some.inj hm
    refine g_done rfl (fun w hh => (.tmp rfl .nil)) (fun w hh => ⟨(), rfl, trivial, hh.sel [] [] 2 (by decide) (by decide) rfl rfl rfl⟩)
end Go.Proofs.Wk

namespace Go.Proofs.Wk
open Go Go.Fw Go.Gx Go.Pl
set_option linter.unusedVariables false
def m_laurelkit_Eq_int (a0 : (List Int)) (b1 : (List Int)) : Option Bool :=
 (m_slices_Equal_intint a0 b1).bind fun t7 =>
 some t7
set_option maxRecDepth 100000 in
set_option maxHeartbeats 4000000 in
theorem c_laurelkit_Eq_int (a0 : (List Int)) (b1 : (List Int)) (qa0 : Option Addr) (na0 ca0 : Nat) (qa1 : Option Addr) (na1 ca1 : Nat) (w : World) (hw : HV w (keys [] []) [] [] [(aB qa0, aO qa0, RI.enc a0), (aB qa1, aO qa1, RI.enc b1)] w) (hna0 : a0.length = na0) (hqa0 : AOK na0 qa0) (hla0 : na0 ≤ ca0) (hna1 : b1.length = na1) (hqa1 : AOK na1 qa1) (hla1 : na1 ≤ ca1) {res : Bool} (hm : m_laurelkit_Eq_int a0 b1 = some res) :
    Calls Try.prog 59 #[.slice qa0 na0 ca0, .slice qa1 na1 ca1] w (fun en w' => ∃ l : Unit, en = .returned (.bool res) ∧ (True) ∧ HV w (keys [] []) [] [] [] w') := by
  unfold m_laurelkit_Eq_int at hm
  refine g_enter (args := [.slice qa0 na0 ca0, .slice qa1 na1 ca1]) Try.func59 rfl Try.ntmps59 rfl (e := [(0, _), (1, _)]) rfl (H := HV w (keys [] []) [] [] [(aB qa0, aO qa0, RI.enc a0), (aB qa1, aO qa1, RI.enc b1)]) hw ?_
  refine g_seq ?_
  refine g_region ?_
  refine g_val rfl rfl rfl (fun _ _ => v_assign rfl) ?_
  refine g_nil ?_
  refine g_n_then ?_
  refine g_seq ?_
  refine g_region ?_
  refine g_val rfl rfl rfl (fun _ _ => v_move rfl) ?_
  refine g_val rfl rfl rfl (fun _ _ => v_move rfl) ?_
  obtain ⟨t7, h1, hm⟩ := bindO hm
  refine g_callH [] [] rfl rfl rfl rfl rfl rfl rfl (fun a w => Try.call130 a w) (fun w hh => c_slices_Equal_intint a0 b1 qa0 na0 ca0 qa1 na1 ca1 w (HV.callee (S0 := []) (vs0 := []) hh (roC (hh.rsep (S0 := []) (vs0 := []) 0 rfl) (roC (hh.rsep (S0 := []) (vs0 := []) 1 rfl) roN))) hna0 hqa0 hla0 hna1 hqa1 hla1 h1) (fun l h2 => ?_)
  refine g_val rfl rfl rfl (fun _ _ => v_assign rfl) ?_
  refine g_nil ?_
  refine g_n_then ?_
  refine g_ret ?_
  obtain rfl := Option.some.inj hm
  refine g_done rfl (fun w hh => (.tmp rfl .nil)) (fun w hh => ⟨(), rfl, trivial, hh.sel [] [] 2 (by decide) (by decide) rfl rfl rfl⟩)
def m_slices_Equal_tideSilltideSill_L0 (s10 : (List Sill)) (s21 : (List Sill)) (s : Int) : Option (Int ⊕ (Unit ⊕ Bool)) :=
 if s < (s10.length : Int) then
 ((ix s10 s).bind fun t18 =>
 (ix s21 s).bind fun t22 =>
 if t18 = (⟨t22.a, t22.b, t22.h⟩ : Sill) then
 ((addc s 1).bind fun t25 =>
 some (.inl t25)) else
 (some (.inr (.inr false)))) else
 (some (.inr (.inl ())))
def m_slices_Equal_tideSilltideSill (s10 : (List Sill)) (s21 : (List Sill)) : Option Bool :=
 if (s10.length : Int) = (s21.length : Int) then
 ((iterM FU (m_slices_Equal_tideSilltideSill_L0 s10 s21) 0).bind fun o =>
 oc o (fun j => some true) (fun r_1 => some r_1)) else
 (some false)
set_option maxRecDepth 100000 in
set_option maxHeartbeats 4000000 in
theorem c_slices_Equal_tideSilltideSill (s10 : (List Sill)) (s21 : (List Sill)) (qa0 : Option Addr) (na0 ca0 : Nat) (qa1 : Option Addr) (na1 ca1 : Nat) (w : World) (hw : HV w (keys [] []) [] [] [(aB qa0, aO qa0, RS.enc s10), (aB qa1, aO qa1, RS.enc s21)] w) (hna0 : s10.length = na0) (hqa0 : AOK na0 qa0) (hla0 : na0 ≤ ca0) (hna1 : s21.length = na1) (hqa1 : AOK na1 qa1) (hla1 : na1 ≤ ca1) {res : Bool} (hm : m_slices_Equal_tideSilltideSill s10 s21 = some res) :
    Calls Try.prog 158 #[.slice qa0 na0 ca0, .slice qa1 na1 ca1] w (fun en w' => ∃ l : Unit, en = .returned (.bool res) ∧ (True) ∧ HV w (keys [] []) [] [] [] w') := by
  unfold m_slices_Equal_tideSilltideSill at hm
  refine g_enter (args := [.slice qa0 na0 ca0, .slice qa1 na1 ca1]) Try.func158 rfl Try.ntmps158 rfl (e := [(0, _), (1, _)]) rfl (H := HV w (keys [] []) [] [] [(aB qa0, aO qa0, RS.enc s10), (aB qa1, aO qa1, RS.enc s21)]) hw ?_
  refine g_seq ?_
  refine g_region ?_
  refine g_val rfl rfl rfl (fun _ _ => v_assign rfl) ?_
  refine g_nil ?_
  refine g_n_then ?_
  refine g_seq ?_
  refine g_seq ?_
  refine g_region ?_
  refine g_val rfl rfl rfl (fun _ _ => v_move rfl) ?_
  refine g_val rfl rfl rfl (fun w _ => v_lenR hna0 (Try.runUnderlying27 w) rfl) ?_
  refine g_val rfl rfl rfl (fun _ _ => v_move rfl) ?_
  refine g_val rfl rfl rfl (fun w _ => v_lenR hna1 (Try.runUnderlying27 w) rfl) ?_
  refine g_val rfl rfl rfl (fun _ _ => v_neq rfl rfl) ?_
  refine g_nil ?_
  refine g_n_then ?_
  refine g_cond rfl (fun h1 => ?_) (fun h1 => ?_)
  ·replace hm := ifF (of_ndec_true h1) hm
   refine g_seq ?_
   refine g_region ?_
   refine g_val rfl rfl rfl (fun _ _ => v_assign rfl) ?_
   refine g_nil ?_
   refine g_n_then ?_
   refine g_ret ?_
   refine g_r_then ?_
   obtain rfl := Option.some.inj hm
   refine g_done rfl (fun w hh => (.tmp rfl .nil)) (fun w hh => ⟨(), rfl, trivial, hh.sel [] [] 2 (by decide) (by decide) rfl rfl rfl⟩)
  ·replace hm := ifT (of_ndec_false h1) hm
   refine g_skip ?_
   refine g_n_then ?_
   refine g_seq ?_
   refine g_seq ?_
   refine g_region ?_
   refine g_val rfl rfl rfl (fun _ _ => v_move rfl) ?_
   refine g_val rfl rfl rfl (fun w _ => v_lenR hna0 (Try.runUnderlying27 w) rfl) ?_
   refine g_val rfl rfl rfl (fun _ _ => v_move rfl) ?_
   refine g_nil ?_
   refine g_n_then ?_
   obtain ⟨o, h2, h3⟩ := bindO hm
   refine g_cut (ι := Unit) (fun j => o = .inl j) (fun j => []) (fun j => []) (fun j => []) ?_ ?_
   ·replace hm := h2
    refine g_block ?_
    refine g_loopF (ι := Unit) hm (fun s l => True) (fun s l => [(0, .slice qa0 na0 ca0), (1, .slice qa1 na1 ca1), (12, .int .i64 (s10.length : Int)), (13, .int .i64 s)]) (fun s l => []) (fun s l => []) () (trivial) ((.cons rfl (.cons rfl (.cons rfl (.cons rfl .nil))))) (fun w hh => hh) (fun s l r hpl hm h4 => ?_)
    unfold m_slices_Equal_tideSilltideSill_L0 at hm
    refine g_seq ?_
    refine g_region ?_
    refine g_val rfl rfl rfl (fun _ _ => v_lss rfl rfl) ?_
    refine g_nil ?_
    refine g_n_then ?_
    refine g_seq ?_
    refine g_cond rfl (fun h5 => ?_) (fun h5 => ?_)
    ·replace hm := ifT (of_decide_eq_true h5) hm
     refine g_skip ?_
     refine g_n_then ?_
     refine g_seq ?_
     refine g_block ?_
     refine g_seq ?_
     refine g_region ?_
     refine g_val rfl rfl rfl (fun _ _ => v_move rfl) ?_
     refine g_val rfl rfl rfl (fun _ _ => v_assign rfl) ?_
     refine g_nil ?_
     refine g_n_then ?_
     refine g_seq ?_
     refine g_draw none (.free 0 (.free 1 (.free 2 (.hoist 3 (.free 4 (.free 5 (.free 6 (.hoist 7 (.free 8 .done))))))))) _ rfl (by decide +kernel) (fun w k hh => hh.draw k) (fun w hh => hh) ?_
     refine p_free rfl rfl rfl rfl (fun _ _ => v_move rfl) ?_
     refine p_free rfl rfl rfl rfl (fun _ _ => v_move rfl) ?_
     obtain ⟨t18, h6, hm⟩ := bindO hm
     refine p_free rfl rfl rfl rfl (fun w _ => v_ixR h6 (Try.runUnderlying27 w) (Try.sizeOf51 w) rfl rfl hna0 hqa0) ?_
     refine p_hoist rfl rfl rfl rfl (fun w hh => v_ldEA RS 0 [.int .i64 t18.a, .int .i64 t18.b, .int .i64 t18.h] h6 (Try.isAgg51 w) (Try.sizeOf51 w) rfl (hh.seg 0 rfl) rfl (Nat.add_zero _).symm) ?_
     refine p_free rfl rfl rfl rfl (fun _ _ => v_move rfl) ?_
     refine p_free rfl rfl rfl rfl (fun _ _ => v_move rfl) ?_
     obtain ⟨t22, h7, hm⟩ := bindO hm
     refine p_free rfl rfl rfl rfl (fun w _ => v_ixR h7 (Try.runUnderlying27 w) (Try.sizeOf51 w) rfl rfl hna1 hqa1) ?_
     refine p_hoist rfl rfl rfl rfl (fun w hh => v_ldEA RS 0 [.int .i64 t22.a, .int .i64 t22.b, .int .i64 t22.h] h7 (Try.isAgg51 w) (Try.sizeOf51 w) rfl (hh.seg 1 rfl) rfl (Nat.add_zero _).symm) ?_
     refine p_free rfl rfl rfl rfl (fun w _ => v_neqAgg (gxeq51 t18 (⟨t22.a, t22.b, t22.h⟩ : Sill) w) gxeqg51 rfl rfl) ?_
     refine p_done ?_
     refine g_n_then ?_
     refine g_cond rfl (fun h8 => ?_) (fun h8 => ?_)
     ·replace hm := ifF (of_ndec_true h8) hm
      refine g_seq ?_
      refine g_region ?_
      refine g_val rfl rfl rfl (fun _ _ => v_assign rfl) ?_
      refine g_nil ?_
      refine g_n_then ?_
      refine g_ret ?_
      refine g_r_blk ?_
      refine g_r_then ?_
      refine g_r_then ?_
      refine g_r_blk ?_
      obtain rfl := Option.some.inj hm
      have hbo := h4 _ rfl
      subst hbo
      refine g_r_then ?_
      replace hm := ocR h3
      refine g_r_then ?_
      obtain rfl := Option.some.inj hm
      refine g_done rfl (fun w hh => (.tmp rfl .nil)) (fun w hh => ⟨(), rfl, trivial, hh.sel [] [] 2 (by decide) (by decide) rfl rfl rfl⟩)
     ·replace hm := ifT (of_ndec_false h8) hm
      refine g_skip ?_
      refine g_n_blk ?_
      refine g_n_then ?_
      refine g_region ?_
      obtain ⟨t25, h9, hm⟩ := bindO hm
      refine g_val rfl rfl rfl (fun _ _ => v_addc h9 rfl rfl) ?_
      refine g_val rfl rfl rfl (fun _ _ => v_move rfl) ?_
      refine g_nil ?_
      obtain rfl := Option.some.inj hm
      refine g_n_then ?_
      exact g_again' _ () rfl (trivial) ((.cons rfl (.cons rfl (.cons rfl (.cons rfl .nil))))) (fun w hh => hh)
    ·replace hm := ifF (of_decide_eq_false h5) hm
     refine g_exit ?_
     refine g_x_then ?_
     refine g_x_then ?_
     refine g_x_blk ?_
     obtain rfl := Option.some.inj hm
     have hbo := h4 _ rfl
     subst hbo
     exact g_leaf () (rfl) (.nil) (fun w hh => hh)
   ·intro j hj
    have h10 := hj
    subst h10
    replace hm := ocL h3
    refine g_n_then ?_
    refine g_seq ?_
    refine g_region ?_
    refine g_val rfl rfl rfl (fun _ _ => v_assign rfl) ?_
    refine g_nil ?_
    refine g_n_then ?_
    refine g_ret ?_
    obtain rfl := Option.some.inj hm
    refine g_done rfl (fun w hh => (.tmp rfl .nil)) (fun w hh => ⟨(), rfl, trivial, hh.sel [] [] 2 (by decide) (by decide) rfl rfl rfl⟩)
def m_laurelkit_Eq_tideSill (a0 : (List Sill)) (b1 : (List Sill)) : Option Bool :=
 (m_slices_Equal_tideSilltideSill a0 b1).bind fun t7 =>
 some t7
set_option maxRecDepth 100000 in
set_option maxHeartbeats 4000000 in
theorem c_laurelkit_Eq_tideSill (a0 : (List Sill)) (b1 : (List Sill)) (qa0 : Option Addr) (na0 ca0 : Nat) (qa1 : Option Addr) (na1 ca1 : Nat) (w : World) (hw : HV w (keys [] []) [] [] [(aB qa0, aO qa0, RS.enc a0), (aB qa1, aO qa1, RS.enc b1)] w) (hna0 : a0.length = na0) (hqa0 : AOK na0 qa0) (hla0 : na0 ≤ ca0) (hna1 : b1.length = na1) (hqa1 : AOK na1 qa1) (hla1 : na1 ≤ ca1) {res : Bool} (hm : m_laurelkit_Eq_tideSill a0 b1 = some res) :
    Calls Try.prog 113 #[.slice qa0 na0 ca0, .slice qa1 na1 ca1] w (fun en w' => ∃ l : Unit, en = .returned (.bool res) ∧ (True) ∧ HV w (keys [] []) [] [] [] w') := by
  unfold m_laurelkit_Eq_tideSill at hm
  refine g_enter (args := [.slice qa0 na0 ca0, .slice qa1 na1 ca1]) Try.func113 rfl Try.ntmps113 rfl (e := [(0, _), (1, _)]) rfl (H := HV w (keys [] []) [] [] [(aB qa0, aO qa0, RS.enc a0), (aB qa1, aO qa1, RS.enc b1)]) hw ?_
  refine g_seq ?_
  refine g_region ?_
  refine g_val rfl rfl rfl (fun _ _ => v_assign rfl) ?_
  refine g_nil ?_
  refine g_n_then ?_
  refine g_seq ?_
  refine g_region ?_
  refine g_val rfl rfl rfl (fun _ _ => v_move rfl) ?_
  refine g_val rfl rfl rfl (fun _ _ => v_move rfl) ?_
  obtain ⟨t7, h1, hm⟩ := bindO hm
  refine g_callH [] [] rfl rfl rfl rfl rfl rfl rfl (fun a w => Try.call158 a w) (fun w hh => c_slices_Equal_tideSilltideSill a0 b1 qa0 na0 ca0 qa1 na1 ca1 w (HV.callee (S0 := []) (vs0 := []) hh (roC (hh.rsep (S0 := []) (vs0 := []) 0 rfl) (roC (hh.rsep (S0 := []) (vs0 := []) 1 rfl) roN))) hna0 hqa0 hla0 hna1 hqa1 hla1 h1) (fun l h2 => ?_)
  refine g_val rfl rfl rfl (fun _ _ => v_assign rfl) ?_
  refine g_nil ?_
  refine g_n_then ?_
  refine g_ret ?_
  obtain rfl := Option.some.inj hm
  refine g_done rfl (fun w hh => (.tmp rfl .nil)) (fun w hh => ⟨(), rfl, trivial, hh.sel [] [] 2 (by decide) (by decide) rfl rfl rfl⟩)
def m_laurellaw01_same (a0 : Sands) (b1 : Sands) : Option Bool :=
 ((m_laurelkit_Eq_tideWater a0.table b1.table).bind fun t9 =>
 if t9 = true then
 (if a0.wind = b1.wind then
 ((m_laurelkit_Eq_int a0.floors b1.floors).bind fun t22 =>
 if t22 = true then
 ((m_laurelkit_Eq_tideSill a0.sills b1.sills).bind fun t29 =>
 some t29) else
 (some false)) else
 (some false)) else
 (some false)).bind fun o =>
 some o
set_option maxRecDepth 100000 in
set_option maxHeartbeats 4000000 in
theorem c_laurellaw01_same (a0 : Sands) (b1 : Sands) (qa0 : Option Addr) (na0 ca0 : Nat) (qa1 : Option Addr) (na1 ca1 : Nat) (qa2 : Option Addr) (na2 ca2 : Nat) (qa3 : Option Addr) (na3 ca3 : Nat) (qa4 : Option Addr) (na4 ca4 : Nat) (qa5 : Option Addr) (na5 ca5 : Nat) (w : World) (hw : HV w (keys [] []) [] [] [(aB qa0, aO qa0, RW.enc a0.table), (aB qa1, aO qa1, RI.enc a0.floors), (aB qa2, aO qa2, RS.enc a0.sills), (aB qa3, aO qa3, RW.enc b1.table), (aB qa4, aO qa4, RI.enc b1.floors), (aB qa5, aO qa5, RS.enc b1.sills)] w) (hna0 : a0.table.length = na0) (hqa0 : AOK na0 qa0) (hla0 : na0 ≤ ca0) (hna1 : a0.floors.length = na1) (hqa1 : AOK na1 qa1) (hla1 : na1 ≤ ca1) (hna2 : a0.sills.length = na2) (hqa2 : AOK na2 qa2) (hla2 : na2 ≤ ca2) (hna3 : b1.table.length = na3) (hqa3 : AOK na3 qa3) (hla3 : na3 ≤ ca3) (hna4 : b1.floors.length = na4) (hqa4 : AOK na4 qa4) (hla4 : na4 ≤ ca4) (hna5 : b1.sills.length = na5) (hqa5 : AOK na5 qa5) (hla5 : na5 ≤ ca5) {res : Bool} (hm : m_laurellaw01_same a0 b1 = some res) :
    Calls Try.prog 38 #[.agg #[.slice qa0 na0 ca0, .int .i64 a0.wind.lo, .int .i64 a0.wind.hi, .slice qa1 na1 ca1, .slice qa2 na2 ca2], .agg #[.slice qa3 na3 ca3, .int .i64 b1.wind.lo, .int .i64 b1.wind.hi, .slice qa4 na4 ca4, .slice qa5 na5 ca5]] w (fun en w' => ∃ l : Unit, en = .returned (.bool res) ∧ (True) ∧ HV w (keys [] []) [] [] [] w') := by
  unfold m_laurellaw01_same at hm
  refine g_enter (args := [.agg #[.slice qa0 na0 ca0, .int .i64 a0.wind.lo, .int .i64 a0.wind.hi, .slice qa1 na1 ca1, .slice qa2 na2 ca2], .agg #[.slice qa3 na3 ca3, .int .i64 b1.wind.lo, .int .i64 b1.wind.hi, .slice qa4 na4 ca4, .slice qa5 na5 ca5]]) Try.func38 rfl Try.ntmps38 rfl (e := [(0, _), (1, _)]) rfl (H := HV w (keys [] []) [] [] [(aB qa0, aO qa0, RW.enc a0.table), (aB qa1, aO qa1, RI.enc a0.floors), (aB qa2, aO qa2, RS.enc a0.sills), (aB qa3, aO qa3, RW.enc b1.table), (aB qa4, aO qa4, RI.enc b1.floors), (aB qa5, aO qa5, RS.enc b1.sills)]) hw ?_
  refine g_seq ?_
  refine g_region ?_
  refine g_boxV rfl rfl (fun b h1 => ?_)
  refine g_boxV rfl rfl (fun b_1 h2 => ?_)
  refine g_val rfl rfl rfl (fun _ _ => v_assign rfl) ?_
  refine g_nil ?_
  refine g_n_then ?_
  refine g_seq ?_
  obtain ⟨o, h3, h4⟩ := bindO hm
  refine g_cut (ι := Unit) (fun l => True) (fun l => [(4, .bool o)]) (fun l => [(b_1, .cells #[.slice qa3 na3 ca3, .int .i64 b1.wind.lo, .int .i64 b1.wind.hi, .slice qa4 na4 ca4, .slice qa5 na5 ca5] 29 (0, 0)), (b, .cells #[.slice qa0 na0 ca0, .int .i64 a0.wind.lo, .int .i64 a0.wind.hi, .slice qa1 na1 ca1, .slice qa2 na2 ca2] 29 (0, 0))]) (fun l => []) ?_ ?_
  ·replace hm := h3
   refine g_region ?_
   refine g_val rfl rfl rfl (fun w _ => v_fieldAddr 0 (Try.runUnderlying29 w) rfl (Try.sizeOf23 w) rfl) ?_
   refine g_val rfl rfl rfl (fun w hh => v_load (Try.isAgg23 w) rfl (hh.cell 1 rfl rfl)) ?_
   refine g_val rfl rfl rfl (fun w _ => v_fieldAddr 0 (Try.runUnderlying29 w) rfl (Try.sizeOf23 w) rfl) ?_
   refine g_val rfl rfl rfl (fun w hh => v_load (Try.isAgg23 w) rfl (hh.cell 0 rfl rfl)) ?_
   obtain ⟨t9, h5, hm⟩ := bindO hm
   refine g_callH [] [] rfl rfl rfl rfl rfl rfl rfl (fun a w => Try.call112 a w) (fun w hh => c_laurelkit_Eq_tideWater a0.table b1.table qa0 na0 ca0 qa3 na3 ca3 w (HV.callee (S0 := []) (vs0 := []) hh (roC (hh.rsep (S0 := []) (vs0 := []) 0 rfl) (roC (hh.rsep (S0 := []) (vs0 := []) 3 rfl) roN))) hna0 hqa0 hla0 hna3 hqa3 hla3 h5) (fun l_1 h6 => ?_)
   refine g_val rfl rfl rfl (fun _ _ => v_move rfl) ?_
   refine g_case 10 rfl (fun h7 => ?_) (fun h7 => ?_)
   ·replace hm := ifT (h7) hm
    refine v_unguard rfl rfl ?_
    refine g_val rfl rfl rfl (fun w _ => v_fieldAddr 1 (Try.runUnderlying29 w) rfl (Try.sizeOf25 w) rfl) ?_
    refine v_unguard rfl rfl ?_
    refine g_val rfl rfl rfl (fun w hh => v_loadAgg (vs := [_, _]) (Try.isAgg25 w) (Try.sizeOf25 w) rfl (hh.cells 1 rfl rfl)) ?_
    refine v_unguard rfl rfl ?_
    refine g_val rfl rfl rfl (fun w _ => v_fieldAddr 1 (Try.runUnderlying29 w) rfl (Try.sizeOf25 w) rfl) ?_
    refine v_unguard rfl rfl ?_
    refine g_val rfl rfl rfl (fun w hh => v_loadAgg (vs := [_, _]) (Try.isAgg25 w) (Try.sizeOf25 w) rfl (hh.cells 0 rfl rfl)) ?_
    refine v_unguard rfl rfl ?_
    refine g_val rfl rfl rfl (fun w _ => v_eqlAgg (gxeq25 a0.wind b1.wind w) gxeqg25 rfl rfl) ?_
    refine g_val rfl rfl rfl (fun _ _ => v_pickT rfl rfl) ?_
    refine g_val rfl rfl rfl (fun _ _ => v_move rfl) ?_
    refine g_case 17 rfl (fun h8 => ?_) (fun h8 => ?_)
    ·replace hm := ifT (of_decide_eq_true h8) hm
     refine v_unguard rfl rfl ?_
     refine g_val rfl rfl rfl (fun w _ => v_fieldAddr 3 (Try.runUnderlying29 w) rfl (Try.sizeOf26 w) rfl) ?_
     refine v_unguard rfl rfl ?_
     refine g_val rfl rfl rfl (fun w hh => v_load (Try.isAgg26 w) rfl (hh.cell 1 rfl rfl)) ?_
     refine v_unguard rfl rfl ?_
     refine g_val rfl rfl rfl (fun w _ => v_fieldAddr 3 (Try.runUnderlying29 w) rfl (Try.sizeOf26 w) rfl) ?_
     refine v_unguard rfl rfl ?_
     refine g_val rfl rfl rfl (fun w hh => v_load (Try.isAgg26 w) rfl (hh.cell 0 rfl rfl)) ?_
     refine v_unguard rfl rfl ?_
     obtain ⟨t22, h9, hm⟩ := bindO hm
     refine g_callH [] [] rfl rfl rfl rfl rfl rfl rfl (fun a w => Try.call59 a w) (fun w hh => c_laurelkit_Eq_int a0.floors b1.floors qa1 na1 ca1 qa4 na4 ca4 w (HV.callee (S0 := []) (vs0 := []) hh (roC (hh.rsep (S0 := []) (vs0 := []) 1 rfl) (roC (hh.rsep (S0 := []) (vs0 := []) 4 rfl) roN))) hna1 hqa1 hla1 hna4 hqa4 hla4 h9) (fun l_2 h10 => ?_)
     refine g_val rfl rfl rfl (fun _ _ => v_pickT rfl rfl) ?_
     refine g_val rfl rfl rfl (fun _ _ => v_move rfl) ?_
     refine g_case 24 rfl (fun h11 => ?_) (fun h11 => ?_)
     ·replace hm := ifT (h11) hm
      refine v_unguard rfl rfl ?_
      refine g_val rfl rfl rfl (fun w _ => v_fieldAddr 4 (Try.runUnderlying29 w) rfl (Try.sizeOf27 w) rfl) ?_
      refine v_unguard rfl rfl ?_
      refine g_val rfl rfl rfl (fun w hh => v_load (Try.isAgg27 w) rfl (hh.cell 1 rfl rfl)) ?_
      refine v_unguard rfl rfl ?_
      refine g_val rfl rfl rfl (fun w _ => v_fieldAddr 4 (Try.runUnderlying29 w) rfl (Try.sizeOf27 w) rfl) ?_
      refine v_unguard rfl rfl ?_
      refine g_val rfl rfl rfl (fun w hh => v_load (Try.isAgg27 w) rfl (hh.cell 0 rfl rfl)) ?_
      refine v_unguard rfl rfl ?_
      obtain ⟨t29, h12, hm⟩ := bindO hm
      refine g_callH [] [] rfl rfl rfl rfl rfl rfl rfl (fun a w => Try.call113 a w) (fun w hh => c_laurelkit_Eq_tideSill a0.sills b1.sills qa2 na2 ca2 qa5 na5 ca5 w (HV.callee (S0 := []) (vs0 := []) hh (roC (hh.rsep (S0 := []) (vs0 := []) 2 rfl) (roC (hh.rsep (S0 := []) (vs0 := []) 5 rfl) roN))) hna2 hqa2 hla2 hna5 hqa5 hla5 h12) (fun l_3 h13 => ?_)
      refine g_val rfl rfl rfl (fun _ _ => v_pickT rfl rfl) ?_
      refine g_val rfl rfl rfl (fun _ _ => v_assign rfl) ?_
      refine g_nil ?_
      obtain rfl := Option.some.inj hm
      exact g_leaf () (trivial) ((.cons rfl .nil)) (fun w hh => hh)
     ·replace hm := ifF ((fun hh => Bool.noConfusion ((h11).symm.trans hh))) hm
      refine g_skipG rfl rfl rfl rfl rfl rfl ?_
      refine g_skipG rfl rfl rfl rfl rfl rfl ?_
      refine g_skipG rfl rfl rfl rfl rfl rfl ?_
      refine g_skipG rfl rfl rfl rfl rfl rfl ?_
      refine g_skipG rfl rfl rfl rfl rfl rfl ?_
      refine g_val rfl rfl rfl (fun _ _ => v_pickF rfl rfl) ?_
      refine g_val rfl rfl rfl (fun _ _ => v_assign rfl) ?_
      refine g_nil ?_
      obtain rfl := Option.some.inj hm
      exact g_leaf () (trivial) ((.cons rfl .nil)) (fun w hh => hh)
    ·replace hm := ifF (of_decide_eq_false h8) hm
     refine g_skipG rfl rfl rfl rfl rfl rfl ?_
     refine g_skipG rfl rfl rfl rfl rfl rfl ?_
     refine g_skipG rfl rfl rfl rfl rfl rfl ?_
     refine g_skipG rfl rfl rfl rfl rfl rfl ?_
     refine g_skipG rfl rfl rfl rfl rfl rfl ?_
     refine g_val rfl rfl rfl (fun _ _ => v_pickF rfl rfl) ?_
     refine g_val rfl rfl rfl (fun _ _ => v_move rfl) ?_
     refine g_skipG rfl rfl rfl rfl rfl rfl ?_
     refine g_skipG rfl rfl rfl rfl rfl rfl ?_
     refine g_skipG rfl rfl rfl rfl rfl rfl ?_
     refine g_skipG rfl rfl rfl rfl rfl rfl ?_
     refine g_skipG rfl rfl rfl rfl rfl rfl ?_
     refine g_val rfl rfl rfl (fun _ _ => v_pickF rfl rfl) ?_
     refine g_val rfl rfl rfl (fun _ _ => v_assign rfl) ?_
     refine g_nil ?_
     obtain rfl := Option.some.inj hm
     exact g_leaf () (trivial) ((.cons rfl .nil)) (fun w hh => hh)
   ·replace hm := ifF ((fun hh => Bool.noConfusion ((h7).symm.trans hh))) hm
    refine g_skipG rfl rfl rfl rfl rfl rfl ?_
    refine g_skipG rfl rfl rfl rfl rfl rfl ?_
    refine g_skipG rfl rfl rfl rfl rfl rfl ?_
    refine g_skipG rfl rfl rfl rfl rfl rfl ?_
    refine g_skipG rfl rfl rfl rfl rfl rfl ?_
    refine g_val rfl rfl rfl (fun _ _ => v_pickF rfl rfl) ?_
    refine g_val rfl rfl rfl (fun _ _ => v_move rfl) ?_
    refine g_skipG rfl rfl rfl rfl rfl rfl ?_
    refine g_skipG rfl rfl rfl rfl rfl rfl ?_
    refine g_skipG rfl rfl rfl rfl rfl rfl ?_
    refine g_skipG rfl rfl rfl rfl rfl rfl ?_
    refine g_skipG rfl rfl rfl rfl rfl rfl ?_
    refine g_val rfl rfl rfl (fun _ _ => v_pickF rfl rfl) ?_
    refine g_val rfl rfl rfl (fun _ _ => v_move rfl) ?_
    refine g_skipG rfl rfl rfl rfl rfl rfl ?_
    refine g_skipG rfl rfl rfl rfl rfl rfl ?_
    refine g_skipG rfl rfl rfl rfl rfl rfl ?_
    refine g_skipG rfl rfl rfl rfl rfl rfl ?_
    refine g_skipG rfl rfl rfl rfl rfl rfl ?_
    refine g_val rfl rfl rfl (fun _ _ => v_pickF rfl rfl) ?_
    refine g_val rfl rfl rfl (fun _ _ => v_assign rfl) ?_
    refine g_nil ?_
    obtain rfl := Option.some.inj hm
    exact g_leaf () (trivial) ((.cons rfl .nil)) (fun w hh => hh)
  ·intro l hj
   replace hm := h4
   refine g_n_then ?_
   refine g_ret ?_
   obtain rfl := Option.some.inj hm
   refine g_done rfl (fun w hh => (.tmp rfl .nil)) (fun w hh => ⟨(), rfl, trivial, hh.sel [] [] 6 (by decide) (by decide) rfl rfl rfl⟩)
def m_laurellaw01_wide (s0 : Sands) : Option Bool :=
 (if 20 < (s0.table.length : Int) then
 (some true) else
 (if 20 < (s0.floors.length : Int) then
 (some true) else
 (if 30 < (s0.sills.length : Int) then
 (some true) else
 (if 8 < (s0.sills.length : Int) then
 (some (decide ((s0.sills.length : Int) ≤ 16))) else
 (some false))))).bind fun o =>
 some o
set_option maxRecDepth 100000 in
set_option maxHeartbeats 4000000 in
theorem c_laurellaw01_wide (s0 : Sands) (qa0 : Option Addr) (na0 ca0 : Nat) (qa1 : Option Addr) (na1 ca1 : Nat) (qa2 : Option Addr) (na2 ca2 : Nat) (w : World) (hw : HV w (keys [] []) [] [] [(aB qa0, aO qa0, RW.enc s0.table), (aB qa1, aO qa1, RI.enc s0.floors), (aB qa2, aO qa2, RS.enc s0.sills)] w) (hna0 : s0.table.length = na0) (hqa0 : AOK na0 qa0) (hla0 : na0 ≤ ca0) (hna1 : s0.floors.length = na1) (hqa1 : AOK na1 qa1) (hla1 : na1 ≤ ca1) (hna2 : s0.sills.length = na2) (hqa2 : AOK na2 qa2) (hla2 : na2 ≤ ca2) {res : Bool} (hm : m_laurellaw01_wide s0 = some res) :
    Calls Try.prog 52 #[.agg #[.slice qa0 na0 ca0, .int .i64 s0.wind.lo, .int .i64 s0.wind.hi, .slice qa1 na1 ca1, .slice qa2 na2 ca2]] w (fun en w' => ∃ l : Unit, en = .returned (.bool res) ∧ (True) ∧ HV w (keys [] []) [] [] [] w') := by
  unfold m_laurellaw01_wide at hm
  refine g_enter (args := [.agg #[.slice qa0 na0 ca0, .int .i64 s0.wind.lo, .int .i64 s0.wind.hi, .slice qa1 na1 ca1, .slice qa2 na2 ca2]]) Try.func52 rfl Try.ntmps52 rfl (e := [(0, _)]) rfl (H := HV w (keys [] []) [] [] [(aB qa0, aO qa0, RW.enc s0.table), (aB qa1, aO qa1, RI.enc s0.floors), (aB qa2, aO qa2, RS.enc s0.sills)]) hw ?_
  refine g_seq ?_
  refine g_region ?_
  refine g_boxV rfl rfl (fun b h1 => ?_)
  refine g_val rfl rfl rfl (fun _ _ => v_assign rfl) ?_
  refine g_nil ?_
  refine g_n_then ?_
  refine g_seq ?_
  obtain ⟨o, h2, h3⟩ := bindO hm
  refine g_cut (ι := Unit) (fun l => True) (fun l => [(2, .bool o)]) (fun l => [(b, .cells #[.slice qa0 na0 ca0, .int .i64 s0.wind.lo, .int .i64 s0.wind.hi, .slice qa1 na1 ca1, .slice qa2 na2 ca2] 29 (0, 0))]) (fun l => []) ?_ ?_
  ·replace hm := h2
   refine g_region ?_
   refine g_val rfl rfl rfl (fun w _ => v_fieldAddr 0 (Try.runUnderlying29 w) rfl (Try.sizeOf23 w) rfl) ?_
   refine g_val rfl rfl rfl (fun w hh => v_load (Try.isAgg23 w) rfl (hh.cell 0 rfl rfl)) ?_
   refine g_val rfl rfl rfl (fun w _ => v_lenR hna0 (Try.runUnderlying23 w) rfl) ?_
   refine g_val rfl rfl rfl (fun _ _ => v_gtr rfl rfl) ?_
   refine g_val rfl rfl rfl (fun _ _ => v_move rfl) ?_
   refine g_case 7 rfl (fun h4 => ?_) (fun h4 => ?_)
   ·replace hm := ifT (of_decide_eq_true h4) hm
    refine g_skipG rfl rfl rfl rfl rfl rfl ?_
    refine g_skipG rfl rfl rfl rfl rfl rfl ?_
    refine g_skipG rfl rfl rfl rfl rfl rfl ?_
    refine g_skipG rfl rfl rfl rfl rfl rfl ?_
    refine g_val rfl rfl rfl (fun _ _ => v_pickT rfl rfl) ?_
    refine g_val rfl rfl rfl (fun _ _ => v_move rfl) ?_
    refine g_skipG rfl rfl rfl rfl rfl rfl ?_
    refine g_skipG rfl rfl rfl rfl rfl rfl ?_
    refine g_skipG rfl rfl rfl rfl rfl rfl ?_
    refine g_skipG rfl rfl rfl rfl rfl rfl ?_
    refine g_val rfl rfl rfl (fun _ _ => v_pickT rfl rfl) ?_
    refine g_val rfl rfl rfl (fun _ _ => v_move rfl) ?_
    refine g_skipG rfl rfl rfl rfl rfl rfl ?_
    refine g_skipG rfl rfl rfl rfl rfl rfl ?_
    refine g_skipG rfl rfl rfl rfl rfl rfl ?_
    refine g_skipG rfl rfl rfl rfl rfl rfl ?_
    refine g_skipG rfl rfl rfl rfl rfl rfl ?_
    refine g_skipU' rfl rfl rfl rfl rfl ?_
    refine g_skipU' rfl rfl rfl rfl rfl ?_
    refine g_skipU' rfl rfl rfl rfl rfl ?_
    refine g_skipU' rfl rfl rfl rfl rfl ?_
    refine g_skipG rfl rfl rfl rfl rfl rfl ?_
    refine g_val rfl rfl rfl (fun _ _ => v_pickT rfl rfl) ?_
    refine g_val rfl rfl rfl (fun _ _ => v_assign rfl) ?_
    refine g_nil ?_
    obtain rfl := Option.some.inj hm
    exact g_leaf () (trivial) ((.cons rfl .nil)) (fun w hh => hh)
   ·replace hm := ifF (of_decide_eq_false h4) hm
    refine v_unguard rfl rfl ?_
    refine g_val rfl rfl rfl (fun w _ => v_fieldAddr 3 (Try.runUnderlying29 w) rfl (Try.sizeOf26 w) rfl) ?_
    refine v_unguard rfl rfl ?_
    refine g_val rfl rfl rfl (fun w hh => v_load (Try.isAgg26 w) rfl (hh.cell 0 rfl rfl)) ?_
    refine v_unguard rfl rfl ?_
    refine g_val rfl rfl rfl (fun w _ => v_lenR hna1 (Try.runUnderlying26 w) rfl) ?_
    refine v_unguard rfl rfl ?_
    refine g_val rfl rfl rfl (fun _ _ => v_gtr rfl rfl) ?_
    refine g_val rfl rfl rfl (fun _ _ => v_pickF rfl rfl) ?_
    refine g_val rfl rfl rfl (fun _ _ => v_move rfl) ?_
    refine g_case 13 rfl (fun h5 => ?_) (fun h5 => ?_)
    ·replace hm := ifT (of_decide_eq_true h5) hm
     refine g_skipG rfl rfl rfl rfl rfl rfl ?_
     refine g_skipG rfl rfl rfl rfl rfl rfl ?_
     refine g_skipG rfl rfl rfl rfl rfl rfl ?_
     refine g_skipG rfl rfl rfl rfl rfl rfl ?_
     refine g_val rfl rfl rfl (fun _ _ => v_pickT rfl rfl) ?_
     refine g_val rfl rfl rfl (fun _ _ => v_move rfl) ?_
     refine g_skipG rfl rfl rfl rfl rfl rfl ?_
     refine g_skipG rfl rfl rfl rfl rfl rfl ?_
     refine g_skipG rfl rfl rfl rfl rfl rfl ?_
     refine g_skipG rfl rfl rfl rfl rfl rfl ?_
     refine g_skipG rfl rfl rfl rfl rfl rfl ?_
     refine g_skipU' rfl rfl rfl rfl rfl ?_
     refine g_skipU' rfl rfl rfl rfl rfl ?_
     refine g_skipU' rfl rfl rfl rfl rfl ?_
     refine g_skipU' rfl rfl rfl rfl rfl ?_
     refine g_skipG rfl rfl rfl rfl rfl rfl ?_
     refine g_val rfl rfl rfl (fun _ _ => v_pickT rfl rfl) ?_
     refine g_val rfl rfl rfl (fun _ _ => v_assign rfl) ?_
     refine g_nil ?_
     obtain rfl := Option.some.inj hm
     exact g_leaf () (trivial) ((.cons rfl .nil)) (fun w hh => hh)
    ·replace hm := ifF (of_decide_eq_false h5) hm
     refine v_unguard rfl rfl ?_
     refine g_val rfl rfl rfl (fun w _ => v_fieldAddr 4 (Try.runUnderlying29 w) rfl (Try.sizeOf27 w) rfl) ?_
     refine v_unguard rfl rfl ?_
     refine g_val rfl rfl rfl (fun w hh => v_load (Try.isAgg27 w) rfl (hh.cell 0 rfl rfl)) ?_
     refine v_unguard rfl rfl ?_
     refine g_val rfl rfl rfl (fun w _ => v_lenR hna2 (Try.runUnderlying27 w) rfl) ?_
     refine v_unguard rfl rfl ?_
     refine g_val rfl rfl rfl (fun _ _ => v_gtr rfl rfl) ?_
     refine g_val rfl rfl rfl (fun _ _ => v_pickF rfl rfl) ?_
     refine g_val rfl rfl rfl (fun _ _ => v_move rfl) ?_
     refine g_case 19 rfl (fun h6 => ?_) (fun h6 => ?_)
     ·replace hm := ifT (of_decide_eq_true h6) hm
      refine g_skipG rfl rfl rfl rfl rfl rfl ?_
      refine g_skipG rfl rfl rfl rfl rfl rfl ?_
      refine g_skipG rfl rfl rfl rfl rfl rfl ?_
      refine g_skipG rfl rfl rfl rfl rfl rfl ?_
      refine g_skipG rfl rfl rfl rfl rfl rfl ?_
      refine g_skipU' rfl rfl rfl rfl rfl ?_
      refine g_skipU' rfl rfl rfl rfl rfl ?_
      refine g_skipU' rfl rfl rfl rfl rfl ?_
      refine g_skipU' rfl rfl rfl rfl rfl ?_
      refine g_skipG rfl rfl rfl rfl rfl rfl ?_
      refine g_val rfl rfl rfl (fun _ _ => v_pickT rfl rfl) ?_
      refine g_val rfl rfl rfl (fun _ _ => v_assign rfl) ?_
      refine g_nil ?_
      obtain rfl := Option.some.inj hm
      exact g_leaf () (trivial) ((.cons rfl .nil)) (fun w hh => hh)
     ·replace hm := ifF (of_decide_eq_false h6) hm
      refine v_unguard rfl rfl ?_
      refine g_val rfl rfl rfl (fun w _ => v_fieldAddr 4 (Try.runUnderlying29 w) rfl (Try.sizeOf27 w) rfl) ?_
      refine v_unguard rfl rfl ?_
      refine g_val rfl rfl rfl (fun w hh => v_load (Try.isAgg27 w) rfl (hh.cell 0 rfl rfl)) ?_
      refine v_unguard rfl rfl ?_
      refine g_val rfl rfl rfl (fun w _ => v_lenR hna2 (Try.runUnderlying27 w) rfl) ?_
      refine v_unguard rfl rfl ?_
      refine g_val rfl rfl rfl (fun _ _ => v_gtr rfl rfl) ?_
      refine v_unguard rfl rfl ?_
      refine g_val rfl rfl rfl (fun _ _ => v_move rfl) ?_
      refine g_case 24 rfl (fun h7 => ?_) (fun h7 => ?_)
      ·replace hm := ifT (of_decide_eq_true h7) hm
       refine v_unguard rfl rfl ?_
       refine g_val rfl rfl rfl (fun w _ => v_fieldAddr 4 (Try.runUnderlying29 w) rfl (Try.sizeOf27 w) rfl) ?_
       refine v_unguard rfl rfl ?_
       refine g_val rfl rfl rfl (fun w hh => v_load (Try.isAgg27 w) rfl (hh.cell 0 rfl rfl)) ?_
       refine v_unguard rfl rfl ?_
       refine g_val rfl rfl rfl (fun w _ => v_lenR hna2 (Try.runUnderlying27 w) rfl) ?_
       refine v_unguard rfl rfl ?_
       refine g_val rfl rfl rfl (fun _ _ => v_leq rfl rfl) ?_
       refine v_unguard rfl rfl ?_
       refine g_val rfl rfl rfl (fun _ _ => v_pickT rfl rfl) ?_
       refine g_val rfl rfl rfl (fun _ _ => v_pickF rfl rfl) ?_
       refine g_val rfl rfl rfl (fun _ _ => v_assign rfl) ?_
       refine g_nil ?_
       obtain rfl := Option.some.inj hm
       exact g_leaf () (trivial) ((.cons rfl .nil)) (fun w hh => hh)
      ·replace hm := ifF (of_decide_eq_false h7) hm
       refine g_skipG rfl rfl rfl rfl rfl rfl ?_
       refine g_skipG rfl rfl rfl rfl rfl rfl ?_
       refine g_skipG rfl rfl rfl rfl rfl rfl ?_
       refine g_skipG rfl rfl rfl rfl rfl rfl ?_
       refine v_unguard rfl rfl ?_
       refine g_val rfl rfl rfl (fun _ _ => v_pickF rfl rfl) ?_
       refine g_val rfl rfl rfl (fun _ _ => v_pickF rfl rfl) ?_
       refine g_val rfl rfl rfl (fun _ _ => v_assign rfl) ?_
       refine g_nil ?_
       obtain rfl := Option.some.inj hm
       exact g_leaf () (trivial) ((.cons rfl .nil)) (fun w hh => hh)
  ·intro l hj
   replace hm := h3
   refine g_n_then ?_
   refine g_ret ?_
   obtain rfl := Option.some.inj hm
   refine g_done rfl (fun w hh => (.tmp rfl .nil)) (fun w hh => ⟨(), rfl, trivial, hh.sel [] [] 3 (by decide) (by decide) rfl rfl rfl⟩)
def m_laurelref01_has_L0 (l0 : (List Int)) (n1 : Int) (s : Int) : Option (Int ⊕ (Unit ⊕ Bool)) :=
 if s < (l0.length : Int) then
 ((ix l0 s).bind fun t14 =>
 if t14 = n1 then
 (some (.inr (.inr true))) else
 ((addc s 1).bind fun t11 =>
 some (.inl t11))) else
 (some (.inr (.inl ())))
def m_laurelref01_has (l0 : (List Int)) (n1 : Int) : Option Bool :=
 (iterM FU (m_laurelref01_has_L0 l0 n1) 0).bind fun o =>
 oc o (fun j => some false) (fun r_1 => some r_1)
set_option maxRecDepth 100000 in
set_option maxHeartbeats 4000000 in
theorem c_laurelref01_has (l0 : (List Int)) (n1 : Int) (qa0 : Option Addr) (na0 ca0 : Nat) (w : World) (hw : HV w (keys [] []) [] [] [(aB qa0, aO qa0, RI.enc l0)] w) (hna0 : l0.length = na0) (hqa0 : AOK na0 qa0) (hla0 : na0 ≤ ca0) {res : Bool} (hm : m_laurelref01_has l0 n1 = some res) :
    Calls Try.prog 136 #[.slice qa0 na0 ca0, .int .i64 n1] w (fun en w' => ∃ l : Unit, en = .returned (.bool res) ∧ (True) ∧ HV w (keys [] []) [] [] [] w') := by
  unfold m_laurelref01_has at hm
  refine g_enter (args := [.slice qa0 na0 ca0, .int .i64 n1]) Try.func136 rfl Try.ntmps136 rfl (e := [(0, _), (1, _)]) rfl (H := HV w (keys [] []) [] [] [(aB qa0, aO qa0, RI.enc l0)]) hw ?_
  refine g_seq ?_
  refine g_region ?_
  refine g_val rfl rfl rfl (fun _ _ => v_assign rfl) ?_
  refine g_nil ?_
  refine g_n_then ?_
  refine g_seq ?_
  refine g_seq ?_
  refine g_region ?_
  refine g_val rfl rfl rfl (fun _ _ => v_assign rfl) ?_
  refine g_nil ?_
  refine g_n_then ?_
  obtain ⟨o, h1, h2⟩ := bindO hm
  refine g_cut (ι := Unit) (fun j => o = .inl j) (fun j => []) (fun j => []) (fun j => []) ?_ ?_
  ·replace hm := h1
   refine g_block ?_
   refine g_loopF (ι := Unit) hm (fun s l => True) (fun s l => [(0, .slice qa0 na0 ca0), (1, .int .i64 n1), (5, .int .i64 s)]) (fun s l => []) (fun s l => []) () (trivial) ((.cons rfl (.cons rfl (.cons rfl .nil)))) (fun w hh => hh) (fun s l r hpl hm h3 => ?_)
   unfold m_laurelref01_has_L0 at hm
   refine g_seq ?_
   refine g_seq ?_
   refine g_region ?_
   refine g_val rfl rfl rfl (fun _ _ => v_move rfl) ?_
   refine g_val rfl rfl rfl (fun _ _ => v_move rfl) ?_
   refine g_val rfl rfl rfl (fun w _ => v_lenR hna0 (Try.runUnderlying26 w) rfl) ?_
   refine g_val rfl rfl rfl (fun _ _ => v_lss rfl rfl) ?_
   refine g_nil ?_
   refine g_n_then ?_
   refine g_cond rfl (fun h4 => ?_) (fun h4 => ?_)
   ·replace hm := ifT (of_decide_eq_true h4) hm
    refine g_skip ?_
    refine g_n_then ?_
    refine g_seq ?_
    refine g_block ?_
    refine g_seq ?_
    refine g_region ?_
    refine g_val rfl rfl rfl (fun _ _ => v_move rfl) ?_
    refine g_val rfl rfl rfl (fun _ _ => v_move rfl) ?_
    obtain ⟨t14, h5, hm⟩ := bindO hm
    refine g_val rfl rfl rfl (fun w _ => v_ixR h5 (Try.runUnderlying26 w) (Try.sizeOf3 w) rfl rfl hna0 hqa0) ?_
    refine g_val rfl rfl rfl (fun w hh => v_ldE RI 0 h5 (Try.isAgg3 w) rfl (hh.seg 0 rfl) rfl (Nat.add_zero _).symm) ?_
    refine g_val rfl rfl rfl (fun _ _ => v_move rfl) ?_
    refine g_val rfl rfl rfl (fun _ _ => v_eql rfl rfl) ?_
    refine g_nil ?_
    refine g_n_then ?_
    refine g_cond rfl (fun h6 => ?_) (fun h6 => ?_)
    ·replace hm := ifT (of_decide_eq_true h6) hm
     refine g_seq ?_
     refine g_region ?_
     refine g_val rfl rfl rfl (fun _ _ => v_assign rfl) ?_
     refine g_nil ?_
     refine g_n_then ?_
     refine g_ret ?_
     refine g_r_blk ?_
     refine g_r_then ?_
     refine g_r_then ?_
     refine g_r_blk ?_
     obtain rfl := Option.some.inj hm
     have hbo := h3 _ rfl
     subst hbo
     refine g_r_then ?_
     replace hm := ocR h2
     refine g_r_then ?_
     obtain rfl := Option.some.inj hm
     refine g_done rfl (fun w hh => (.tmp rfl .nil)) (fun w hh => ⟨(), rfl, trivial, hh.sel [] [] 1 (by decide) (by decide) rfl rfl rfl⟩)
    ·replace hm := ifF (of_decide_eq_false h6) hm
     refine g_skip ?_
     refine g_n_blk ?_
     refine g_n_then ?_
     refine g_region ?_
     refine g_val rfl rfl rfl (fun _ _ => v_move rfl) ?_
     obtain ⟨t11, h7, hm⟩ := bindO hm
     refine g_val rfl rfl rfl (fun _ _ => v_addc h7 rfl rfl) ?_
     refine g_val rfl rfl rfl (fun _ _ => v_assign rfl) ?_
     refine g_nil ?_
     obtain rfl := Option.some.inj hm
     refine g_n_then ?_
     exact g_again' _ () rfl (trivial) ((.cons rfl (.cons rfl (.cons rfl .nil)))) (fun w hh => hh)
   ·replace hm := ifF (of_decide_eq_false h4) hm
    refine g_exit ?_
    refine g_x_then ?_
    refine g_x_then ?_
    refine g_x_blk ?_
    obtain rfl := Option.some.inj hm
    have hbo := h3 _ rfl
    subst hbo
    exact g_leaf () (rfl) (.nil) (fun w hh => hh)
  ·intro j hj
   have h8 := hj
   subst h8
   replace hm := ocL h2
   refine g_n_then ?_
   refine g_seq ?_
   refine g_region ?_
   refine g_val rfl rfl rfl (fun _ _ => v_assign rfl) ?_
   refine g_nil ?_
   refine g_n_then ?_
   refine g_ret ?_
   obtain rfl := Option.some.inj hm
   refine g_done rfl (fun w hh => (.tmp rfl .nil)) (fun w hh => ⟨(), rfl, trivial, hh.sel [] [] 1 (by decide) (by decide) rfl rfl rfl⟩)
structure m_laurelref01_least_S0 where
  out15 : Int
  i16 : Int
def m_laurelref01_least_L0 (s0 : Sands) (at1 : Int) (met2 : (List Int)) (sills5 : (List Int)) (places6 : (List Int)) (rec_ : Sands → Int → (List Int) → Int → Int → (List Int) → (List Int) → Option Int) (crest3 : Int) (to4 : Int) (s : m_laurelref01_least_S0) : Option (m_laurelref01_least_S0 ⊕ Int) :=
 if s.i16 < (s0.sills.length : Int) then
 (((ix s0.sills s.i16).bind fun t34 =>
 (if t34.a = at1 then
 (some t34.b) else
 (some (-2))).bind fun o_2 =>
 (if t34.b = at1 then
 (some t34.a) else
 (some o_2)).bind fun o_3 =>
 (if o_3 < 0 then
 (some true) else
 ((m_laurelref01_has met2 o_3).bind fun t53 =>
 if t53 = true then
 (some true) else
 ((m_laurelref01_has sills5 s.i16).bind fun t58 =>
 if t58 = true then
 (some true) else
 ((m_laurelref01_has places6 o_3).bind fun t63 =>
 some t63)))).bind fun o_4 =>
 if o_4 = true then
 (some s.out15) else
 ((appc 8 [] met2).bind fun t67 =>
 (appc 8 t67 [o_3]).bind fun t70 =>
 (ix s0.floors o_3).bind fun t81 =>
 (rec_ s0 o_3 t70 (max (max crest3 t34.h) t81) to4 sills5 places6).bind fun t87 =>
 some (min s.out15 t87))).bind fun o_1 =>
 (addc s.i16 1).bind fun t30 =>
 some (.inl (⟨o_1, t30⟩ : m_laurelref01_least_S0))) else
 (some (.inr s.out15))
def m_laurelref01_least_B (rec_ : Sands → Int → (List Int) → Int → Int → (List Int) → (List Int) → Option Int) (s0 : Sands) (at1 : Int) (met2 : (List Int)) (crest3 : Int) (to4 : Int) (sills5 : (List Int)) (places6 : (List Int)) : Option Int :=
 if at1 = to4 then
 (some crest3) else
 ((iterM FU (m_laurelref01_least_L0 s0 at1 met2 sills5 places6 rec_ crest3 to4) (⟨5000, 0⟩ : m_laurelref01_least_S0)).bind fun o =>
 some o)
def m_laurelref01_least : Nat → Sands → Int → (List Int) → Int → Int → (List Int) → (List Int) → Option Int
  | 0, _, _, _, _, _, _, _ => none
  | fu + 1, s0, at1, met2, crest3, to4, sills5, places6 => m_laurelref01_least_B (m_laurelref01_least fu) s0 at1 met2 crest3 to4 sills5 places6
set_option maxRecDepth 100000 in
set_option maxHeartbeats 4000000 in
theorem c_laurelref01_least (fu_ : Nat) : ∀ (s0 : Sands) (at1 : Int) (met2 : (List Int)) (crest3 : Int) (to4 : Int) (sills5 : (List Int)) (places6 : (List Int)) (qa0 : Option Addr) (na0 ca0 : Nat) (qa1 : Option Addr) (na1 ca1 : Nat) (qa2 : Option Addr) (na2 ca2 : Nat) (qa3 : Option Addr) (na3 ca3 : Nat) (qa4 : Option Addr) (na4 ca4 : Nat) (qa5 : Option Addr) (na5 ca5 : Nat) (w : World) (hw : HV w (keys [] []) [] [] [(aB qa0, aO qa0, RW.enc s0.table), (aB qa1, aO qa1, RI.enc s0.floors), (aB qa2, aO qa2, RS.enc s0.sills), (aB qa3, aO qa3, RI.enc met2), (aB qa4, aO qa4, RI.enc sills5), (aB qa5, aO qa5, RI.enc places6)] w) (hna0 : s0.table.length = na0) (hqa0 : AOK na0 qa0) (hla0 : na0 ≤ ca0) (hna1 : s0.floors.length = na1) (hqa1 : AOK na1 qa1) (hla1 : na1 ≤ ca1) (hna2 : s0.sills.length = na2) (hqa2 : AOK na2 qa2) (hla2 : na2 ≤ ca2) (hna3 : met2.length = na3) (hqa3 : AOK na3 qa3) (hla3 : na3 ≤ ca3) (hna4 : sills5.length = na4) (hqa4 : AOK na4 qa4) (hla4 : na4 ≤ ca4) (hna5 : places6.length = na5) (hqa5 : AOK na5 qa5) (hla5 : na5 ≤ ca5) {res : Int} (hm : m_laurelref01_least fu_ s0 at1 met2 crest3 to4 sills5 places6 = some res),
    Calls Try.prog 138 #[.agg #[.slice qa0 na0 ca0, .int .i64 s0.wind.lo, .int .i64 s0.wind.hi, .slice qa1 na1 ca1, .slice qa2 na2 ca2], .int .i64 at1, .slice qa3 na3 ca3, .int .i64 crest3, .int .i64 to4, .slice qa4 na4 ca4, .slice qa5 na5 ca5] w (fun en w' => ∃ l : Unit, en = .returned (.int .i64 res) ∧ (True) ∧ HV w (keys [] []) [] [] [] w') := by
  induction fu_ with
  | zero =>
    intros
    rename_i hm
    exact absurd hm (by simp [m_laurelref01_least])
  | succ fu_ ih =>
  intro s0 at1 met2 crest3 to4 sills5 places6 qa0 na0 ca0 qa1 na1 ca1 qa2 na2 ca2 qa3 na3 ca3 qa4 na4 ca4 qa5 na5 ca5 w hw hna0 hqa0 hla0 hna1 hqa1 hla1 hna2 hqa2 hla2 hna3 hqa3 hla3 hna4 hqa4 hla4 hna5 hqa5 hla5 res hm
  replace hm : m_laurelref01_least_B (m_laurelref01_least fu_) s0 at1 met2 crest3 to4 sills5 places6 = some res := hm
  unfold m_laurelref01_least_B at hm
  refine g_enter (args := [.agg #[.slice qa0 na0 ca0, .int .i64 s0.wind.lo, .int .i64 s0.wind.hi, .slice qa1 na1 ca1, .slice qa2 na2 ca2], .int .i64 at1, .slice qa3 na3 ca3, .int .i64 crest3, .int .i64 to4, .slice qa4 na4 ca4, .slice qa5 na5 ca5]) Try.func138 rfl Try.ntmps138 rfl (e := [(0, _), (1, _), (2, _), (3, _), (4, _), (5, _), (6, _)]) rfl (H := HV w (keys [] []) [] [] [(aB qa0, aO qa0, RW.enc s0.table), (aB qa1, aO qa1, RI.enc s0.floors), (aB qa2, aO qa2, RS.enc s0.sills), (aB qa3, aO qa3, RI.enc met2), (aB qa4, aO qa4, RI.enc sills5), (aB qa5, aO qa5, RI.enc places6)]) hw ?_
  refine g_seq ?_
  refine g_region ?_
  refine g_boxV rfl rfl (fun b h1 => ?_)
  refine g_val rfl rfl rfl (fun _ _ => v_assign rfl) ?_
  refine g_nil ?_
  refine g_n_then ?_
  refine g_seq ?_
  refine g_seq ?_
  refine g_region ?_
  refine g_val rfl rfl rfl (fun _ _ => v_move rfl) ?_
  refine g_val rfl rfl rfl (fun _ _ => v_move rfl) ?_
  refine g_val rfl rfl rfl (fun _ _ => v_eql rfl rfl) ?_
  refine g_nil ?_
  refine g_n_then ?_
  refine g_cond rfl (fun h2 => ?_) (fun h2 => ?_)
  ·replace hm := ifT (of_decide_eq_true h2) hm
   refine g_seq ?_
   refine g_region ?_
   refine g_val rfl rfl rfl (fun _ _ => v_move rfl) ?_
   refine g_val rfl rfl rfl (fun _ _ => v_assign rfl) ?_
   refine g_nil ?_
   refine g_n_then ?_
   refine g_ret ?_
   refine g_r_then ?_
   obtain rfl := Option.some.inj hm
   refine g_done rfl (fun w hh => (.tmp rfl .nil)) (fun w hh => ⟨(), rfl, trivial, hh.sel [] [] 6 (by decide) (by decide) rfl rfl rfl⟩)
  ·replace hm := ifF (of_decide_eq_false h2) hm
   refine g_skip ?_
   refine g_n_then ?_
   refine g_seq ?_
   refine g_region ?_
   refine g_val rfl rfl rfl (fun _ _ => v_assign rfl) ?_
   refine g_nil ?_
   refine g_n_then ?_
   refine g_seq ?_
   refine g_seq ?_
   refine g_region ?_
   refine g_val rfl rfl rfl (fun _ _ => v_assign rfl) ?_
   refine g_nil ?_
   refine g_n_then ?_
   obtain ⟨o, h3, h4⟩ := bindO hm
   refine g_cut (ι := Unit) (fun l => True) (fun l => [(15, .int .i64 o)]) (fun l => [(b, .cells #[.slice qa0 na0 ca0, .int .i64 s0.wind.lo, .int .i64 s0.wind.hi, .slice qa1 na1 ca1, .slice qa2 na2 ca2] 59 (0, 0))]) (fun l => []) ?_ ?_
   ·replace hm := h3
    refine g_block ?_
    refine g_loopF (ι := Unit) hm (fun s l_1 => True) (fun s l_1 => [(1, .int .i64 at1), (2, .slice qa3 na3 ca3), (3, .int .i64 crest3), (4, .int .i64 to4), (5, .slice qa4 na4 ca4), (6, .slice qa5 na5 ca5), (7, ptr b 0), (15, .int .i64 s.out15), (16, .int .i64 s.i16)]) (fun s l_1 => [(b, .cells #[.slice qa0 na0 ca0, .int .i64 s0.wind.lo, .int .i64 s0.wind.hi, .slice qa1 na1 ca1, .slice qa2 na2 ca2] 59 (0, 0))]) (fun s l_1 => []) () (trivial) ((.cons rfl (.cons rfl (.cons rfl (.cons rfl (.cons rfl (.cons rfl (.cons rfl (.cons rfl (.cons rfl .nil)))))))))) (fun w hh => hh) (fun s l_1 r hpl hm h5 => ?_)
    unfold m_laurelref01_least_L0 at hm
    refine g_seq ?_
    refine g_seq ?_
    refine g_region ?_
    refine g_val rfl rfl rfl (fun _ _ => v_move rfl) ?_
    refine g_val rfl rfl rfl (fun w _ => v_fieldAddr 4 (Try.runUnderlying59 w) rfl (Try.sizeOf57 w) rfl) ?_
    refine g_val rfl rfl rfl (fun w hh => v_load (Try.isAgg57 w) rfl (hh.cell 0 rfl rfl)) ?_
    refine g_val rfl rfl rfl (fun w _ => v_lenR hna2 (Try.runUnderlying57 w) rfl) ?_
    refine g_val rfl rfl rfl (fun _ _ => v_lss rfl rfl) ?_
    refine g_nil ?_
    refine g_n_then ?_
    refine g_cond rfl (fun h6 => ?_) (fun h6 => ?_)
    ·replace hm := ifT (of_decide_eq_true h6) hm
     refine g_skip ?_
     refine g_n_then ?_
     refine g_seq ?_
     obtain ⟨o_1, h7, h8⟩ := bindO hm
     refine g_cut (ι := Unit) (fun l_2 => True) (fun l_2 => [(1, .int .i64 at1), (2, .slice qa3 na3 ca3), (3, .int .i64 crest3), (4, .int .i64 to4), (5, .slice qa4 na4 ca4), (6, .slice qa5 na5 ca5), (7, ptr b 0), (15, .int .i64 o_1), (16, .int .i64 s.i16)]) (fun l_2 => [(b, .cells #[.slice qa0 na0 ca0, .int .i64 s0.wind.lo, .int .i64 s0.wind.hi, .slice qa1 na1 ca1, .slice qa2 na2 ca2] 59 (0, 0))]) (fun l_2 => []) ?_ ?_
     ·replace hm := h7
      refine g_block ?_
      refine g_seq ?_
      refine g_region ?_
      refine g_val rfl rfl rfl (fun w _ => v_fieldAddr 4 (Try.runUnderlying59 w) rfl (Try.sizeOf57 w) rfl) ?_
      refine g_val rfl rfl rfl (fun w hh => v_load (Try.isAgg57 w) rfl (hh.cell 0 rfl rfl)) ?_
      refine g_val rfl rfl rfl (fun _ _ => v_move rfl) ?_
      obtain ⟨t34, h9, hm⟩ := bindO hm
      refine g_val rfl rfl rfl (fun w _ => v_ixR h9 (Try.runUnderlying57 w) (Try.sizeOf159 w) rfl rfl hna2 hqa2) ?_
      refine g_val rfl rfl rfl (fun w hh => v_ldEA RS 0 [.int .i64 t34.a, .int .i64 t34.b, .int .i64 t34.h] h9 (Try.isAgg159 w) (Try.sizeOf159 w) rfl (hh.seg 2 rfl) rfl (Nat.add_zero _).symm) ?_
      refine g_allocV (fun w => Try.zeroValue159 w) rfl (fun b_1 h10 => ?_)
      refine g_stSA (us := #[_, _, _]) (cs' := [_, _, _]) (S' := [_, _]) 0 (fun w => Try.sizeOf159 w) rfl rfl rfl rfl rfl rfl rfl ?_
      refine g_nil ?_
      refine g_n_then ?_
      refine g_seq ?_
      refine g_region ?_
      refine g_val rfl rfl rfl (fun _ _ => v_assign rfl) ?_
      refine g_nil ?_
      refine g_n_then ?_
      refine g_seq ?_
      obtain ⟨o_2, h11, h12⟩ := bindO hm
      refine g_cut (ι := Unit) (fun l_3 => True) (fun l_3 => [(1, .int .i64 at1), (2, .slice qa3 na3 ca3), (3, .int .i64 crest3), (4, .int .i64 to4), (5, .slice qa4 na4 ca4), (6, .slice qa5 na5 ca5), (7, ptr b 0), (15, .int .i64 s.out15), (16, .int .i64 s.i16), (17, ptr b_1 0), (18, .int .i64 o_2)]) (fun l_3 => [(b_1, .cells #[.int .i64 t34.a, .int .i64 t34.b, .int .i64 t34.h] 159 (0, 0)), (b, .cells #[.slice qa0 na0 ca0, .int .i64 s0.wind.lo, .int .i64 s0.wind.hi, .slice qa1 na1 ca1, .slice qa2 na2 ca2] 59 (0, 0))]) (fun l_3 => []) ?_ ?_
      ·replace hm := h11
       refine g_seq ?_
       refine g_region ?_
       refine g_val rfl rfl rfl (fun w _ => v_fieldAddr 0 (Try.runUnderlying159 w) rfl (Try.sizeOf3 w) rfl) ?_
       refine g_val rfl rfl rfl (fun w hh => v_load (Try.isAgg3 w) rfl (hh.cell 0 rfl rfl)) ?_
       refine g_val rfl rfl rfl (fun _ _ => v_move rfl) ?_
       refine g_val rfl rfl rfl (fun _ _ => v_eql rfl rfl) ?_
       refine g_nil ?_
       refine g_n_then ?_
       refine g_cond rfl (fun h13 => ?_) (fun h13 => ?_)
       ·replace hm := ifT (of_decide_eq_true h13) hm
        refine g_region ?_
        refine g_val rfl rfl rfl (fun w _ => v_fieldAddr 1 (Try.runUnderlying159 w) rfl (Try.sizeOf3 w) rfl) ?_
        refine g_val rfl rfl rfl (fun w hh => v_load (Try.isAgg3 w) rfl (hh.cell 0 rfl rfl)) ?_
        refine g_val rfl rfl rfl (fun _ _ => v_assign rfl) ?_
        refine g_nil ?_
        obtain rfl := Option.some.inj hm
        exact g_leaf () (trivial) ((.cons rfl (.cons rfl (.cons rfl (.cons rfl (.cons rfl (.cons rfl (.cons rfl (.cons rfl (.cons rfl (.cons rfl (.cons rfl .nil)))))))))))) (fun w hh => hh)
       ·replace hm := ifF (of_decide_eq_false h13) hm
        refine g_skip ?_
        obtain rfl := Option.some.inj hm
        exact g_leaf () (trivial) ((.cons rfl (.cons rfl (.cons rfl (.cons rfl (.cons rfl (.cons rfl (.cons rfl (.cons rfl (.cons rfl (.cons rfl (.cons rfl .nil)))))))))))) (fun w hh => hh)
      ·intro l_3 hj
       replace hm := h12
       refine g_n_then ?_
       refine g_seq ?_
       obtain ⟨o_3, h14, h15⟩ := bindO hm
       refine g_cut (ι := Unit) (fun l_4 => True) (fun l_4 => [(1, .int .i64 at1), (2, .slice qa3 na3 ca3), (3, .int .i64 crest3), (4, .int .i64 to4), (5, .slice qa4 na4 ca4), (6, .slice qa5 na5 ca5), (7, ptr b 0), (15, .int .i64 s.out15), (16, .int .i64 s.i16), (17, ptr b_1 0), (18, .int .i64 o_3)]) (fun l_4 => [(b_1, .cells #[.int .i64 t34.a, .int .i64 t34.b, .int .i64 t34.h] 159 (0, 0)), (b, .cells #[.slice qa0 na0 ca0, .int .i64 s0.wind.lo, .int .i64 s0.wind.hi, .slice qa1 na1 ca1, .slice qa2 na2 ca2] 59 (0, 0))]) (fun l_4 => []) ?_ ?_
       ·replace hm := h14
        refine g_seq ?_
        refine g_region ?_
        refine g_val rfl rfl rfl (fun w _ => v_fieldAddr 1 (Try.runUnderlying159 w) rfl (Try.sizeOf3 w) rfl) ?_
        refine g_val rfl rfl rfl (fun w hh => v_load (Try.isAgg3 w) rfl (hh.cell 0 rfl rfl)) ?_
        refine g_val rfl rfl rfl (fun _ _ => v_move rfl) ?_
        refine g_val rfl rfl rfl (fun _ _ => v_eql rfl rfl) ?_
        refine g_nil ?_
        refine g_n_then ?_
        refine g_cond rfl (fun h16 => ?_) (fun h16 => ?_)
        ·replace hm := ifT (of_decide_eq_true h16) hm
         refine g_region ?_
         refine g_val rfl rfl rfl (fun w _ => v_fieldAddr 0 (Try.runUnderlying159 w) rfl (Try.sizeOf3 w) rfl) ?_
         refine g_val rfl rfl rfl (fun w hh => v_load (Try.isAgg3 w) rfl (hh.cell 0 rfl rfl)) ?_
         refine g_val rfl rfl rfl (fun _ _ => v_assign rfl) ?_
         refine g_nil ?_
         obtain rfl := Option.some.inj hm
         exact g_leaf () (trivial) ((.cons rfl (.cons rfl (.cons rfl (.cons rfl (.cons rfl (.cons rfl (.cons rfl (.cons rfl (.cons rfl (.cons rfl (.cons rfl .nil)))))))))))) (fun w hh => hh)
        ·replace hm := ifF (of_decide_eq_false h16) hm
         refine g_skip ?_
         obtain rfl := Option.some.inj hm
         exact g_leaf () (trivial) ((.cons rfl (.cons rfl (.cons rfl (.cons rfl (.cons rfl (.cons rfl (.cons rfl (.cons rfl (.cons rfl (.cons rfl (.cons rfl .nil)))))))))))) (fun w hh => hh)
       ·intro l_4 hj
        replace hm := h15
        refine g_n_then ?_
        refine g_seq ?_
        refine g_seq ?_
        obtain ⟨o_4, h17, h18⟩ := bindO hm
        refine g_cut (ι := Unit) (fun l_5 => True) (fun l_5 => [(1, .int .i64 at1), (2, .slice qa3 na3 ca3), (3, .int .i64 crest3), (4, .int .i64 to4), (5, .slice qa4 na4 ca4), (6, .slice qa5 na5 ca5), (7, ptr b 0), (15, .int .i64 s.out15), (16, .int .i64 s.i16), (17, ptr b_1 0), (18, .int .i64 o_3), (64, .bool o_4)]) (fun l_5 => [(b_1, .cells #[.int .i64 t34.a, .int .i64 t34.b, .int .i64 t34.h] 159 (0, 0)), (b, .cells #[.slice qa0 na0 ca0, .int .i64 s0.wind.lo, .int .i64 s0.wind.hi, .slice qa1 na1 ca1, .slice qa2 na2 ca2] 59 (0, 0))]) (fun l_5 => []) ?_ ?_
        ·replace hm := h17
         refine g_region ?_
         refine g_val rfl rfl rfl (fun _ _ => v_move rfl) ?_
         refine g_val rfl rfl rfl (fun _ _ => v_lss rfl rfl) ?_
         refine g_val rfl rfl rfl (fun _ _ => v_move rfl) ?_
         refine g_case 50 rfl (fun h19 => ?_) (fun h19 => ?_)
         ·replace hm := ifT (of_decide_eq_true h19) hm
          refine g_skipG rfl rfl rfl rfl rfl rfl ?_
          refine g_skipG rfl rfl rfl rfl rfl rfl ?_
          refine g_skipG rfl rfl rfl rfl rfl rfl ?_
          refine g_val rfl rfl rfl (fun _ _ => v_pickT rfl rfl) ?_
          refine g_val rfl rfl rfl (fun _ _ => v_move rfl) ?_
          refine g_skipG rfl rfl rfl rfl rfl rfl ?_
          refine g_skipG rfl rfl rfl rfl rfl rfl ?_
          refine g_skipG rfl rfl rfl rfl rfl rfl ?_
          refine g_val rfl rfl rfl (fun _ _ => v_pickT rfl rfl) ?_
          refine g_val rfl rfl rfl (fun _ _ => v_move rfl) ?_
          refine g_skipG rfl rfl rfl rfl rfl rfl ?_
          refine g_skipG rfl rfl rfl rfl rfl rfl ?_
          refine g_skipG rfl rfl rfl rfl rfl rfl ?_
          refine g_val rfl rfl rfl (fun _ _ => v_pickT rfl rfl) ?_
          refine g_nil ?_
          obtain rfl := Option.some.inj hm
          exact g_leaf () (trivial) ((.cons rfl (.cons rfl (.cons rfl (.cons rfl (.cons rfl (.cons rfl (.cons rfl (.cons rfl (.cons rfl (.cons rfl (.cons rfl (.cons rfl .nil))))))))))))) (fun w hh => hh)
         ·replace hm := ifF (of_decide_eq_false h19) hm
          refine v_unguard rfl rfl ?_
          refine g_val rfl rfl rfl (fun _ _ => v_move rfl) ?_
          refine v_unguard rfl rfl ?_
          refine g_val rfl rfl rfl (fun _ _ => v_move rfl) ?_
          refine v_unguard rfl rfl ?_
          obtain ⟨t53, h20, hm⟩ := bindO hm
          refine g_callH [] [] rfl rfl rfl rfl rfl rfl rfl (fun a w => Try.call136 a w) (fun w hh => c_laurelref01_has met2 o_3 qa3 na3 ca3 w (HV.callee (S0 := []) (vs0 := []) hh (roC (hh.rsep (S0 := []) (vs0 := []) 3 rfl) roN)) hna3 hqa3 hla3 h20) (fun l_6 h21 => ?_)
          refine g_val rfl rfl rfl (fun _ _ => v_pickF rfl rfl) ?_
          refine g_val rfl rfl rfl (fun _ _ => v_move rfl) ?_
          refine g_case 55 rfl (fun h22 => ?_) (fun h22 => ?_)
          ·replace hm := ifT (h22) hm
           refine g_skipG rfl rfl rfl rfl rfl rfl ?_
           refine g_skipG rfl rfl rfl rfl rfl rfl ?_
           refine g_skipG rfl rfl rfl rfl rfl rfl ?_
           refine g_val rfl rfl rfl (fun _ _ => v_pickT rfl rfl) ?_
           refine g_val rfl rfl rfl (fun _ _ => v_move rfl) ?_
           refine g_skipG rfl rfl rfl rfl rfl rfl ?_
           refine g_skipG rfl rfl rfl rfl rfl rfl ?_
           refine g_skipG rfl rfl rfl rfl rfl rfl ?_
           refine g_val rfl rfl rfl (fun _ _ => v_pickT rfl rfl) ?_
           refine g_nil ?_
           obtain rfl := Option.some.inj hm
           exact g_leaf () (trivial) ((.cons rfl (.cons rfl (.cons rfl (.cons rfl (.cons rfl (.cons rfl (.cons rfl (.cons rfl (.cons rfl (.cons rfl (.cons rfl (.cons rfl .nil))))))))))))) (fun w hh => hh)
          ·replace hm := ifF ((fun hh => Bool.noConfusion ((h22).symm.trans hh))) hm
           refine v_unguard rfl rfl ?_
           refine g_val rfl rfl rfl (fun _ _ => v_move rfl) ?_
           refine v_unguard rfl rfl ?_
           refine g_val rfl rfl rfl (fun _ _ => v_move rfl) ?_
           refine v_unguard rfl rfl ?_
           obtain ⟨t58, h23, hm⟩ := bindO hm
           refine g_callH [] [] rfl rfl rfl rfl rfl rfl rfl (fun a w => Try.call136 a w) (fun w hh => c_laurelref01_has sills5 s.i16 qa4 na4 ca4 w (HV.callee (S0 := []) (vs0 := []) hh (roC (hh.rsep (S0 := []) (vs0 := []) 4 rfl) roN)) hna4 hqa4 hla4 h23) (fun l_7 h24 => ?_)
           refine g_val rfl rfl rfl (fun _ _ => v_pickF rfl rfl) ?_
           refine g_val rfl rfl rfl (fun _ _ => v_move rfl) ?_
           refine g_case 60 rfl (fun h25 => ?_) (fun h25 => ?_)
           ·replace hm := ifT (h25) hm
            refine g_skipG rfl rfl rfl rfl rfl rfl ?_
            refine g_skipG rfl rfl rfl rfl rfl rfl ?_
            refine g_skipG rfl rfl rfl rfl rfl rfl ?_
            refine g_val rfl rfl rfl (fun _ _ => v_pickT rfl rfl) ?_
            refine g_nil ?_
            obtain rfl := Option.some.inj hm
            exact g_leaf () (trivial) ((.cons rfl (.cons rfl (.cons rfl (.cons rfl (.cons rfl (.cons rfl (.cons rfl (.cons rfl (.cons rfl (.cons rfl (.cons rfl (.cons rfl .nil))))))))))))) (fun w hh => hh)
           ·replace hm := ifF ((fun hh => Bool.noConfusion ((h25).symm.trans hh))) hm
            refine v_unguard rfl rfl ?_
            refine g_val rfl rfl rfl (fun _ _ => v_move rfl) ?_
            refine v_unguard rfl rfl ?_
            refine g_val rfl rfl rfl (fun _ _ => v_move rfl) ?_
            refine v_unguard rfl rfl ?_
            obtain ⟨t63, h26, hm⟩ := bindO hm
            refine g_callH [] [] rfl rfl rfl rfl rfl rfl rfl (fun a w => Try.call136 a w) (fun w hh => c_laurelref01_has places6 o_3 qa5 na5 ca5 w (HV.callee (S0 := []) (vs0 := []) hh (roC (hh.rsep (S0 := []) (vs0 := []) 5 rfl) roN)) hna5 hqa5 hla5 h26) (fun l_8 h27 => ?_)
            refine g_val rfl rfl rfl (fun _ _ => v_pickF rfl rfl) ?_
            refine g_nil ?_
            obtain rfl := Option.some.inj hm
            exact g_leaf () (trivial) ((.cons rfl (.cons rfl (.cons rfl (.cons rfl (.cons rfl (.cons rfl (.cons rfl (.cons rfl (.cons rfl (.cons rfl (.cons rfl (.cons rfl .nil))))))))))))) (fun w hh => hh)
        ·intro l_5 hj
         replace hm := h18
         refine g_n_then ?_
         refine g_cond rfl (fun h28 => ?_) (fun h28 => ?_)
         ·replace hm := ifT (h28) hm
          refine g_exit ?_
          refine g_x_then ?_
          refine g_x_blk ?_
          obtain rfl := Option.some.inj hm
          exact g_leaf () (trivial) ((.cons rfl (.cons rfl (.cons rfl (.cons rfl (.cons rfl (.cons rfl (.cons rfl (.cons rfl (.cons rfl .nil)))))))))) (fun w hh => hh.sel [1] [] 0 (by decide) (by decide) rfl rfl rfl)
         ·replace hm := ifF ((fun hh => Bool.noConfusion ((h28).symm.trans hh))) hm
          refine g_skip ?_
          refine g_n_then ?_
          refine g_seq ?_
          refine g_region ?_
          refine g_vlit0 RI (fun w => Try.runUnderlying26 w) (fun w => Try.sizeOf3 w) rfl rfl (fun L h29 => ?_)
          refine g_val rfl rfl rfl (fun _ _ => v_move rfl) ?_
          obtain ⟨t67, h30, hm⟩ := bindO hm
          refine g_vapp RI 0 h30 Try.underlying26 gxinf3 rfl rfl rfl rfl rfl h29 rfl rfl hna3 hqa3 (fun w hh => (hh.seg 3 rfl)) rfl (fun L_1 h31 h31n => ?_)
          refine g_sel (S' := [_, _]) (vs' := [_]) [0, 1] [0] 0 (by decide) (by decide) rfl rfl rfl ?_
          refine g_val rfl rfl rfl (fun _ _ => v_move rfl) ?_
          refine g_vlit RI [o_3] (ps := [(0, _)]) (cells := [_]) (fun w => Try.runUnderlying26 w) (fun w => Try.sizeOf3 w) (fun w => Try.zeroValue3 w) rfl rfl rfl rfl rfl rfl rfl rfl (fun L_2 h32 => ?_)
          obtain ⟨t70, h33, hm⟩ := bindO hm
          refine g_vapp RI 1 h33 Try.underlying26 gxinf3 rfl rfl rfl rfl rfl h31 rfl rfl (vlen RI h32 rfl) (AOK.q (vne h32)) (fun w hh => (hh.vsegA 0 rfl h32)) rfl (fun L_3 h34 h34n => ?_)
          refine g_sel (S' := [_, _]) (vs' := [_, _]) [0, 1] [0, 1] 0 (by decide) (by decide) rfl rfl rfl ?_
          refine g_val rfl rfl rfl (fun _ _ => v_assign rfl) ?_
          refine g_nil ?_
          refine g_n_then ?_
          refine g_draw none (.free 0 (.hoist 1 (.free 2 (.free 3 (.free 4 (.free 5 (.hoist 6 (.free 7 (.hoist 8 (.free 9 (.free 10 (.hoist 11 (.free 12 (.free 13 (.free 14 (.free 15 (.one 16 (.free 17 (.free 18 .done))))))))))))))))))) _ rfl (by decide +kernel) (fun w k hh => hh.draw k) (fun w hh => hh) ?_
          refine p_free rfl rfl rfl rfl (fun _ _ => v_move rfl) ?_
          refine p_hoist rfl rfl rfl rfl (fun w hh => v_loadAgg (vs := [_, _, _, _, _]) (Try.isAgg59 w) (Try.sizeOf59 w) rfl (hh.cells 1 rfl rfl)) ?_
          refine p_free rfl rfl rfl rfl (fun _ _ => v_move rfl) ?_
          refine p_free rfl rfl rfl rfl (fun _ _ => v_move rfl) ?_
          refine p_free rfl rfl rfl rfl (fun _ _ => v_move rfl) ?_
          refine p_free rfl rfl rfl rfl (fun w _ => v_fieldAddr 2 (Try.runUnderlying159 w) rfl (Try.sizeOf3 w) rfl) ?_
          refine p_hoist rfl rfl rfl rfl (fun w hh => v_load (Try.isAgg3 w) rfl (hh.cell 0 rfl rfl)) ?_
          refine p_free rfl rfl rfl rfl (fun w _ => v_fieldAddr 3 (Try.runUnderlying59 w) rfl (Try.sizeOf26 w) rfl) ?_
          refine p_hoist rfl rfl rfl rfl (fun w hh => v_load (Try.isAgg26 w) rfl (hh.cell 1 rfl rfl)) ?_
          refine p_free rfl rfl rfl rfl (fun _ _ => v_move rfl) ?_
          obtain ⟨t81, h35, hm⟩ := bindO hm
          refine p_free rfl rfl rfl rfl (fun w _ => v_ixR h35 (Try.runUnderlying26 w) (Try.sizeOf3 w) rfl rfl hna1 hqa1) ?_
          refine p_hoist rfl rfl rfl rfl (fun w hh => v_ldE RI 0 h35 (Try.isAgg3 w) rfl (hh.seg 1 rfl) rfl (Nat.add_zero _).symm) ?_
          refine p_free rfl rfl rfl rfl (fun _ _ => v_max3 rfl rfl rfl) ?_
          refine p_free rfl rfl rfl rfl (fun _ _ => v_move rfl) ?_
          refine p_free rfl rfl rfl rfl (fun _ _ => v_move rfl) ?_
          refine p_free rfl rfl rfl rfl (fun _ _ => v_move rfl) ?_
          refine p_one rfl ?_
          obtain ⟨t87, h36, hm⟩ := bindO hm
          refine g_callH [] [] rfl rfl rfl rfl rfl rfl rfl (fun a w => Try.call138 a w) (fun w hh => ih s0 o_3 t70 (max (max crest3 t34.h) t81) to4 sills5 places6 qa0 na0 ca0 qa1 na1 ca1 qa2 na2 ca2 (qA L_3.q) L_3.n L_3.cap qa4 na4 ca4 qa5 na5 ca5 w (HV.callee (S0 := []) (vs0 := []) hh (roC (hh.rsep (S0 := []) (vs0 := []) 0 rfl) (roC (hh.rsep (S0 := []) (vs0 := []) 1 rfl) (roC (hh.rsep (S0 := []) (vs0 := []) 2 rfl) (roC (hh.vsepA (S0 := []) (vs0 := []) 1 rfl h34) (roC (hh.rsep (S0 := []) (vs0 := []) 4 rfl) (roC (hh.rsep (S0 := []) (vs0 := []) 5 rfl) roN))))))) hna0 hqa0 hla0 hna1 hqa1 hla1 hna2 hqa2 hla2 (vlen RI h34 rfl) (AOK.q (vne h34)) (h34).hle hna4 hqa4 hla4 hna5 hqa5 hla5 h36) (fun l_9 h37 => ?_)
          refine p_next (fun w hh => hh) ?_
          refine p_free rfl rfl rfl rfl (fun _ _ => v_min rfl rfl) ?_
          refine p_free rfl rfl rfl rfl (fun _ _ => v_assign rfl) ?_
          refine p_done ?_
          refine g_n_blk ?_
          obtain rfl := Option.some.inj hm
          exact g_leaf () (trivial) ((.cons rfl (.cons rfl (.cons rfl (.cons rfl (.cons rfl (.cons rfl (.cons rfl (.cons rfl (.cons rfl .nil)))))))))) (fun w hh => hh.sel [1] [] 0 (by decide) (by decide) rfl rfl rfl)
     ·intro l_2 hj
      replace hm := h8
      refine g_n_then ?_
      refine g_region ?_
      refine g_val rfl rfl rfl (fun _ _ => v_move rfl) ?_
      obtain ⟨t30, h38, hm⟩ := bindO hm
      refine g_val rfl rfl rfl (fun _ _ => v_addc h38 rfl rfl) ?_
      refine g_val rfl rfl rfl (fun _ _ => v_assign rfl) ?_
      refine g_nil ?_
      obtain rfl := Option.some.inj hm
      refine g_n_then ?_
      exact g_again' _ () rfl (trivial) ((.cons rfl (.cons rfl (.cons rfl (.cons rfl (.cons rfl (.cons rfl (.cons rfl (.cons rfl (.cons rfl .nil)))))))))) (fun w hh => hh)
    ·replace hm := ifF (of_decide_eq_false h6) hm
     refine g_exit ?_
     refine g_x_then ?_
     refine g_x_then ?_
     refine g_x_blk ?_
     obtain rfl := Option.some.inj hm
     have hbo := h5 _ rfl
     subst hbo
     exact g_leaf () (trivial) ((.cons rfl .nil)) (fun w hh => hh)
   ·intro l hj
    replace hm := h4
    refine g_n_then ?_
    refine g_seq ?_
    refine g_region ?_
    refine g_val rfl rfl rfl (fun _ _ => v_move rfl) ?_
    refine g_val rfl rfl rfl (fun _ _ => v_assign rfl) ?_
    refine g_nil ?_
    refine g_n_then ?_
    refine g_ret ?_
    obtain rfl := Option.some.inj hm
    refine g_done rfl (fun w hh => (.tmp rfl .nil)) (fun w hh => ⟨(), rfl, trivial, hh.sel [] [] 6 (by decide) (by decide) rfl rfl rfl⟩)
def m_laurelref01_Place (s0 : Sands) (place1 : Int) : Option Int :=
 (subc (s0.floors.length : Int) 1).bind fun t9 =>
 (m_laurelref01_off place1 0 t9).bind fun t10 =>
 if t10 = true then
 (some 1) else
 (some 0)
set_option maxRecDepth 100000 in
set_option maxHeartbeats 4000000 in
theorem c_laurelref01_Place (s0 : Sands) (place1 : Int) (qa0 : Option Addr) (na0 ca0 : Nat) (qa1 : Option Addr) (na1 ca1 : Nat) (qa2 : Option Addr) (na2 ca2 : Nat) (w : World) (hw : HV w (keys [] []) [] [] [(aB qa0, aO qa0, RW.enc s0.table), (aB qa1, aO qa1, RI.enc s0.floors), (aB qa2, aO qa2, RS.enc s0.sills)] w) (hna0 : s0.table.length = na0) (hqa0 : AOK na0 qa0) (hla0 : na0 ≤ ca0) (hna1 : s0.floors.length = na1) (hqa1 : AOK na1 qa1) (hla1 : na1 ≤ ca1) (hna2 : s0.sills.length = na2) (hqa2 : AOK na2 qa2) (hla2 : na2 ≤ ca2) {res : Int} (hm : m_laurelref01_Place s0 place1 = some res) :
    Calls Try.prog 44 #[.agg #[.slice qa0 na0 ca0, .int .i64 s0.wind.lo, .int .i64 s0.wind.hi, .slice qa1 na1 ca1, .slice qa2 na2 ca2], .int .i64 place1] w (fun en w' => ∃ l : Unit, en = .returned (.int .i64 res) ∧ (True) ∧ HV w (keys [] []) [] [] [] w') := by
  unfold m_laurelref01_Place at hm
  refine g_enter (args := [.agg #[.slice qa0 na0 ca0, .int .i64 s0.wind.lo, .int .i64 s0.wind.hi, .slice qa1 na1 ca1, .slice qa2 na2 ca2], .int .i64 place1]) Try.func44 rfl Try.ntmps44 rfl (e := [(0, _), (1, _)]) rfl (H := HV w (keys [] []) [] [] [(aB qa0, aO qa0, RW.enc s0.table), (aB qa1, aO qa1, RI.enc s0.floors), (aB qa2, aO qa2, RS.enc s0.sills)]) hw ?_
  refine g_seq ?_
  refine g_region ?_
  refine g_boxV rfl rfl (fun b h1 => ?_)
  refine g_val rfl rfl rfl (fun _ _ => v_assign rfl) ?_
  refine g_nil ?_
  refine g_n_then ?_
  refine g_seq ?_
  refine g_seq ?_
  refine g_region ?_
  refine g_val rfl rfl rfl (fun _ _ => v_move rfl) ?_
  refine g_val rfl rfl rfl (fun w _ => v_fieldAddr 3 (Try.runUnderlying59 w) rfl (Try.sizeOf26 w) rfl) ?_
  refine g_val rfl rfl rfl (fun w hh => v_load (Try.isAgg26 w) rfl (hh.cell 0 rfl rfl)) ?_
  refine g_val rfl rfl rfl (fun w _ => v_lenR hna1 (Try.runUnderlying26 w) rfl) ?_
  obtain ⟨t9, h2, hm⟩ := bindO hm
  refine g_val rfl rfl rfl (fun _ _ => v_subc h2 rfl rfl) ?_
  obtain ⟨t10, h3, hm⟩ := bindO hm
  refine g_callH [] [] rfl rfl rfl rfl rfl rfl rfl (fun a w => Try.call107 a w) (fun w hh => c_laurelref01_off place1 0 t9 w (HV.callee (S0 := []) (vs0 := []) hh roN)  h3) (fun l h4 => ?_)
  refine g_nil ?_
  refine g_n_then ?_
  refine g_cond rfl (fun h5 => ?_) (fun h5 => ?_)
  ·replace hm := ifT (h5) hm
   refine g_seq ?_
   refine g_region ?_
   refine g_val rfl rfl rfl (fun _ _ => v_assign rfl) ?_
   refine g_nil ?_
   refine g_n_then ?_
   refine g_ret ?_
   refine g_r_then ?_
   obtain rfl := Option.some.inj hm
   refine g_done rfl (fun w hh => (.tmp rfl .nil)) (fun w hh => ⟨(), rfl, trivial, hh.sel [] [] 3 (by decide) (by decide) rfl rfl rfl⟩)
  ·replace hm := ifF ((fun hh => Bool.noConfusion ((h5).symm.trans hh))) hm
   refine g_skip ?_
   refine g_n_then ?_
   refine g_seq ?_
   refine g_region ?_
   refine g_val rfl rfl rfl (fun _ _ => v_assign rfl) ?_
   refine g_nil ?_
   refine g_n_then ?_
   refine g_ret ?_
   obtain rfl := Option.some.inj hm
   refine g_done rfl (fun w hh => (.tmp rfl .nil)) (fun w hh => ⟨(), rfl, trivial, hh.sel [] [] 3 (by decide) (by decide) rfl rfl rfl⟩)
end Go.Proofs.Wk

namespace Go.Gx
/-! ### plain programs: what they come to -/
theorem addc_eq {a b : Int} (h : -9223372036854775808 ≤ a + b ∧ a + b ≤ 9223372036854775807) : addc a b = some (a + b) := if_pos h
theorem subc_eq {a b : Int} (h : -9223372036854775808 ≤ a - b ∧ a - b ≤ 9223372036854775807) : subc a b = some (a - b) := if_pos h
theorem ix_eq {α : Type} {l : List α} {i : Int} (d : α) (h0 : 0 ≤ i) (h1 : i < l.length) : ix l i = some (l.getD i.toNat d) := by
  unfold ix
  rw [if_neg (by omega), List.getD_eq_getElem?_getD]
  have : i.toNat < l.length := by omega
  simp [this]
theorem ix_nat {α : Type} {l : List α} {k : Nat} (d : α) (h1 : k < l.length) : ix l (k : Int) = some (l.getD k d) := by
  have := ix_eq (l := l) (i := (k : Int)) d (by omega) (by omega)
  simpa using this
theorem appc_eq {α : Type} {b : Nat} {l m : List α} (h : (l.length + m.length) * b ≤ 140737488355328) : appc b l m = some (l ++ m) := if_pos h
theorem makec_eq {α : Type} {b : Nat} {z : α} {n c : Int} (h : 0 ≤ n ∧ n ≤ c ∧ (b : Int) * c ≤ 140737488355328 ∧ c ≤ 140737488355328) : makec b z n c = some (List.replicate n.toNat z) := if_pos h
@[simp] theorem oc_inl {α β γ : Type} (a : α) (f : α → γ) (g : β → γ) : oc (.inl a) f g = f a := rfl
@[simp] theorem oc_inr {α β γ : Type} (b : β) (f : α → γ) (g : β → γ) : oc (.inr b) f g = g b := rfl

theorem iterM_step {σ β : Type} {f : σ → Option (σ ⊕ β)} {s s' : σ} {N : Nat} (h : f s = some (.inl s')) : iterM (N + 1) f s = iterM N f s' := by simp [iterM, h]
theorem iterM_done {σ β : Type} {f : σ → Option (σ ⊕ β)} {s : σ} {b : β} {N : Nat} (h : f s = some (.inr b)) : iterM (N + 1) f s = some b := by simp [iterM, h]
/-- an invariant, and what falls -/
theorem iterM_inv {σ β : Type} {f : σ → Option (σ ⊕ β)} (Inv : σ → Prop) (μ : σ → Nat) (Q : β → Prop)
    (h : ∀ s, Inv s → (∃ s', f s = some (.inl s') ∧ Inv s' ∧ μ s' < μ s) ∨ ∃ b, f s = some (.inr b) ∧ Q b) : ∀ (N : Nat) (s : σ), μ s < N → Inv s → ∃ b, iterM N f s = some b ∧ Q b
  | 0, _, hN, _ => absurd hN (Nat.not_lt_zero _)
  | N + 1, s, hN, hI => by
    rcases h s hI with ⟨s', h1, h2, h3⟩ | ⟨b, h1, h2⟩
    · rw [iterM_step h1]
      exact iterM_inv Inv μ Q h N s' (by omega) h2
    · exact ⟨b, iterM_done h1, h2⟩
/-- a course of states that is known -/
theorem iterM_run {σ β : Type} {f : σ → Option (σ ⊕ β)} (I : Nat → σ) (n : Nat) {b : β} (hs : ∀ k, k < n → f (I k) = some (.inl (I (k + 1)))) (he : f (I n) = some (.inr b)) : ∀ (N : Nat), n < N → iterM N f (I 0) = some b := by
  have key : ∀ (m k N : Nat), k + m = n → m < N → iterM N f (I k) = some b := by
    intro m
    induction m with
    | zero =>
      intro k N hk hN
      obtain ⟨N, rfl⟩ : ∃ N', N = N' + 1 := ⟨N - 1, by omega⟩
      have : k = n := by omega
      subst this
      exact iterM_done he
    | succ m ih =>
      intro k N hk hN
      obtain ⟨N, rfl⟩ : ∃ N', N = N' + 1 := ⟨N - 1, by omega⟩
      rw [iterM_step (hs k (by omega))]
      exact ih (k + 1) N (by omega) (by omega)
  intro N hN
  exact key n 0 N (by omega) hN
/-- a loop that asks of each number whether something is so, and leaves at the first -/
theorem iterM_any {ρ : Type} {f : Int → Option (Int ⊕ (Unit ⊕ ρ))} (i0 : Int) (n : Nat) (bad : Nat → Bool) (e : Nat → ρ) (h1 : ∀ k, k < n → f (i0 + (k : Int)) = some (if bad k then .inr (.inr (e k)) else .inl (i0 + (k : Int) + 1))) (h2 : f (i0 + (n : Int)) = some (.inr (.inl ()))) {N : Nat} (hN : n < N) :
    iterM N f i0 = some (match (List.range n).find? bad with | some k => .inr (e k) | none => .inl ()) := by
  have key : ∀ (m k N : Nat), k + m = n → m < N → (∀ j, j < k → bad j = false) → iterM N f (i0 + (k : Int)) = some (match (List.range n).find? bad with | some k => .inr (e k) | none => .inl ()) := by
    intro m
    induction m with
    | zero =>
      intro k N hk hN hb
      obtain ⟨N, rfl⟩ : ∃ N', N = N' + 1 := ⟨N - 1, by omega⟩
      have : k = n := by omega
      subst this
      rw [iterM_done h2]
      have : (List.range k).find? bad = none := by
        rw [List.find?_eq_none]
        intro x hx
        simp [hb x (by simpa using hx)]
      rw [this]
    | succ m ih =>
      intro k N hk hN hb
      obtain ⟨N, rfl⟩ : ∃ N', N = N' + 1 := ⟨N - 1, by omega⟩
      have hk2 := h1 k (by omega)
      cases hbk : bad k with
      | true =>
        rw [hbk] at hk2
        simp only [if_true] at hk2
        rw [iterM_done hk2]
        have : (List.range n).find? bad = some k := by
          rw [List.find?_range_eq_some]
          exact ⟨hbk, by simp; omega, fun j hj => by simp [hb j hj]⟩
        rw [this]
      | false =>
        rw [hbk] at hk2
        simp only [Bool.false_eq_true, if_false] at hk2
        rw [iterM_step hk2]
        have := ih (k + 1) N (by omega) (by omega) (fun j hj => by
          by_cases hjk : j = k
          · subst hjk; exact hbk
          · exact hb j (by omega))
        rw [show i0 + (k : Int) + 1 = i0 + ((k + 1 : Nat) : Int) by push_cast; omega]
        exact this
  have := key n 0 N (by omega) hN (fun j hj => absurd hj (by omega))
  simpa using this
theorem iterM_any0 {ρ : Type} {f : Int → Option (Int ⊕ (Unit ⊕ ρ))} (n : Nat) (bad : Nat → Bool) (e : ρ) (h1 : ∀ k : Nat, k < n → f (k : Int) = some (if bad k then .inr (.inr e) else .inl ((k : Int) + 1))) (h2 : f (n : Int) = some (.inr (.inl ()))) {N : Nat} (hN : n < N) :
    iterM N f 0 = some (if (List.range n).any bad then .inr e else .inl ()) := by
  have := iterM_any 0 n bad (fun _ => e) (fun k hk => by simpa using h1 k hk) (by simpa using h2) hN
  rw [this]
  cases hf : (List.range n).find? bad with
  | none =>
    have : (List.range n).any bad = false := by
      rw [List.any_eq_false]; intro x hx; simpa using List.find?_eq_none.1 hf x hx
    simp [this]
  | some k =>
    have : (List.range n).any bad = true := List.any_eq_true.2 ⟨k, List.mem_of_find?_eq_some hf, List.find?_some hf⟩
    simp [this]
theorem any_range {α : Type} {l : List α} {d : α} {p : α → Bool} : (List.range l.length).any (fun k => p (l.getD k d)) = l.any p := by
  rw [Bool.eq_iff_iff, List.any_eq_true, List.any_eq_true]
  constructor
  · rintro ⟨k, hk, hp⟩
    have hk' : k < l.length := by simpa using hk
    refine ⟨l[k], List.getElem_mem hk', ?_⟩
    simpa [List.getD_eq_getElem?_getD, hk'] using hp
  · rintro ⟨x, hx, hp⟩
    obtain ⟨k, hk, rfl⟩ := List.getElem_of_mem hx
    exact ⟨k, by simpa using hk, by simpa [List.getD_eq_getElem?_getD, hk] using hp⟩
theorem FU_lt {n : Nat} (h : n < 1000000000000) : n < FU := by unfold FU; omega
end Go.Gx

namespace Go.Pl
structure TabOK (T : List Water) (at_ : Int) : Prop where
  inc : ∀ i, i + 1 < T.length → (T.getD i default).min < (T.getD (i + 1) default).min
  rg : ∀ i, i < T.length → 0 ≤ (T.getD i default).min ∧ (T.getD i default).min < at_ ∧ 0 ≤ (T.getD i default).h ∧ (T.getD i default).h ≤ 60
theorem TabOK.nil {a : Int} : TabOK [] a := ⟨fun i h => by simp at h, fun i h => by simp at h⟩
theorem getD_snoc {α : Type} {d : α} {l : List α} {x : α} {i : Nat} : (l ++ [x]).getD i d = if i < l.length then l.getD i d else if i = l.length then x else d := by
  simp only [List.getD_eq_getElem?_getD]
  by_cases h : i < l.length
  · rw [List.getElem?_append_left h, if_pos h]
  · rw [List.getElem?_append_right (by omega), if_neg h]
    by_cases h2 : i = l.length
    · subst h2; simp
    · rw [if_neg h2, List.getElem?_eq_none (by simp; omega)]; rfl
theorem TabOK.snoc {T : List Water} {a b h : Int} (k : TabOK T a) (h0 : 0 ≤ a) (hb : a < b) (hh : 0 ≤ h ∧ h ≤ 60) : TabOK (T ++ [⟨a, h⟩]) b := by
  refine ⟨fun i hi => ?_, fun i hi => ?_⟩
  · simp only [List.length_append, List.length_singleton] at hi
    rw [getD_snoc, getD_snoc, if_pos (by omega)]
    by_cases h1 : i + 1 < T.length
    · rw [if_pos h1]; exact k.inc i h1
    · rw [if_neg h1, if_pos (by omega)]
      exact (k.rg i (by omega)).2.1
  · simp only [List.length_append, List.length_singleton] at hi
    rw [getD_snoc]
    by_cases h1 : i < T.length
    · rw [if_pos h1]; have := k.rg i h1; omega
    · rw [if_neg h1, if_pos (by omega)]; simp only; omega
def sillOK (n : Int) (x : Sill) : Prop := (-1 ≤ x.a ∧ x.a < n) ∧ (-1 ≤ x.b ∧ x.b < n) ∧ x.a ≠ x.b ∧ 0 ≤ x.h ∧ x.h ≤ 50
structure MadeOK (pl sl : Int) (s : Sands) : Prop where
  tl : 2 ≤ s.table.length ∧ s.table.length ≤ 4
  tab : ∃ a, TabOK s.table a ∧ a ≤ 140
  lo : -8 ≤ s.wind.lo ∧ s.wind.lo ≤ 0
  hi : 0 ≤ s.wind.hi ∧ s.wind.hi ≤ 8
  fl : 1 ≤ s.floors.length ∧ (s.floors.length : Int) ≤ pl
  flo : ∀ x, x ∈ s.floors → 0 ≤ x ∧ x ≤ 50
  sl : (s.sills.length : Int) ≤ sl
  sil : ∀ x, x ∈ s.sills → sillOK s.floors.length x
theorem mem_getD {α : Type} {d : α} {l : List α} {j : Nat} (h : j < l.length) : l.getD j d ∈ l := by
  simp only [List.getD_eq_getElem?_getD, List.getElem?_eq_getElem h, Option.getD_some]; exact List.getElem_mem h
theorem MadeOK.check {pl sl : Int} {s : Sands} (h : MadeOK pl sl s) (hp : pl ≤ 8) (hs : sl ≤ 16) : check s = 0 := by
  obtain ⟨a, ht, ha⟩ := h.tab
  have h1 := h.tl
  have h2 := h.fl
  have h3 := h.sl
  have e1 : inr s.table.length 2 12 = true := inr_iff.2 (by omega)
  have e2 : inr s.floors.length 1 8 = true := inr_iff.2 (by omega)
  have e3 : decide (16 < (s.sills.length : Int)) = false := by simp; omega
  have e4 : s.table.all bigW = true := all_of_getD (d := default) (fun j hj => by
    have := ht.rg j hj
    simp only [bigW, Bool.and_eq_true, inr_iff]; omega)
  have e5 : inr s.wind.lo (-50) 50 = true := inr_iff.2 (by have := h.lo; omega)
  have e6 : inr s.wind.hi (-50) 50 = true := inr_iff.2 (by have := h.hi; omega)
  have e7 : s.floors.all hgt = true := all_of_getD (d := 0) (fun j hj => by
    have := h.flo _ (mem_getD (d := 0) hj)
    rw [hgt_iff]; omega)
  have e8 : s.sills.all (fun x => hgt x.h) = true := all_of_getD (d := default) (fun j hj => by
    have := (h.sil _ (mem_getD (d := default) hj)).2.2
    rw [hgt_iff]; omega)
  have e9 : ordered s = true := by
    rw [ordered_true (fun i hi => ht.inc i (by omega))]
    have := h.lo; have := h.hi
    simp; omega
  have e10 : s.sills.all (fun x => isEnd s x.a && isEnd s x.b) = true := all_of_getD (d := default) (fun j hj => by
    have := h.sil _ (mem_getD (d := default) hj)
    unfold sillOK at this
    simp only [Bool.and_eq_true, isEnd_iff]
    omega)
  have e11 : s.sills.all (fun x => !decide (x.a = x.b)) = true := all_of_getD (d := default) (fun j hj => by
    have := h.sil _ (mem_getD (d := default) hj)
    simpa using this.2.2.1)
  simp only [Pl.check, e1, e2, e3, e4, e5, e6, e7, e8, e9, e10, e11, Bool.not_true, Bool.or_self, Bool.false_eq_true, if_false]
end Go.Pl

namespace Go.Pl
inductive Reach (s : Sands) (h : Int) : Int → Prop
  | sea : Reach s h (-1)
  | step {p q : Int} {x : Sill} : Reach s h p → x ∈ s.sills → (x.a = p ∧ x.b = q ∨ x.b = p ∧ x.a = q) → q ≠ -1 → x.h ≤ h → s.floors.getD q.toNat 0 ≤ h → Reach s h q
theorem Reach.mono {s : Sands} {h k : Int} {q : Int} (r : Reach s h q) (hk : h ≤ k) : Reach s k q := by
  induction r with
  | sea => exact .sea
  | step _ hx hj hq h1 h2 ih => exact .step ih hx hj hq (by omega) (by omega)
end Go.Pl

namespace Go.Proofs.Wk
open Go Go.Gx Go.Pl
set_option linter.unusedVariables false
/-! ### copies -/
theorem dup_water {l : List Water} (h : l.length ≤ 1000) : m_laurelkit_Dup_tideWater l = some l := by
  unfold m_laurelkit_Dup_tideWater
  rw [makec_eq ⟨by omega, by omega, by omega, by omega⟩]
  simp only [Option.bind_some]
  rw [appc_eq (by simp; omega)]
  simp
theorem dup_int {l : List Int} (h : l.length ≤ 1000) : m_laurelkit_Dup_int l = some l := by
  unfold m_laurelkit_Dup_int
  rw [makec_eq ⟨by omega, by omega, by omega, by omega⟩]
  simp only [Option.bind_some]
  rw [appc_eq (by simp; omega)]
  simp
theorem dup_sill {l : List Sill} (h : l.length ≤ 1000) : m_laurelkit_Dup_tideSill l = some l := by
  unfold m_laurelkit_Dup_tideSill
  rw [makec_eq ⟨by omega, by omega, by omega, by omega⟩]
  simp only [Option.bind_some]
  rw [appc_eq (by simp; omega)]
  simp
/-- sands whose lists are short -/
structure Short (s : Sands) : Prop where
  t : s.table.length ≤ 100
  f : s.floors.length ≤ 100
  s : s.sills.length ≤ 100
theorem own_eq {s : Sands} (h : Short s) : m_laurellaw01_Own s = some s := by
  have h1 := h.t
  have h2 := h.f
  have h3 := h.s
  unfold m_laurellaw01_Own
  rw [dup_water (by omega), dup_int (by omega), dup_sill (by omega)]
  rfl
theorem take_snoc {α : Type} {l : List α} {k : Nat} (d : α) (h : k < l.length) : l.take k ++ [l.getD k d] = l.take (k + 1) := by
  rw [List.take_succ_eq_append_getElem h, List.getD_eq_getElem?_getD]
  simp [h]
theorem Good.short {s : Sands} (h : Good s) : Short s := ⟨by have := h.tl; omega, by have := h.fl; omega, by have := h.sl; omega⟩
theorem x_awake_eq : x_awake = some true := rfl
end Go.Proofs.Wk

namespace Go.Proofs.Wk
open Go Go.Gx Go.Pl
set_option linter.unusedVariables false
/-! ### the table of ways is whole -/
def joins (x : Sill) (p q : Int) : Prop := x.a = p ∧ x.b = q ∨ x.b = p ∧ x.a = q
theorem hasKey_app {W r : List (Int × List Int)} {q : Int} (h : hasKey W q = true) : hasKey (W ++ r) q = true := by
  unfold hasKey at h ⊢
  rw [List.any_append, h]
  rfl
theorem tryAdd_has {may : Int → Int → Bool} {way : List Int} {W : List (Int × List Int)} {k : Nat} {q : Int} (hm : may k q = true) : hasKey (tryAdd may way W k q) q = true := by
  unfold tryAdd
  by_cases h : hasKey W q = true
  · rw [if_pos h]; exact h
  · rw [if_neg h, if_pos hm]
    unfold hasKey
    simp
theorem procN_has {s : Sands} {may : Int → Int → Bool} (hG : Good s) {W : List (Int × List Int)} {c : Nat} {q : Int} {k : Nat} (hk : k < s.sills.length) (hj : joins (s.sills.getD k default) (W.getD c default).1 q) (hm : may k q = true) : ∀ n, k < n → hasKey (procN s may W c n) q = true
  | 0, h => by omega
  | n + 1, h => by
    rw [procN_succ]
    by_cases hn : k < n
    · obtain ⟨r, hr⟩ := wStep_mono (may := may) (p := (W.getD c default).1) (way := (W.getD c default).2) (W := procN s may W c n) (k := n) (x := s.sills.getD n default)
      rw [hr]
      exact hasKey_app (procN_has hG hk hj hm n hn)
    · obtain rfl : k = n := by omega
      have hne := hG.ne k hk
      unfold wStep
      rcases hj with ⟨h1, h2⟩ | ⟨h1, h2⟩
      · rw [if_pos h1, h2]; exact tryAdd_has hm
      · rw [if_neg (by rw [← h1]; exact hne), if_pos h1, h2]; exact tryAdd_has hm
theorem ways_closed {s : Sands} {may : Int → Int → Bool} (hG : Good s) : ∀ (c j : Nat), j < c → j < (waysN s may c).length → ∀ k, k < s.sills.length → ∀ q, joins (s.sills.getD k default) ((waysN s may c).getD j default).1 q → may k q = true → hasKey (waysN s may c) q = true
  | 0, j, h, _, _, _, _, _, _ => by omega
  | c + 1, j, h, hl, k, hk, q, hj, hm => by
    have e : waysN s may (c + 1) = if c < (waysN s may c).length then procN s may (waysN s may c) c s.sills.length else waysN s may c := rfl
    by_cases hc : c < (waysN s may c).length
    · rw [e, if_pos hc] at hj hl ⊢
      obtain ⟨_, r, hr⟩ := procN_inv (may := may) hG (waysN_inv hG c) hc (Nat.le_refl _)
      by_cases hjc : j < c
      · have hg : (procN s may (waysN s may c) c s.sills.length).getD j default = (waysN s may c).getD j default := by
          rw [hr, List.getD_eq_getElem?_getD, List.getElem?_append_left (by omega), List.getD_eq_getElem?_getD]
        rw [hg] at hj
        rw [hr]
        exact hasKey_app (ways_closed hG c j hjc (by omega) k hk q hj hm)
      · obtain rfl : j = c := by omega
        have hg : (procN s may (waysN s may j) j s.sills.length).getD j default = (waysN s may j).getD j default := by
          rw [hr, List.getD_eq_getElem?_getD, List.getElem?_append_left (by omega), List.getD_eq_getElem?_getD]
        rw [hg] at hj
        exact procN_has hG hk hj hm _ hk
    · rw [e, if_neg hc] at hj hl ⊢
      exact ways_closed hG c j (by omega) hl k hk q hj hm
/-- who is in the table brings in whom he may -/
theorem waysF_closed {s : Sands} {may : Int → Int → Bool} (hG : Good s) {p q : Int} (hp : hasKey (waysF s may) p = true) {k : Nat} (hk : k < s.sills.length) (hj : joins (s.sills.getD k default) p q) (hm : may k q = true) : hasKey (waysF s may) q = true := by
  have hl := (waysN_inv (may := may) hG 9).len
  have hfl := hG.fl
  unfold waysF at hp ⊢
  have hp' := hasKey_iff.1 hp
  obtain ⟨e, he, rfl⟩ := List.mem_map.1 hp'
  obtain ⟨j, hj', rfl⟩ := List.mem_iff_getElem.1 he
  refine ways_closed hG 9 j (by omega) hj' k hk q ?_ hm
  have : (waysN s may 9).getD j default = (waysN s may 9)[j] := by simp [List.getD_eq_getElem?_getD, hj']
  rw [this]
  exact hj
theorem sea_in {s : Sands} {may : Int → Int → Bool} (hG : Good s) : hasKey (waysF s may) (-1) = true := by
  obtain ⟨r, hr⟩ := (waysN_inv (may := may) hG 9).sea
  unfold waysF
  rw [hr]
  simp [hasKey]
end Go.Proofs.Wk

namespace Go.Proofs.Wk
open Go Go.Gx Go.Pl
set_option linter.unusedVariables false
theorem x_Hold_eq {s : Sands} {p : Int} {a b : List Int} (hs : Short s) (ha : a.length ≤ 1000000) (hb : b.length ≤ 1000000) : x_Hold s p a b = some (HoldR s p a b) := by
  have h1 := hs.t
  have h2 := hs.f
  have h3 := hs.s
  unfold x_Hold
  rw [if_pos ⟨by omega, by omega, by omega, ha, hb⟩]
end Go.Proofs.Wk

namespace Go.Proofs.Wk
open Go Go.Gx Go.Pl
set_option linter.unusedVariables false
/-! ### the reference's gates -/
theorem has_eq {l : List Int} {n : Int} (hl : l.length ≤ 1000000) : m_laurelref01_has l n = some (hasI l n) := by
  unfold m_laurelref01_has
  have key := iterM_any0 (f := m_laurelref01_has_L0 l n) l.length (fun k => decide (l.getD k 0 = n)) true (fun k hk => by
    unfold m_laurelref01_has_L0
    rw [if_pos (by omega), ix_nat 0 hk, Option.bind_some]
    by_cases h : l.getD k 0 = n
    · rw [if_pos h]; simpa using h
    · rw [if_neg h, addc_eq (by omega), Option.bind_some]; simpa using h) (by
    unfold m_laurelref01_has_L0
    rw [if_neg (by omega)]) (N := FU) (FU_lt (by omega))
  rw [key, Option.bind_some]
  have e : (List.range l.length).any (fun k => decide (l.getD k 0 = n)) = hasI l n := by
    rw [any_range (l := l) (d := 0) (p := fun x => decide (x = n))]
    unfold hasI
    congr 1
    funext x
    rw [Bool.eq_iff_iff]; simp [eq_comm]
  rw [e]
  cases hasI l n <;> rfl
/-- one step of the water -/
structure Stp (s : Sands) (sl pl : List Int) (h a q : Int) (k : Nat) : Prop where
  kl : k < s.sills.length
  jn : joins (s.sills.getD k default) a q
  qn : 0 ≤ q
  sn : hasI sl (k : Int) = false
  pn : hasI pl q = false
  hh : (s.sills.getD k default).h ≤ h
  ff : s.floors.getD q.toNat 0 ≤ h
/-- a way on, that meets no place twice -/
inductive Path (s : Sands) (sl pl : List Int) (h to : Int) : List Int → Int → Prop
  | done {met : List Int} : Path s sl pl h to met to
  | step {met : List Int} {a q : Int} {k : Nat} : Stp s sl pl h a q k → q ∉ met → Path s sl pl h to (met ++ [q]) q → Path s sl pl h to met a
/-- what water reaches, some sills and places left out -/
inductive Rch (s : Sands) (sl pl : List Int) (h : Int) : Int → Prop
  | sea : Rch s sl pl h (-1)
  | step {a q : Int} {k : Nat} : Rch s sl pl h a → Stp s sl pl h a q k → Rch s sl pl h q
theorem Path.rch {s : Sands} {sl pl : List Int} {h to : Int} {met : List Int} {a : Int} (p : Path s sl pl h to met a) (ha : Rch s sl pl h a) : Rch s sl pl h to := by
  induction p with
  | done => exact ha
  | step hs _ _ ih => exact ih (.step ha hs)
/-- steps one behind the other -/
def Chn (s : Sands) (sl pl : List Int) (h : Int) : Int → List Int → Prop
  | _, [] => True
  | a, q :: l => (∃ k, Stp s sl pl h a q k) ∧ Chn s sl pl h q l
def endOf : Int → List Int → Int
  | a, [] => a
  | _, q :: l => endOf q l
theorem Chn.snoc {s : Sands} {sl pl : List Int} {h q : Int} {k : Nat} : ∀ {l : List Int} {a : Int}, Chn s sl pl h a l → Stp s sl pl h (endOf a l) q k → Chn s sl pl h a (l ++ [q]) ∧ endOf a (l ++ [q]) = q
  | [], a, _, hs => ⟨⟨⟨k, hs⟩, trivial⟩, rfl⟩
  | x :: l, a, hc, hs => by
    obtain ⟨h1, h2⟩ := Chn.snoc (l := l) (a := x) hc.2 hs
    exact ⟨⟨hc.1, h1⟩, h2⟩
theorem Chn.drop {s : Sands} {sl pl : List Int} {h q : Int} : ∀ {l b : List Int} {a : Int}, Chn s sl pl h a (l ++ q :: b) → Chn s sl pl h q b ∧ endOf a (l ++ q :: b) = endOf q b
  | [], b, a, hc => ⟨hc.2, rfl⟩
  | x :: l, b, a, hc => Chn.drop (l := l) hc.2
theorem Chn.once {s : Sands} {sl pl : List Int} {h : Int} : ∀ (l : List Int) (a : Int), Chn s sl pl h a l → ∃ l', Chn s sl pl h a l' ∧ endOf a l' = endOf a l ∧ l'.Nodup
  | [], a, _ => ⟨[], trivial, rfl, List.nodup_nil⟩
  | q :: l, a, hc => by
    obtain ⟨l', h1, h2, h3⟩ := Chn.once l q hc.2
    by_cases hq : q ∈ l'
    · obtain ⟨x, y, rfl⟩ := List.append_of_mem hq
      obtain ⟨h4, h5⟩ := Chn.drop h1
      have h6 : (q :: y).Nodup := (List.nodup_append.1 h3).2.1
      exact ⟨q :: y, ⟨hc.1, h4⟩, by show endOf q y = endOf q l; rw [← h5, h2], h6⟩
    · exact ⟨q :: l', ⟨hc.1, h1⟩, h2, List.nodup_cons.2 ⟨hq, h3⟩⟩
theorem Chn.path {s : Sands} {sl pl : List Int} {h : Int} : ∀ (l : List Int) (a : Int) (met : List Int), Chn s sl pl h a l → l.Nodup → (∀ x ∈ l, x ∉ met) → Path s sl pl h (endOf a l) met a
  | [], a, met, _, _, _ => .done
  | q :: l, a, met, hc, hn, hm => by
    obtain ⟨k, hk⟩ := hc.1
    have h1 := List.nodup_cons.1 hn
    refine .step hk (hm q List.mem_cons_self) (Chn.path l q (met ++ [q]) hc.2 h1.2 (fun x hx hxm => ?_))
    rcases List.mem_append.1 hxm with h2 | h2
    · exact hm x (List.mem_cons_of_mem _ hx) h2
    · simp at h2; subst h2; exact h1.1 hx
theorem Rch.path {s : Sands} {sl pl : List Int} {h q : Int} (r : Rch s sl pl h q) : Path s sl pl h q [] (-1) := by
  have : ∃ l, Chn s sl pl h (-1) l ∧ endOf (-1) l = q := by
    induction r with
    | sea => exact ⟨[], trivial, rfl⟩
    | step _ hs ih =>
      obtain ⟨l, h1, h2⟩ := ih
      subst h2
      exact ⟨_, Chn.snoc h1 hs⟩
  obtain ⟨l, h1, h2⟩ := this
  obtain ⟨l', h3, h4, h5⟩ := Chn.once l _ h1
  have := Chn.path l' (-1) [] h3 h5 (fun x _ hx => by simp at hx)
  rw [h4, h2] at this
  exact this
/-- what is met: places, each once -/
structure Met (s : Sands) (met : List Int) : Prop where
  nd : met.Nodup
  rg : ∀ x ∈ met, 0 ≤ x ∧ x < s.floors.length
theorem Met.len {s : Sands} {met : List Int} (h : Met s met) : met.length ≤ s.floors.length := by
  have h1 := nodup_map (f := fun k : Int => k.toNat) h.nd (fun x hx y hy he => by
    have a := h.rg x hx
    have b := h.rg y hy
    have hc : x.toNat = y.toNat := he
    omega)
  have h2 := nodup_lt s.floors.length _ h1 (fun x hx => by
    obtain ⟨k, hk, rfl⟩ := List.mem_map.1 hx
    have a := h.rg k hk
    have : (fun k : Int => k.toNat) k = k.toNat := rfl
    omega)
  simpa using h2
theorem Met.snoc {s : Sands} {met : List Int} (h : Met s met) {q : Int} (hq : 0 ≤ q ∧ q < s.floors.length) (hn : q ∉ met) : Met s (met ++ [q]) := by
  refine ⟨List.nodup_append.2 ⟨h.nd, by simp, fun a ha b hb hab => ?_⟩, fun x hx => ?_⟩
  · simp at hb; subst hb; subst hab; exact hn ha
  · rcases List.mem_append.1 hx with hx | hx
    · exact h.rg x hx
    · simp at hx; subst hx; exact hq
theorem hasI_iff {l : List Int} {n : Int} : hasI l n = true ↔ n ∈ l := by
  unfold hasI
  rw [List.any_eq_true]
  constructor
  · rintro ⟨x, hx, h⟩; have := of_decide_eq_true h; subst this; exact hx
  · intro h; exact ⟨n, h, by simp⟩
/-- what 'least' says -/
structure LOK (s : Sands) (sl pl : List Int) (to : Int) (met : List Int) (a crest v : Int) : Prop where
  snd : v = 5000 ∨ ((crest ≤ v ∧ v ≤ 999) ∧ Path s sl pl v to met a)
  cmp : ∀ h, crest ≤ h → Path s sl pl h to met a → v ≤ h
theorem joins_one {x : Sill} {a p q : Int} (hne : x.a ≠ x.b) (h1 : joins x a p) (h2 : joins x a q) : p = q := by
  rcases h1 with ⟨h3, h4⟩ | ⟨h3, h4⟩ <;> rcases h2 with ⟨h5, h6⟩ | ⟨h5, h6⟩ <;> omega
/-- the loop's state -/
structure LIn (s : Sands) (sl pl : List Int) (to : Int) (met : List Int) (a crest out : Int) (i : Nat) : Prop where
  snd : out = 5000 ∨ ((crest ≤ out ∧ out ≤ 999) ∧ Path s sl pl out to met a)
  cmp : ∀ h (k : Nat) q, crest ≤ h → k < i → Stp s sl pl h a q k → q ∉ met → Path s sl pl h to (met ++ [q]) q → out ≤ h
theorem LIn.skip {s : Sands} {sl pl : List Int} {to : Int} {met : List Int} {a crest out : Int} {i : Nat} (h : LIn s sl pl to met a crest out i) (hs : ∀ h q, Stp s sl pl h a q i → q ∉ met → False) : LIn s sl pl to met a crest out (i + 1) := by
  refine ⟨h.snd, fun hh k q hc hk hst hq hp => ?_⟩
  by_cases he : k = i
  · subst he; exact (hs hh q hst hq).elim
  · exact h.cmp hh k q hc (by omega) hst hq hp
theorem least_tail {s : Sands} (hG : Good s) {sl pl : List Int} (hsl : sl.length ≤ 1000) (hpl : pl.length ≤ 1000) {to : Int} {met : List Int} (hm : Met s met) {a crest out : Int} (hcr : 0 ≤ crest ∧ crest ≤ 999) {i : Nat} (hi : i < s.sills.length) (hL : LIn s sl pl to met a crest out i)
    {rec_ : Sands → Int → List Int → Int → Int → List Int → List Int → Option Int}
    (hrec : ∀ q c : Int, 0 ≤ q ∧ q < s.floors.length → q ∉ met → 0 ≤ c ∧ c ≤ 999 → ∃ v, rec_ s q (met ++ [q]) c to sl pl = some v ∧ LOK s sl pl to (met ++ [q]) q c v)
    {nx : Int} (hj : joins (s.sills.getD i default) a nx) :
    ∃ out', ((if nx < 0 then some true else
      (m_laurelref01_has met nx).bind fun t53 => if t53 = true then some true else
        (m_laurelref01_has sl (i : Int)).bind fun t58 => if t58 = true then some true else
          (m_laurelref01_has pl nx).bind fun t63 => some t63).bind fun o_4 =>
      if o_4 = true then some out else
        (appc 8 [] met).bind fun t67 => (appc 8 t67 [nx]).bind fun t70 => (ix s.floors nx).bind fun t81 =>
          (rec_ s nx t70 (max (max crest (s.sills.getD i default).h) t81) to sl pl).bind fun t87 => some (min out t87)) = some out' ∧ LIn s sl pl to met a crest out' (i + 1) := by
  have hne := hG.ne i hi
  have ha := hG.sa i hi
  have hb := hG.sb i hi
  have hsh := hG.sh i hi
  have hml := hm.len
  have hfl := hG.fl
  have hnx : -1 ≤ nx ∧ nx < s.floors.length := by rcases hj with ⟨h1, h2⟩ | ⟨h1, h2⟩ <;> omega
  by_cases h0 : nx < 0
  · rw [if_pos h0, Option.bind_some, if_pos rfl]
    exact ⟨_, rfl, hL.skip fun h q hst _ => by
      have := joins_one hne hj hst.jn
      have := hst.qn
      omega⟩
  rw [if_neg h0, has_eq (by omega), Option.bind_some]
  by_cases h1 : hasI met nx = true
  · rw [if_pos h1, Option.bind_some, if_pos rfl]
    exact ⟨_, rfl, hL.skip fun h q hst hq => by
      have := joins_one hne hj hst.jn
      subst this
      exact hq (hasI_iff.1 h1)⟩
  rw [if_neg h1, has_eq (by omega), Option.bind_some]
  by_cases h2 : hasI sl (i : Int) = true
  · rw [if_pos h2, Option.bind_some, if_pos rfl]
    exact ⟨_, rfl, hL.skip fun h q hst hq => by
      have := hst.sn
      rw [h2] at this
      exact absurd this (by decide)⟩
  rw [if_neg h2, has_eq (by omega), Option.bind_some, Option.bind_some]
  by_cases h3 : hasI pl nx = true
  · rw [if_pos h3]
    exact ⟨_, rfl, hL.skip fun h q hst hq => by
      have := joins_one hne hj hst.jn
      subst this
      have := hst.pn
      rw [h3] at this
      exact absurd this (by decide)⟩
  have hflo := hG.flo nx.toNat (by omega)
  have hnm : nx ∉ met := fun h => h1 (hasI_iff.2 h)
  rw [if_neg h3, appc_eq (by simp only [List.length_nil]; omega), Option.bind_some, List.nil_append, appc_eq (by simp only [List.length_singleton]; omega), Option.bind_some, ix_eq 0 (by omega) hnx.2, Option.bind_some]
  obtain ⟨v, hv, hok⟩ := hrec nx (max (max crest (s.sills.getD i default).h) (s.floors.getD nx.toNat 0)) ⟨by omega, hnx.2⟩ hnm (by omega)
  rw [hv, Option.bind_some]
  refine ⟨_, rfl, ?_, fun h k q hc hk hst hq hp => ?_⟩
  · rcases hok.snd with rfl | ⟨hvb, hvp⟩
    · rcases hL.snd with rfl | h4
      · left; omega
      · right
        rw [show min out 5000 = out by omega]
        exact h4
    · have hstep : Path s sl pl v to met a := by
        refine .step (k := i) (q := nx) ⟨hi, hj, by omega, ?_, ?_, by omega, by omega⟩ hnm hvp
        · cases h5 : hasI sl (i : Int) with
          | false => rfl
          | true => exact absurd h5 h2
        · cases h5 : hasI pl nx with
          | false => rfl
          | true => exact absurd h5 h3
      right
      rcases hL.snd with rfl | ⟨h4, h5⟩
      · rw [show min 5000 v = v by omega]
        exact ⟨⟨by omega, hvb.2⟩, hstep⟩
      · by_cases h6 : out ≤ v
        · rw [show min out v = out by omega]
          exact ⟨h4, h5⟩
        · rw [show min out v = v by omega]
          exact ⟨⟨by omega, hvb.2⟩, hstep⟩
  · by_cases he : k = i
    · subst he
      have := joins_one hne hj hst.jn
      subst this
      have h4 := hst.hh
      have h5 := hst.ff
      have := hok.cmp h (by omega) hp
      omega
    · have := hL.cmp h k q hc (by omega) hst hq hp
      omega
theorem least_step {s : Sands} (hG : Good s) {sl pl : List Int} (hsl : sl.length ≤ 1000) (hpl : pl.length ≤ 1000) {to : Int} {met : List Int} (hm : Met s met) {a crest out : Int} (hcr : 0 ≤ crest ∧ crest ≤ 999) {i : Nat} (hi : i < s.sills.length) (hL : LIn s sl pl to met a crest out i)
    {rec_ : Sands → Int → List Int → Int → Int → List Int → List Int → Option Int}
    (hrec : ∀ q c : Int, 0 ≤ q ∧ q < s.floors.length → q ∉ met → 0 ≤ c ∧ c ≤ 999 → ∃ v, rec_ s q (met ++ [q]) c to sl pl = some v ∧ LOK s sl pl to (met ++ [q]) q c v) :
    ∃ out', m_laurelref01_least_L0 s a met sl pl rec_ crest to ⟨out, (i : Int)⟩ = some (.inl ⟨out', ((i + 1 : Nat) : Int)⟩) ∧ LIn s sl pl to met a crest out' (i + 1) := by
  have hne := hG.ne i hi
  have hsll := hG.sl
  have hadd : addc (i : Int) 1 = some ((i + 1 : Nat) : Int) := by rw [addc_eq (by omega)]; exact congrArg some (by omega)
  unfold m_laurelref01_least_L0
  dsimp only
  rw [if_pos (by omega), ix_nat default hi, Option.bind_some]
  by_cases ha : (s.sills.getD i default).a = a
  · have hb : (s.sills.getD i default).b ≠ a := by omega
    obtain ⟨o, ho, hL'⟩ := least_tail hG hsl hpl hm hcr hi hL hrec (nx := (s.sills.getD i default).b) (.inl ⟨ha, rfl⟩)
    rw [if_pos ha, Option.bind_some, if_neg hb, Option.bind_some, ho, Option.bind_some, hadd, Option.bind_some]
    exact ⟨o, rfl, hL'⟩
  · rw [if_neg ha, Option.bind_some]
    by_cases hb : (s.sills.getD i default).b = a
    · obtain ⟨o, ho, hL'⟩ := least_tail hG hsl hpl hm hcr hi hL hrec (nx := (s.sills.getD i default).a) (.inr ⟨hb, rfl⟩)
      rw [if_pos hb, Option.bind_some, ho, Option.bind_some, hadd, Option.bind_some]
      exact ⟨o, rfl, hL'⟩
    · rw [if_neg hb, Option.bind_some, if_pos (by decide), Option.bind_some, if_pos rfl, Option.bind_some, hadd, Option.bind_some]
      exact ⟨_, rfl, hL.skip fun h q hst _ => hst.jn.elim (fun h1 => ha h1.1) (fun h1 => hb h1.1)⟩
theorem least_ok {s : Sands} (hG : Good s) {sl pl : List Int} (hsl : sl.length ≤ 1000) (hpl : pl.length ≤ 1000) {to : Int} : ∀ (d n : Nat), d < n → ∀ (a : Int) (met : List Int) (crest : Int), Met s met → s.floors.length - met.length ≤ d → 0 ≤ crest ∧ crest ≤ 999 →
    ∃ v, m_laurelref01_least n s a met crest to sl pl = some v ∧ LOK s sl pl to met a crest v
  | d, 0, h, _, _, _, _, _, _ => by omega
  | d, n + 1, hdn, a, met, crest, hm, hd, hcr => by
    have hrec : ∀ q c : Int, 0 ≤ q ∧ q < s.floors.length → q ∉ met → 0 ≤ c ∧ c ≤ 999 → ∃ v, m_laurelref01_least n s q (met ++ [q]) c to sl pl = some v ∧ LOK s sl pl to (met ++ [q]) q c v := fun q c hq hqm hc => by
      have h1 := hm.snoc hq hqm
      have h2 := h1.len
      simp only [List.length_append, List.length_singleton] at h2
      exact least_ok hG hsl hpl (d - 1) n (by omega) q (met ++ [q]) c h1 (by simp only [List.length_append, List.length_singleton]; omega) hc
    show ∃ v, m_laurelref01_least_B (m_laurelref01_least n) s a met crest to sl pl = some v ∧ _
    unfold m_laurelref01_least_B
    by_cases hat : a = to
    · rw [if_pos hat]
      subst hat
      exact ⟨_, rfl, .inr ⟨⟨Int.le_refl _, hcr.2⟩, .done⟩, fun h hc _ => hc⟩
    · rw [if_neg hat]
      obtain ⟨v, hv, hL⟩ := iterM_inv (f := m_laurelref01_least_L0 s a met sl pl (m_laurelref01_least n) crest to) (fun x => ∃ i : Nat, x.i16 = (i : Int) ∧ i ≤ s.sills.length ∧ LIn s sl pl to met a crest x.out15 i) (fun x => s.sills.length - x.i16.toNat) (fun v => LIn s sl pl to met a crest v s.sills.length)
        (fun x ⟨i, hi, hil, hL⟩ => by
          obtain ⟨out, i'⟩ := x
          simp only at hi hL
          subst hi
          by_cases hlt : i < s.sills.length
          · left
            obtain ⟨o, ho, hL'⟩ := least_step hG hsl hpl hm hcr hlt hL hrec
            exact ⟨_, ho, ⟨i + 1, rfl, by omega, hL'⟩, by simp only; omega⟩
          · right
            unfold m_laurelref01_least_L0
            dsimp only
            rw [if_neg (by omega)]
            have : i = s.sills.length := by omega
            subst this
            exact ⟨_, rfl, hL⟩) FU ⟨5000, 0⟩ (FU_lt (by have := hG.sl; simp only; omega)) ⟨0, rfl, by omega, .inl rfl, fun h k q _ hk => by omega⟩
      rw [hv, Option.bind_some]
      refine ⟨v, rfl, hL.snd, fun h hc hp => ?_⟩
      cases hp with
      | done => exact absurd rfl hat
      | step hst hq hp => exact hL.cmp h _ _ hc hst.kl hst hq hp
/-- the reference's least crest of all ways to a place -/
theorem least_spec {s : Sands} (hG : Good s) {sl pl : List Int} (hsl : sl.length ≤ 1000) (hpl : pl.length ≤ 1000) {p : Int} : ∃ v, m_laurelref01_least FU s (-1) [] 0 p sl pl = some v ∧ (v = 5000 ∨ ((0 ≤ v ∧ v ≤ 999) ∧ Rch s sl pl v p)) ∧ ∀ h, 0 ≤ h → Rch s sl pl h p → v ≤ h := by
  have hfl := hG.fl
  obtain ⟨v, hv, hok⟩ := least_ok hG hsl hpl (to := p) 8 FU (FU_lt (by omega)) (-1) [] 0 ⟨List.nodup_nil, fun x hx => by simp at hx⟩ (by simp; omega) (by omega)
  refine ⟨v, hv, ?_, fun h h0 hr => hok.cmp h h0 hr.path⟩
  rcases hok.snd with h | ⟨h1, h2⟩
  · exact .inl h
  · exact .inr ⟨h1, h2.rch .sea⟩
end Go.Proofs.Wk

namespace Go.Proofs.Wk
open Go Go.Gx Go.Pl
set_option linter.unusedVariables false
theorem theirs_eq {s : Sands} (h : Short s) : m_laurellaw01_theirs s = some s := by
  have h1 := h.t
  have h2 := h.f
  have h3 := h.s
  unfold m_laurellaw01_theirs
  rw [dup_int (by omega)]
  simp only [Option.bind_some]
  have e1 : iterM FU (m_laurellaw01_theirs_L0 s) ⟨0, []⟩ = some s.table := by
    refine iterM_run (fun k => (⟨(k : Int), s.table.take k⟩ : m_laurellaw01_theirs_S0)) s.table.length (fun k hk => ?_) ?_ FU (FU_lt (by omega))
    · unfold m_laurellaw01_theirs_L0
      simp only
      rw [if_pos (by omega), ix_nat default hk, Option.bind_some, appc_eq (by simp; omega), Option.bind_some, addc_eq (by omega), Option.bind_some, take_snoc default hk]
      simp
    · unfold m_laurellaw01_theirs_L0
      simp
  have e2 : iterM FU (m_laurellaw01_theirs_L1 s) ⟨0, []⟩ = some s.sills := by
    refine iterM_run (fun k => (⟨(k : Int), s.sills.take k⟩ : m_laurellaw01_theirs_S1)) s.sills.length (fun k hk => ?_) ?_ FU (FU_lt (by omega))
    · unfold m_laurellaw01_theirs_L1
      simp only
      rw [if_pos (by omega), ix_nat default hk, Option.bind_some, appc_eq (by simp; omega), Option.bind_some, addc_eq (by omega), Option.bind_some, take_snoc default hk]
      simp
    · unfold m_laurellaw01_theirs_L1
      simp
  rw [e1, e2]
  rfl
/-! ### comparisons -/
theorem equal_water (a : List Water) (ha : a.length ≤ 1000) : m_slices_Equal_tideWatertideWater a a = some true := by
  unfold m_slices_Equal_tideWatertideWater
  rw [if_pos rfl, iterM_any0 a.length (fun _ => false) false (fun k hk => ?_) (by unfold m_slices_Equal_tideWatertideWater_L0; simp) (FU_lt (by omega))]
  · simp
  · unfold m_slices_Equal_tideWatertideWater_L0
    rw [if_pos (by omega), ix_nat default hk, Option.bind_some, Option.bind_some, if_pos rfl, addc_eq (by omega)]
    simp
theorem equal_int (a : List Int) (ha : a.length ≤ 1000) : m_slices_Equal_intint a a = some true := by
  unfold m_slices_Equal_intint
  rw [if_pos rfl, iterM_any0 a.length (fun _ => false) false (fun k hk => ?_) (by unfold m_slices_Equal_intint_L0; simp) (FU_lt (by omega))]
  · simp
  · unfold m_slices_Equal_intint_L0
    rw [if_pos (by omega), ix_nat default hk, Option.bind_some, Option.bind_some, if_pos rfl, addc_eq (by omega)]
    simp
theorem equal_sill (a : List Sill) (ha : a.length ≤ 1000) : m_slices_Equal_tideSilltideSill a a = some true := by
  unfold m_slices_Equal_tideSilltideSill
  rw [if_pos rfl, iterM_any0 a.length (fun _ => false) false (fun k hk => ?_) (by unfold m_slices_Equal_tideSilltideSill_L0; simp) (FU_lt (by omega))]
  · simp
  · unfold m_slices_Equal_tideSilltideSill_L0
    rw [if_pos (by omega), ix_nat default hk, Option.bind_some, Option.bind_some, if_pos rfl, addc_eq (by omega)]
    simp
theorem same_eq {s : Sands} (h : Short s) : m_laurellaw01_same s s = some true := by
  have h1 := h.t
  have h2 := h.f
  have h3 := h.s
  unfold m_laurellaw01_same m_laurelkit_Eq_tideWater m_laurelkit_Eq_int m_laurelkit_Eq_tideSill
  rw [equal_water _ (by omega), equal_int _ (by omega), equal_sill _ (by omega)]
  simp
/-! ### the reference's errors -/
theorem off_eq {n lo hi : Int} : m_laurelref01_off n lo hi = some (!inr n lo hi) := by
  unfold m_laurelref01_off inr
  by_cases h : n < lo
  · have h2 : decide (lo ≤ n) = false := decide_eq_false (by omega)
    simp [h, h2]
  · have h2 : decide (lo ≤ n) = true := decide_eq_true (by omega)
    have h3 : (!decide (n ≤ hi)) = decide (hi < n) := by
      by_cases h4 : n ≤ hi
      · simp [h4]
      · have h5 : hi < n := by omega
        simp [h4, h5]
    simp [h, h2, h3]
theorem or_some {a b : Bool} : ((if a = true then some true else some b) : Option Bool) = some (a || b) := by cases a <;> rfl
theorem ite_bool {α : Type} {b : Bool} {x y : α} : (if b = true then some x else some y) = some (if b = true then x else y) := by cases b <;> rfl
theorem ite_dec {α : Type} {p : Prop} [Decidable p] {x y : α} : (if p then some x else some y) = some (if decide p = true then x else y) := by by_cases h : p <;> simp [h]
theorem check_L0 {s : Sands} (h : Short s) : iterM FU (m_laurelref01_Check_L0 s) 0 = some (if s.table.all bigW then .inl () else .inr 3) := by
  have h1 := h.t
  rw [iterM_any0 s.table.length (fun k => !bigW (s.table.getD k default)) 3 (fun k hk => ?_) (by unfold m_laurelref01_Check_L0; simp) (FU_lt (by omega))]
  · rw [any_range (p := fun x => !bigW x) (d := default)]
    have := all_not_any (p := fun x => bigW x) (l := s.table)
    cases h2 : s.table.any (fun x => !bigW x) <;> simp_all
  · unfold m_laurelref01_Check_L0
    rw [if_pos (by omega), ix_nat default hk]
    simp only [Option.bind_some, off_eq, or_some]
    rw [addc_eq (by omega)]
    simp only [Option.bind_some, bigW, Bool.not_and, ite_bool]
theorem check_L1 {s : Sands} (h : Short s) : iterM FU (m_laurelref01_Check_L1 s) 0 = some (if s.floors.all hgt then .inl () else .inr 3) := by
  have h1 := h.f
  rw [iterM_any0 s.floors.length (fun k => !hgt (s.floors.getD k default)) 3 (fun k hk => ?_) (by unfold m_laurelref01_Check_L1; simp) (FU_lt (by omega))]
  · rw [any_range (p := fun x => !hgt x) (d := default)]
    have := all_not_any (p := fun x => hgt x) (l := s.floors)
    cases h2 : s.floors.any (fun x => !hgt x) <;> simp_all
  · unfold m_laurelref01_Check_L1
    rw [if_pos (by omega), ix_nat default hk]
    simp only [Option.bind_some, off_eq]
    rw [addc_eq (by omega)]
    simp only [Option.bind_some, hgt, ite_bool]
    rfl
theorem check_L2 {s : Sands} (h : Short s) : iterM FU (m_laurelref01_Check_L2 s) 0 = some (if s.sills.all (fun x => hgt x.h) then .inl () else .inr 3) := by
  have h1 := h.s
  rw [iterM_any0 s.sills.length (fun k => !hgt (s.sills.getD k default).h) 3 (fun k hk => ?_) (by unfold m_laurelref01_Check_L2; simp) (FU_lt (by omega))]
  · rw [any_range (p := fun x : Sill => !hgt x.h) (d := default)]
    have := all_not_any (p := fun x : Sill => hgt x.h) (l := s.sills)
    cases h2 : s.sills.any (fun x => !hgt x.h) <;> simp_all
  · unfold m_laurelref01_Check_L2
    rw [if_pos (by omega), ix_nat default hk]
    simp only [Option.bind_some, off_eq]
    rw [addc_eq (by omega)]
    simp only [Option.bind_some, hgt, ite_bool]
    rfl
theorem check_L3 {s : Sands} (h : Short s) : iterM FU (m_laurelref01_Check_L3 s) 1 = some (if (List.range (s.table.length - 1)).all (fun i => decide ((s.table.getD i default).min < (s.table.getD (i + 1) default).min)) then .inl () else .inr 4) ∨ s.table.length = 0 := by
  have h1 := h.t
  by_cases h0 : s.table.length = 0
  · exact .inr h0
  left
  have := iterM_any (f := m_laurelref01_Check_L3 s) 1 (s.table.length - 1) (fun k => decide ((s.table.getD (k + 1) default).min ≤ (s.table.getD k default).min)) (fun _ => 4) (fun k hk => ?_) (by unfold m_laurelref01_Check_L3; rw [if_neg (by omega)]) (N := FU) (FU_lt (by omega))
  · rw [this]
    cases hf : (List.range (s.table.length - 1)).find? (fun k => decide ((s.table.getD (k + 1) default).min ≤ (s.table.getD k default).min)) with
    | none =>
      have h2 : (List.range (s.table.length - 1)).all (fun i => decide ((s.table.getD i default).min < (s.table.getD (i + 1) default).min)) = true := by
        rw [List.all_eq_true]
        intro x hx
        have := List.find?_eq_none.1 hf x hx
        simp only [decide_eq_true_eq] at this ⊢
        omega
      rw [h2]; rfl
    | some k =>
      have h3 := List.find?_some hf
      have h4 := List.mem_of_find?_eq_some hf
      have h2 : (List.range (s.table.length - 1)).all (fun i => decide ((s.table.getD i default).min < (s.table.getD (i + 1) default).min)) = false := by
        rw [List.all_eq_false]
        refine ⟨k, h4, ?_⟩
        simp only [decide_eq_true_eq] at h3 ⊢
        omega
      rw [h2]; rfl
  · unfold m_laurelref01_Check_L3
    rw [if_pos (by omega), show (1 : Int) + (k : Int) = ((k + 1 : Nat) : Int) by omega, ix_nat default (by omega), subc_eq (by omega)]
    simp only [Option.bind_some]
    rw [show ((k + 1 : Nat) : Int) - 1 = (k : Int) by omega, ix_nat default (by omega), addc_eq (by omega)]
    simp only [Option.bind_some]
    rw [ite_dec, show ((k + 1 : Nat) : Int) + 1 = (1 : Int) + (k : Int) + 1 by omega]
theorem check_L4 {s : Sands} (h : Short s) : iterM FU (m_laurelref01_Check_L4 s) 0 = some (if s.sills.all (fun x => inr x.a (-1) ((s.floors.length : Int) - 1) && inr x.b (-1) ((s.floors.length : Int) - 1)) then .inl () else .inr 1) := by
  have h1 := h.s
  have h2 := h.f
  rw [iterM_any0 s.sills.length (fun k => !((fun x : Sill => inr x.a (-1) ((s.floors.length : Int) - 1) && inr x.b (-1) ((s.floors.length : Int) - 1)) (s.sills.getD k default))) 1 (fun k hk => ?_) (by unfold m_laurelref01_Check_L4; simp) (FU_lt (by omega))]
  · rw [any_range (p := fun x : Sill => !((fun x : Sill => inr x.a (-1) ((s.floors.length : Int) - 1) && inr x.b (-1) ((s.floors.length : Int) - 1)) x)) (d := default)]
    have := all_not_any (p := fun x : Sill => inr x.a (-1) ((s.floors.length : Int) - 1) && inr x.b (-1) ((s.floors.length : Int) - 1)) (l := s.sills)
    rw [← this]
    generalize s.sills.any _ = b
    cases b <;> rfl
  · unfold m_laurelref01_Check_L4
    rw [if_pos (by omega), ix_nat default hk, subc_eq (by omega)]
    simp only [Option.bind_some, off_eq, or_some]
    rw [addc_eq (by omega)]
    simp only [Option.bind_some, Bool.not_and, ite_bool]
theorem check_L5 {s : Sands} (h : Short s) : iterM FU (m_laurelref01_Check_L5 s) 0 = some (if s.sills.all (fun x => !decide (x.a = x.b)) then .inl () else .inr 8) := by
  have h1 := h.s
  rw [iterM_any0 s.sills.length (fun k => !((fun x : Sill => !decide (x.a = x.b)) (s.sills.getD k default))) 8 (fun k hk => ?_) (by unfold m_laurelref01_Check_L5; simp) (FU_lt (by omega))]
  · rw [any_range (p := fun x : Sill => !((fun x : Sill => !decide (x.a = x.b)) x)) (d := default)]
    have := all_not_any (p := fun x : Sill => !decide (x.a = x.b)) (l := s.sills)
    rw [← this]
    generalize s.sills.any _ = b
    cases b <;> rfl
  · unfold m_laurelref01_Check_L5
    rw [if_pos (by omega), ix_nat default hk, addc_eq (by omega)]
    simp only [Option.bind_some]
    rw [ite_dec, Bool.not_not]
theorem isEnd_inr {s : Sands} {p : Int} : isEnd s p = inr p (-1) ((s.floors.length : Int) - 1) ∨ s.floors.length = 0 := by
  by_cases h0 : s.floors.length = 0
  · exact .inr h0
  left
  rw [Bool.eq_iff_iff, isEnd_iff, inr_iff]
  omega
theorem refcheck_eq {s : Sands} (h : Short s) : m_laurelref01_Check s = some (check s) := by
  unfold m_laurelref01_Check check
  simp only [off_eq, Option.bind_some, or_some]
  cases h1 : (!inr (s.table.length : Int) 2 12 || (!inr (s.floors.length : Int) 1 8 || decide (16 < (s.sills.length : Int)))) with
  | true => simp only [Bool.or_assoc, h1, if_true]
  | false =>
    simp only [Bool.or_assoc, h1, Bool.false_eq_true, if_false]
    simp only [Bool.or_eq_false_iff, Bool.not_eq_false', inr_iff] at h1
    rw [check_L0 h]
    cases h2 : s.table.all bigW with
    | false => simp
    | true =>
      simp only [if_true, Option.bind_some, oc_inl, Bool.not_true, Bool.false_eq_true, if_false]
      rw [check_L1 h, check_L2 h]
      cases h3 : (!inr s.wind.lo (-50) 50 || !inr s.wind.hi (-50) 50) with
      | true => simp [← Bool.or_assoc, h3]
      | false =>
        simp only [Bool.false_eq_true, if_false, ← Bool.or_assoc, h3, Bool.false_or]
        cases h4 : s.floors.all hgt with
        | false => simp
        | true =>
          simp only [if_true, Option.bind_some, oc_inl, Bool.not_true, Bool.false_eq_true, if_false]
          cases h5 : s.sills.all (fun x => hgt x.h) with
          | false => simp
          | true =>
            simp only [if_true, Option.bind_some, oc_inl, Bool.not_true, Bool.false_eq_true, if_false]
            rcases check_L3 h with h6 | h6
            · rw [h6]
              unfold ordered
              cases h7 : (List.range (s.table.length - 1)).all (fun i => decide ((s.table.getD i default).min < (s.table.getD (i + 1) default).min)) with
              | false => simp
              | true =>
                simp only [if_true, Option.bind_some, oc_inl, Bool.true_and]
                by_cases h8 : s.wind.hi < s.wind.lo
                · have h9 : decide (s.wind.lo ≤ s.wind.hi) = false := decide_eq_false (by omega)
                  rw [if_pos h8]; simp [h9]
                · have h9 : decide (s.wind.lo ≤ s.wind.hi) = true := decide_eq_true (by omega)
                  rw [if_neg h8, h9]
                  simp only [Bool.not_true, Bool.false_eq_true, if_false]
                  rw [check_L4 h, check_L5 h]
                  have hend : (fun x : Sill => isEnd s x.a && isEnd s x.b) = (fun x : Sill => inr x.a (-1) ((s.floors.length : Int) - 1) && inr x.b (-1) ((s.floors.length : Int) - 1)) := by
                    funext x
                    rcases isEnd_inr (s := s) (p := x.a) with e1 | e1
                    · rcases isEnd_inr (s := s) (p := x.b) with e2 | e2
                      · rw [e1, e2]
                      · omega
                    · omega
                  rw [hend]
                  cases s.sills.all (fun x : Sill => inr x.a (-1) ((s.floors.length : Int) - 1) && inr x.b (-1) ((s.floors.length : Int) - 1)) with
                  | false => simp
                  | true =>
                    cases s.sills.all (fun x => !decide (x.a = x.b)) <;> simp
            · omega
end Go.Proofs.Wk

namespace Go.Proofs.Wk
open Go Go.Gx Go.Pl
set_option linter.unusedVariables false
theorem dayN_eq {s : Sands} (hG : Good s) : ((dayN s : Nat) : Int) = lastM s - firstM s + 1 := by
  have := day_span hG
  unfold dayN; omega
end Go.Proofs.Wk

namespace Go.Proofs.Wk
open Go Go.Gx Go.Pl
set_option linter.unusedVariables false
theorem place_eq {s : Sands} (hs : Short s) {p : Int} : m_laurelref01_Place s p = some (if isPlace s p = true then 0 else 1) := by
  have h2 := hs.f
  unfold m_laurelref01_Place
  rw [subc_eq (by omega), Option.bind_some, off_eq, Option.bind_some]
  unfold isPlace
  cases inr p 0 ((s.floors.length : Int) - 1) <;> rfl
theorem wide_ok {s : Sands} : ∃ b, m_laurellaw01_wide s = some b ∧ (b = false → s.table.length ≤ 20 ∧ s.floors.length ≤ 20 ∧ s.sills.length ≤ 30) := by
  unfold m_laurellaw01_wide
  by_cases h1 : 20 < (s.table.length : Int)
  · rw [if_pos h1, Option.bind_some]; exact ⟨_, rfl, by simp⟩
  rw [if_neg h1]
  by_cases h2 : 20 < (s.floors.length : Int)
  · rw [if_pos h2, Option.bind_some]; exact ⟨_, rfl, by simp⟩
  rw [if_neg h2]
  by_cases h3 : 30 < (s.sills.length : Int)
  · rw [if_pos h3, Option.bind_some]; exact ⟨_, rfl, by simp⟩
  rw [if_neg h3]
  by_cases h4 : 8 < (s.sills.length : Int)
  · rw [if_pos h4, Option.bind_some]; exact ⟨_, rfl, fun _ => by omega⟩
  · rw [if_neg h4, Option.bind_some]; exact ⟨_, rfl, fun _ => by omega⟩
end Go.Proofs.Wk

namespace Go.Proofs.Wk
open Go Go.Gx Go.Pl
set_option linter.unusedVariables false
/-! ### the look that settles most -/
def mostF (s : Sands) (m : Int) (p : Nat) : Int := if (gatesOf s).getD p 0 = 1000 then 50 else (gatesOf s).getD p 0 - heightF s m
def yesF (s : Sands) (m : Int) (p : Nat) : Int := max 0 (s.wind.hi - max s.wind.lo (mostF s m p + 1) + 1)
def allW (s : Sands) : Int := s.wind.hi - s.wind.lo + 1
def nF (s : Sands) (m : Int) (p : Nat) : Int := max (yesF s m p) (allW s - yesF s m p)
def askStep (s : Sands) (m : Int) (st : Int × Look) (p : Nat) : Int × Look := if nF s m p < st.1 then (nF s m p, ⟨m, (p : Int), true⟩) else st
end Go.Proofs.Wk

namespace Go.Proofs.Wk
open Go Go.Gx Go.Pl
set_option linter.unusedVariables false
theorem find_first {n : Nat} {p : Nat → Bool} {i : Nat} (h : (List.range n).find? p = some i) : i < n ∧ p i = true ∧ ∀ j, j < i → p j = false := by
  rw [List.find?_range_eq_some] at h
  exact ⟨by simpa using h.2.1, h.1, fun j hj => by simpa using h.2.2 j hj⟩
end Go.Proofs.Wk

namespace Go.Proofs.Wk
open Go Go.Gx Go.Pl
set_option linter.unusedVariables false
theorem find_none {n : Nat} {p : Nat → Bool} (h : (List.range n).find? p = none) : ∀ j, j < n → p j = false := fun j hj => by
  have := List.find?_eq_none.1 h j (by simpa using hj)
  simpa using this
end Go.Proofs.Wk

namespace Go.Proofs.Wk
open Go Go.Gx Go.Pl
set_option linter.unusedVariables false
theorem n_bd {s : Sands} (hG : Good s) {m : Int} {p : Nat} : 0 ≤ nF s m p ∧ nF s m p ≤ allW s := by
  have := hG.lo
  have := hG.hi
  have := hG.wind
  unfold nF yesF allW
  omega
/-- the search so far -/
def AskInv (s : Sands) (st : Int × Look) (D : Int → Nat → Prop) : Prop :=
  ((∀ m p, ¬ D m p) ∧ st = (allW s + 1, ⟨0, 0, false⟩)) ∨ ∃ (m : Int) (p : Nat), D m p ∧ st = (nF s m p, ⟨m, (p : Int), true⟩) ∧ ∀ m' p', D m' p' → nF s m p ≤ nF s m' p' ∧ (nF s m' p' = nF s m p → m < m' ∨ (m = m' ∧ p ≤ p'))
theorem AskInv.step {s : Sands} (hG : Good s) {st : Int × Look} {D : Int → Nat → Prop} (h : AskInv s st D) {m : Int} {p : Nat} (hlt : ∀ m' p', D m' p' → m' < m ∨ (m' = m ∧ p' < p)) : AskInv s (askStep s m st p) (fun m' p' => D m' p' ∨ (m' = m ∧ p' = p)) := by
  have hb := n_bd hG (m := m) (p := p)
  right
  unfold askStep
  rcases h with ⟨h1, rfl⟩ | ⟨a, b, hD, rfl, hmin⟩
  · rw [if_pos (show nF s m p < allW s + 1 by omega)]
    refine ⟨m, p, .inr ⟨rfl, rfl⟩, rfl, fun m' p' h => ?_⟩
    rcases h with h | ⟨rfl, rfl⟩
    · exact (h1 _ _ h).elim
    · exact ⟨Int.le_refl _, fun _ => .inr ⟨rfl, Nat.le_refl _⟩⟩
  · by_cases hc : nF s m p < nF s a b
    · rw [if_pos hc]
      refine ⟨m, p, .inr ⟨rfl, rfl⟩, rfl, fun m' p' h => ?_⟩
      rcases h with h | ⟨rfl, rfl⟩
      · have := (hmin m' p' h).1
        exact ⟨by omega, fun he => by omega⟩
      · exact ⟨Int.le_refl _, fun _ => .inr ⟨rfl, Nat.le_refl _⟩⟩
    · rw [if_neg hc]
      refine ⟨a, b, .inl hD, rfl, fun m' p' h => ?_⟩
      rcases h with h | ⟨rfl, rfl⟩
      · exact hmin m' p' h
      · refine ⟨by omega, fun _ => ?_⟩
        rcases hlt a b hD with h2 | ⟨h2, h3⟩
        · exact .inl h2
        · exact .inr ⟨h2, by omega⟩
theorem AskInv.congr {s : Sands} {st : Int × Look} {D E : Int → Nat → Prop} (h : AskInv s st D) (he : ∀ m p, D m p ↔ E m p) : AskInv s st E := by
  have : D = E := by funext m p; exact propext (he m p)
  rw [← this]; exact h
end Go.Proofs.Wk

namespace Go.Proofs.Wk
open Go Go.Gx Go.Pl
set_option linter.unusedVariables false
theorem eq_int (a : List Int) (ha : a.length ≤ 1000) : m_laurelkit_Eq_int a a = some true := by
  unfold m_laurelkit_Eq_int
  rw [equal_int a ha, Option.bind_some]
end Go.Proofs.Wk

