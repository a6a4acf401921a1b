/- What the functions that the law TideStays reaches come to, and why it holds: part 5. -/
import Derived.Test.YtaicfimbclibpaaTideStays4
namespace Go.Proofs.Wk
open Go Go.Fw Go.Gx Go.Pl
set_option linter.unusedVariables false
def m_laurelkit_Eq_int (a0 : (List Int)) (b1 : (List Int)) : Option Bool :=
 (m_slices_Equal_intint a0 b1).bind fun t7 =>
 some t7
set_option maxRecDepth 100000 in
set_option maxHeartbeats 4000000 in
theorem c_laurelkit_Eq_int (a0 : (List Int)) (b1 : (List Int)) (qa0 : Option Addr) (na0 ca0 : Nat) (qa1 : Option Addr) (na1 ca1 : Nat) (w : World) (hw : HV w (keys [] []) [] [] [(aB qa0, aO qa0, RI.enc a0), (aB qa1, aO qa1, RI.enc b1)] w) (hna0 : a0.length = na0) (hqa0 : AOK na0 qa0) (hla0 : na0 ≤ ca0) (hna1 : b1.length = na1) (hqa1 : AOK na1 qa1) (hla1 : na1 ≤ ca1) {res : Bool} (hm : m_laurelkit_Eq_int a0 b1 = some res) :
    Calls Try.prog 59 #[.slice qa0 na0 ca0, .slice qa1 na1 ca1] w (fun en w' => ∃ l : Unit, en = .returned (.bool res) ∧ (True) ∧ HV w (keys [] []) [] [] [] w') := by
  unfold m_laurelkit_Eq_int at hm
  refine g_enter (args := [.slice qa0 na0 ca0, .slice qa1 na1 ca1]) Try.func59 rfl Try.ntmps59 rfl (e := [(0, _), (1, _)]) rfl (H := HV w (keys [] []) [] [] [(aB qa0, aO qa0, RI.enc a0), (aB qa1, aO qa1, RI.enc b1)]) hw ?_
  refine g_seq ?_
  refine g_region ?_
  refine g_val rfl rfl rfl (fun _ _ => v_assign rfl) ?_
  refine g_nil ?_
  refine g_n_then ?_
  refine g_seq ?_
  refine g_region ?_
  refine g_val rfl rfl rfl (fun _ _ => v_move rfl) ?_
  refine g_val rfl rfl rfl (fun _ _ => v_move rfl) ?_
  obtain ⟨t7, h1, hm⟩ := bindO hm
  refine g_callH [] [] rfl rfl rfl rfl rfl rfl rfl (fun a w => Try.call130 a w) (fun w hh => c_slices_Equal_intint a0 b1 qa0 na0 ca0 qa1 na1 ca1 w (HV.callee (S0 := []) (vs0 := []) hh (roC (hh.rsep (S0 := []) (vs0 := []) 0 rfl) (roC (hh.rsep (S0 := []) (vs0 := []) 1 rfl) roN))) hna0 hqa0 hla0 hna1 hqa1 hla1 h1) (fun l h2 => ?_)
  refine g_val rfl rfl rfl (fun _ _ => v_assign rfl) ?_
  refine g_nil ?_
  refine g_n_then ?_
  refine g_ret ?_
  obtain rfl := Option.some.inj hm
  refine g_done rfl (fun w hh => (.tmp rfl .nil)) (fun w hh => ⟨(), rfl, trivial, hh.sel [] [] 2 (by decide) (by decide) rfl rfl rfl⟩)
def m_slices_Equal_tideSilltideSill_L0 (s10 : (List Sill)) (s21 : (List Sill)) (s : Int) : Option (Int ⊕ (Unit ⊕ Bool)) :=
 if s < (s10.length : Int) then
 ((ix s10 s).bind fun t18 =>
 (ix s21 s).bind fun t22 =>
 if t18 = (⟨t22.a, t22.b, t22.h⟩ : Sill) then
 ((addc s 1).bind fun t25 =>
 some (.inl t25)) else
 (some (.inr (.inr false)))) else
 (some (.inr (.inl ())))
def m_slices_Equal_tideSilltideSill (s10 : (List Sill)) (s21 : (List Sill)) : Option Bool :=
 if (s10.length : Int) = (s21.length : Int) then
 ((iterM FU (m_slices_Equal_tideSilltideSill_L0 s10 s21) 0).bind fun o =>
 oc o (fun j => some true) (fun r_1 => some r_1)) else
 (some false)
set_option maxRecDepth 100000 in
set_option maxHeartbeats 4000000 in
theorem c_slices_Equal_tideSilltideSill (s10 : (List Sill)) (s21 : (List Sill)) (qa0 : Option Addr) (na0 ca0 : Nat) (qa1 : Option Addr) (na1 ca1 : Nat) (w : World) (hw : HV w (keys [] []) [] [] [(aB qa0, aO qa0, RS.enc s10), (aB qa1, aO qa1, RS.enc s21)] w) (hna0 : s10.length = na0) (hqa0 : AOK na0 qa0) (hla0 : na0 ≤ ca0) (hna1 : s21.length = na1) (hqa1 : AOK na1 qa1) (hla1 : na1 ≤ ca1) {res : Bool} (hm : m_slices_Equal_tideSilltideSill s10 s21 = some res) :
    Calls Try.prog 158 #[.slice qa0 na0 ca0, .slice qa1 na1 ca1] w (fun en w' => ∃ l : Unit, en = .returned (.bool res) ∧ (True) ∧ HV w (keys [] []) [] [] [] w') := by
  unfold m_slices_Equal_tideSilltideSill at hm
  refine g_enter (args := [.slice qa0 na0 ca0, .slice qa1 na1 ca1]) Try.func158 rfl Try.ntmps158 rfl (e := [(0, _), (1, _)]) rfl (H := HV w (keys [] []) [] [] [(aB qa0, aO qa0, RS.enc s10), (aB qa1, aO qa1, RS.enc s21)]) hw ?_
  refine g_seq ?_
  refine g_region ?_
  refine g_val rfl rfl rfl (fun _ _ => v_assign rfl) ?_
  refine g_nil ?_
  refine g_n_then ?_
  refine g_seq ?_
  refine g_seq ?_
  refine g_region ?_
  refine g_val rfl rfl rfl (fun _ _ => v_move rfl) ?_
  refine g_val rfl rfl rfl (fun w _ => v_lenR hna0 (Try.runUnderlying27 w) rfl) ?_
  refine g_val rfl rfl rfl (fun _ _ => v_move rfl) ?_
  refine g_val rfl rfl rfl (fun w _ => v_lenR hna1 (Try.runUnderlying27 w) rfl) ?_
  refine g_val rfl rfl rfl (fun _ _ => v_neq rfl rfl) ?_
  refine g_nil ?_
  refine g_n_then ?_
  refine g_cond rfl (fun h1 => ?_) (fun h1 => ?_)
  ·replace hm := ifF (of_ndec_true h1) hm
   refine g_seq ?_
   refine g_region ?_
   refine g_val rfl rfl rfl (fun _ _ => v_assign rfl) ?_
   refine g_nil ?_
   refine g_n_then ?_
   refine g_ret ?_
   refine g_r_then ?_
   obtain rfl := Option.some.inj hm
   refine g_done rfl (fun w hh => (.tmp rfl .nil)) (fun w hh => ⟨(), rfl, trivial, hh.sel [] [] 2 (by decide) (by decide) rfl rfl rfl⟩)
  ·replace hm := ifT (of_ndec_false h1) hm
   refine g_skip ?_
   refine g_n_then ?_
   refine g_seq ?_
   refine g_seq ?_
   refine g_region ?_
   refine g_val rfl rfl rfl (fun _ _ => v_move rfl) ?_
   refine g_val rfl rfl rfl (fun w _ => v_lenR hna0 (Try.runUnderlying27 w) rfl) ?_
   refine g_val rfl rfl rfl (fun _ _ => v_move rfl) ?_
   refine g_nil ?_
   refine g_n_then ?_
   obtain ⟨o, h2, h3⟩ := bindO hm
   refine g_cut (ι := Unit) (fun j => o = .inl j) (fun j => []) (fun j => []) (fun j => []) ?_ ?_
   ·replace hm := h2
    refine g_block ?_
    refine g_loopF (ι := Unit) hm (fun s l => True) (fun s l => [(0, .slice qa0 na0 ca0), (1, .slice qa1 na1 ca1), (12, .int .i64 (s10.length : Int)), (13, .int .i64 s)]) (fun s l => []) (fun s l => []) () (trivial) ((.cons rfl (.cons rfl (.cons rfl (.cons rfl .nil))))) (fun w hh => hh) (fun s l r hpl hm h4 => ?_)
    unfold m_slices_Equal_tideSilltideSill_L0 at hm
    refine g_seq ?_
    refine g_region ?_
    refine g_val rfl rfl rfl (fun _ _ => v_lss rfl rfl) ?_
    refine g_nil ?_
    refine g_n_then ?_
    refine g_seq ?_
    refine g_cond rfl (fun h5 => ?_) (fun h5 => ?_)
    ·replace hm := ifT (of_decide_eq_true h5) hm
     refine g_skip ?_
     refine g_n_then ?_
     refine g_seq ?_
     refine g_block ?_
     refine g_seq ?_
     refine g_region ?_
     refine g_val rfl rfl rfl (fun _ _ => v_move rfl) ?_
     refine g_val rfl rfl rfl (fun _ _ => v_assign rfl) ?_
     refine g_nil ?_
     refine g_n_then ?_
     refine g_seq ?_
     refine g_draw none (.free 0 (.free 1 (.free 2 (.hoist 3 (.free 4 (.free 5 (.free 6 (.hoist 7 (.free 8 .done))))))))) _ rfl (by decide +kernel) (fun w k hh => hh.draw k) (fun w hh => hh) ?_
     refine p_free rfl rfl rfl rfl (fun _ _ => v_move rfl) ?_
     refine p_free rfl rfl rfl rfl (fun _ _ => v_move rfl) ?_
     obtain ⟨t18, h6, hm⟩ := bindO hm
     refine p_free rfl rfl rfl rfl (fun w _ => v_ixR h6 (Try.runUnderlying27 w) (Try.sizeOf51 w) rfl rfl hna0 hqa0) ?_
     refine p_hoist rfl rfl rfl rfl (fun w hh => v_ldEA RS 0 [.int .i64 t18.a, .int .i64 t18.b, .int .i64 t18.h] h6 (Try.isAgg51 w) (Try.sizeOf51 w) rfl (hh.seg 0 rfl) rfl (Nat.add_zero _).symm) ?_
     refine p_free rfl rfl rfl rfl (fun _ _ => v_move rfl) ?_
     refine p_free rfl rfl rfl rfl (fun _ _ => v_move rfl) ?_
     obtain ⟨t22, h7, hm⟩ := bindO hm
     refine p_free rfl rfl rfl rfl (fun w _ => v_ixR h7 (Try.runUnderlying27 w) (Try.sizeOf51 w) rfl rfl hna1 hqa1) ?_
     refine p_hoist rfl rfl rfl rfl (fun w hh => v_ldEA RS 0 [.int .i64 t22.a, .int .i64 t22.b, .int .i64 t22.h] h7 (Try.isAgg51 w) (Try.sizeOf51 w) rfl (hh.seg 1 rfl) rfl (Nat.add_zero _).symm) ?_
     refine p_free rfl rfl rfl rfl (fun w _ => v_neqAgg (gxeq51 t18 (⟨t22.a, t22.b, t22.h⟩ : Sill) w) gxeqg51 rfl rfl) ?_
     refine p_done ?_
     refine g_n_then ?_
     refine g_cond rfl (fun h8 => ?_) (fun h8 => ?_)
     ·replace hm := ifF (of_ndec_true h8) hm
      refine g_seq ?_
      refine g_region ?_
      refine g_val rfl rfl rfl (fun _ _ => v_assign rfl) ?_
      refine g_nil ?_
      refine g_n_then ?_
      refine g_ret ?_
      refine g_r_blk ?_
      refine g_r_then ?_
      refine g_r_then ?_
      refine g_r_blk ?_
      obtain rfl := Option.some.inj hm
      have hbo := h4 _ rfl
      subst hbo
      refine g_r_then ?_
      replace hm := ocR h3
      refine g_r_then ?_
      obtain rfl := Option.some.inj hm
      refine g_done rfl (fun w hh => (.tmp rfl .nil)) (fun w hh => ⟨(), rfl, trivial, hh.sel [] [] 2 (by decide) (by decide) rfl rfl rfl⟩)
     ·replace hm := ifT (of_ndec_false h8) hm
      refine g_skip ?_
      refine g_n_blk ?_
      refine g_n_then ?_
      refine g_region ?_
      obtain ⟨t25, h9, hm⟩ := bindO hm
      refine g_val rfl rfl rfl (fun _ _ => v_addc h9 rfl rfl) ?_
      refine g_val rfl rfl rfl (fun _ _ => v_move rfl) ?_
      refine g_nil ?_
      obtain rfl := Option.some.inj hm
      refine g_n_then ?_
      exact g_again' _ () rfl (trivial) ((.cons rfl (.cons rfl (.cons rfl (.cons rfl .nil))))) (fun w hh => hh)
    ·replace hm := ifF (of_decide_eq_false h5) hm
     refine g_exit ?_
     refine g_x_then ?_
     refine g_x_then ?_
     refine g_x_blk ?_
     obtain rfl := Option.some.inj hm
     have hbo := h4 _ rfl
     subst hbo
     exact g_leaf () (rfl) (.nil) (fun w hh => hh)
   ·intro j hj
    have h10 := hj
    subst h10
    replace hm := ocL h3
    refine g_n_then ?_
    refine g_seq ?_
    refine g_region ?_
    refine g_val rfl rfl rfl (fun _ _ => v_assign rfl) ?_
    refine g_nil ?_
    refine g_n_then ?_
    refine g_ret ?_
    obtain rfl := Option.some.inj hm
    refine g_done rfl (fun w hh => (.tmp rfl .nil)) (fun w hh => ⟨(), rfl, trivial, hh.sel [] [] 2 (by decide) (by decide) rfl rfl rfl⟩)
def m_laurelkit_Eq_tideSill (a0 : (List Sill)) (b1 : (List Sill)) : Option Bool :=
 (m_slices_Equal_tideSilltideSill a0 b1).bind fun t7 =>
 some t7
set_option maxRecDepth 100000 in
set_option maxHeartbeats 4000000 in
theorem c_laurelkit_Eq_tideSill (a0 : (List Sill)) (b1 : (List Sill)) (qa0 : Option Addr) (na0 ca0 : Nat) (qa1 : Option Addr) (na1 ca1 : Nat) (w : World) (hw : HV w (keys [] []) [] [] [(aB qa0, aO qa0, RS.enc a0), (aB qa1, aO qa1, RS.enc b1)] w) (hna0 : a0.length = na0) (hqa0 : AOK na0 qa0) (hla0 : na0 ≤ ca0) (hna1 : b1.length = na1) (hqa1 : AOK na1 qa1) (hla1 : na1 ≤ ca1) {res : Bool} (hm : m_laurelkit_Eq_tideSill a0 b1 = some res) :
    Calls Try.prog 113 #[.slice qa0 na0 ca0, .slice qa1 na1 ca1] w (fun en w' => ∃ l : Unit, en = .returned (.bool res) ∧ (True) ∧ HV w (keys [] []) [] [] [] w') := by
  unfold m_laurelkit_Eq_tideSill at hm
  refine g_enter (args := [.slice qa0 na0 ca0, .slice qa1 na1 ca1]) Try.func113 rfl Try.ntmps113 rfl (e := [(0, _), (1, _)]) rfl (H := HV w (keys [] []) [] [] [(aB qa0, aO qa0, RS.enc a0), (aB qa1, aO qa1, RS.enc b1)]) hw ?_
  refine g_seq ?_
  refine g_region ?_
  refine g_val rfl rfl rfl (fun _ _ => v_assign rfl) ?_
  refine g_nil ?_
  refine g_n_then ?_
  refine g_seq ?_
  refine g_region ?_
  refine g_val rfl rfl rfl (fun _ _ => v_move rfl) ?_
  refine g_val rfl rfl rfl (fun _ _ => v_move rfl) ?_
  obtain ⟨t7, h1, hm⟩ := bindO hm
  refine g_callH [] [] rfl rfl rfl rfl rfl rfl rfl (fun a w => Try.call158 a w) (fun w hh => c_slices_Equal_tideSilltideSill a0 b1 qa0 na0 ca0 qa1 na1 ca1 w (HV.callee (S0 := []) (vs0 := []) hh (roC (hh.rsep (S0 := []) (vs0 := []) 0 rfl) (roC (hh.rsep (S0 := []) (vs0 := []) 1 rfl) roN))) hna0 hqa0 hla0 hna1 hqa1 hla1 h1) (fun l h2 => ?_)
  refine g_val rfl rfl rfl (fun _ _ => v_assign rfl) ?_
  refine g_nil ?_
  refine g_n_then ?_
  refine g_ret ?_
  obtain rfl := Option.some.inj hm
  refine g_done rfl (fun w hh => (.tmp rfl .nil)) (fun w hh => ⟨(), rfl, trivial, hh.sel [] [] 2 (by decide) (by decide) rfl rfl rfl⟩)
def m_laurellaw01_same (a0 : Sands) (b1 : Sands) : Option Bool :=
 ((m_laurelkit_Eq_tideWater a0.table b1.table).bind fun t9 =>
 if t9 = true then
 (if a0.wind = b1.wind then
 ((m_laurelkit_Eq_int a0.floors b1.floors).bind fun t22 =>
 if t22 = true then
 ((m_laurelkit_Eq_tideSill a0.sills b1.sills).bind fun t29 =>
 some t29) else
 (some false)) else
 (some false)) else
 (some false)).bind fun o =>
 some o
set_option maxRecDepth 100000 in
set_option maxHeartbeats 4000000 in
theorem c_laurellaw01_same (a0 : Sands) (b1 : Sands) (qa0 : Option Addr) (na0 ca0 : Nat) (qa1 : Option Addr) (na1 ca1 : Nat) (qa2 : Option Addr) (na2 ca2 : Nat) (qa3 : Option Addr) (na3 ca3 : Nat) (qa4 : Option Addr) (na4 ca4 : Nat) (qa5 : Option Addr) (na5 ca5 : Nat) (w : World) (hw : HV w (keys [] []) [] [] [(aB qa0, aO qa0, RW.enc a0.table), (aB qa1, aO qa1, RI.enc a0.floors), (aB qa2, aO qa2, RS.enc a0.sills), (aB qa3, aO qa3, RW.enc b1.table), (aB qa4, aO qa4, RI.enc b1.floors), (aB qa5, aO qa5, RS.enc b1.sills)] w) (hna0 : a0.table.length = na0) (hqa0 : AOK na0 qa0) (hla0 : na0 ≤ ca0) (hna1 : a0.floors.length = na1) (hqa1 : AOK na1 qa1) (hla1 : na1 ≤ ca1) (hna2 : a0.sills.length = na2) (hqa2 : AOK na2 qa2) (hla2 : na2 ≤ ca2) (hna3 : b1.table.length = na3) (hqa3 : AOK na3 qa3) (hla3 : na3 ≤ ca3) (hna4 : b1.floors.length = na4) (hqa4 : AOK na4 qa4) (hla4 : na4 ≤ ca4) (hna5 : b1.sills.length = na5) (hqa5 : AOK na5 qa5) (hla5 : na5 ≤ ca5) {res : Bool} (hm : m_laurellaw01_same a0 b1 = some res) :
    Calls Try.prog 38 #[.agg #[.slice qa0 na0 ca0, .int .i64 a0.wind.lo, .int .i64 a0.wind.hi, .slice qa1 na1 ca1, .slice qa2 na2 ca2], .agg #[.slice qa3 na3 ca3, .int .i64 b1.wind.lo, .int .i64 b1.wind.hi, .slice qa4 na4 ca4, .slice qa5 na5 ca5]] w (fun en w' => ∃ l : Unit, en = .returned (.bool res) ∧ (True) ∧ HV w (keys [] []) [] [] [] w') := by
  unfold m_laurellaw01_same at hm
  refine g_enter (args := [.agg #[.slice qa0 na0 ca0, .int .i64 a0.wind.lo, .int .i64 a0.wind.hi, .slice qa1 na1 ca1, .slice qa2 na2 ca2], .agg #[.slice qa3 na3 ca3, .int .i64 b1.wind.lo, .int .i64 b1.wind.hi, .slice qa4 na4 ca4, .slice qa5 na5 ca5]]) Try.func38 rfl Try.ntmps38 rfl (e := [(0, _), (1, _)]) rfl (H := HV w (keys [] []) [] [] [(aB qa0, aO qa0, RW.enc a0.table), (aB qa1, aO qa1, RI.enc a0.floors), (aB qa2, aO qa2, RS.enc a0.sills), (aB qa3, aO qa3, RW.enc b1.table), (aB qa4, aO qa4, RI.enc b1.floors), (aB qa5, aO qa5, RS.enc b1.sills)]) hw ?_
  refine g_seq ?_
  refine g_region ?_
  refine g_boxV rfl rfl (fun b h1 => ?_)
  refine g_boxV rfl rfl (fun b_1 h2 => ?_)
  refine g_val rfl rfl rfl (fun _ _ => v_assign rfl) ?_
  refine g_nil ?_
  refine g_n_then ?_
  refine g_seq ?_
  obtain ⟨o, h3, h4⟩ := bindO hm
  refine g_cut (ι := Unit) (fun l => True) (fun l => [(4, .bool o)]) (fun l => [(b_1, .cells #[.slice qa3 na3 ca3, .int .i64 b1.wind.lo, .int .i64 b1.wind.hi, .slice qa4 na4 ca4, .slice qa5 na5 ca5] 29 (0, 0)), (b, .cells #[.slice qa0 na0 ca0, .int .i64 a0.wind.lo, .int .i64 a0.wind.hi, .slice qa1 na1 ca1, .slice qa2 na2 ca2] 29 (0, 0))]) (fun l => []) ?_ ?_
  ·replace hm := h3
   refine g_region ?_
   refine g_val rfl rfl rfl (fun w _ => v_fieldAddr 0 (Try.runUnderlying29 w) rfl (Try.sizeOf23 w) rfl) ?_
   refine g_val rfl rfl rfl (fun w hh => v_load (Try.isAgg23 w) rfl (hh.cell 1 rfl rfl)) ?_
   refine g_val rfl rfl rfl (fun w _ => v_fieldAddr 0 (Try.runUnderlying29 w) rfl (Try.sizeOf23 w) rfl) ?_
   refine g_val rfl rfl rfl (fun w hh => v_load (Try.isAgg23 w) rfl (hh.cell 0 rfl rfl)) ?_
   obtain ⟨t9, h5, hm⟩ := bindO hm
   refine g_callH [] [] rfl rfl rfl rfl rfl rfl rfl (fun a w => Try.call112 a w) (fun w hh => c_laurelkit_Eq_tideWater a0.table b1.table qa0 na0 ca0 qa3 na3 ca3 w (HV.callee (S0 := []) (vs0 := []) hh (roC (hh.rsep (S0 := []) (vs0 := []) 0 rfl) (roC (hh.rsep (S0 := []) (vs0 := []) 3 rfl) roN))) hna0 hqa0 hla0 hna3 hqa3 hla3 h5) (fun l_1 h6 => ?_)
   refine g_val rfl rfl rfl (fun _ _ => v_move rfl) ?_
   refine g_case 10 rfl (fun h7 => ?_) (fun h7 => ?_)
   ·replace hm := ifT (h7) hm
    refine v_unguard rfl rfl ?_
    refine g_val rfl rfl rfl (fun w _ => v_fieldAddr 1 (Try.runUnderlying29 w) rfl (Try.sizeOf25 w) rfl) ?_
    refine v_unguard rfl rfl ?_
    refine g_val rfl rfl rfl (fun w hh => v_loadAgg (vs := [_, _]) (Try.isAgg25 w) (Try.sizeOf25 w) rfl (hh.cells 1 rfl rfl)) ?_
    refine v_unguard rfl rfl ?_
    refine g_val rfl rfl rfl (fun w _ => v_fieldAddr 1 (Try.runUnderlying29 w) rfl (Try.sizeOf25 w) rfl) ?_
    refine v_unguard rfl rfl ?_
    refine g_val rfl rfl rfl (fun w hh => v_loadAgg (vs := [_, _]) (Try.isAgg25 w) (Try.sizeOf25 w) rfl (hh.cells 0 rfl rfl)) ?_
    refine v_unguard rfl rfl ?_
    refine g_val rfl rfl rfl (fun w _ => v_eqlAgg (gxeq25 a0.wind b1.wind w) gxeqg25 rfl rfl) ?_
    refine g_val rfl rfl rfl (fun _ _ => v_pickT rfl rfl) ?_
    refine g_val rfl rfl rfl (fun _ _ => v_move rfl) ?_
    refine g_case 17 rfl (fun h8 => ?_) (fun h8 => ?_)
    ·replace hm := ifT (of_decide_eq_true h8) hm
     refine v_unguard rfl rfl ?_
     refine g_val rfl rfl rfl (fun w _ => v_fieldAddr 3 (Try.runUnderlying29 w) rfl (Try.sizeOf26 w) rfl) ?_
     refine v_unguard rfl rfl ?_
     refine g_val rfl rfl rfl (fun w hh => v_load (Try.isAgg26 w) rfl (hh.cell 1 rfl rfl)) ?_
     refine v_unguard rfl rfl ?_
     refine g_val rfl rfl rfl (fun w _ => v_fieldAddr 3 (Try.runUnderlying29 w) rfl (Try.sizeOf26 w) rfl) ?_
     refine v_unguard rfl rfl ?_
     refine g_val rfl rfl rfl (fun w hh => v_load (Try.isAgg26 w) rfl (hh.cell 0 rfl rfl)) ?_
     refine v_unguard rfl rfl ?_
     obtain ⟨t22, h9, hm⟩ := bindO hm
     refine g_callH [] [] rfl rfl rfl rfl rfl rfl rfl (fun a w => Try.call59 a w) (fun w hh => c_laurelkit_Eq_int a0.floors b1.floors qa1 na1 ca1 qa4 na4 ca4 w (HV.callee (S0 := []) (vs0 := []) hh (roC (hh.rsep (S0 := []) (vs0 := []) 1 rfl) (roC (hh.rsep (S0 := []) (vs0 := []) 4 rfl) roN))) hna1 hqa1 hla1 hna4 hqa4 hla4 h9) (fun l_2 h10 => ?_)
     refine g_val rfl rfl rfl (fun _ _ => v_pickT rfl rfl) ?_
     refine g_val rfl rfl rfl (fun _ _ => v_move rfl) ?_
     refine g_case 24 rfl (fun h11 => ?_) (fun h11 => ?_)
     ·replace hm := ifT (h11) hm
      refine v_unguard rfl rfl ?_
      refine g_val rfl rfl rfl (fun w _ => v_fieldAddr 4 (Try.runUnderlying29 w) rfl (Try.sizeOf27 w) rfl) ?_
      refine v_unguard rfl rfl ?_
      refine g_val rfl rfl rfl (fun w hh => v_load (Try.isAgg27 w) rfl (hh.cell 1 rfl rfl)) ?_
      refine v_unguard rfl rfl ?_
      refine g_val rfl rfl rfl (fun w _ => v_fieldAddr 4 (Try.runUnderlying29 w) rfl (Try.sizeOf27 w) rfl) ?_
      refine v_unguard rfl rfl ?_
      refine g_val rfl rfl rfl (fun w hh => v_load (Try.isAgg27 w) rfl (hh.cell 0 rfl rfl)) ?_
      refine v_unguard rfl rfl ?_
      obtain ⟨t29, h12, hm⟩ := bindO hm
      refine g_callH [] [] rfl rfl rfl rfl rfl rfl rfl (fun a w => Try.call113 a w) (fun w hh => c_laurelkit_Eq_tideSill a0.sills b1.sills qa2 na2 ca2 qa5 na5 ca5 w (HV.callee (S0 := []) (vs0 := []) hh (roC (hh.rsep (S0 := []) (vs0 := []) 2 rfl) (roC (hh.rsep (S0 := []) (vs0 := []) 5 rfl) roN))) hna2 hqa2 hla2 hna5 hqa5 hla5 h12) (fun l_3 h13 => ?_)
      refine g_val rfl rfl rfl (fun _ _ => v_pickT rfl rfl) ?_
      refine g_val rfl rfl rfl (fun _ _ => v_assign rfl) ?_
      refine g_nil ?_
      obtain rfl := Option.some.inj hm
      exact g_leaf () (trivial) ((.cons rfl .nil)) (fun w hh => hh)
     ·replace hm := ifF ((fun hh => Bool.noConfusion ((h11).symm.trans hh))) hm
      refine g_skipG rfl rfl rfl rfl rfl rfl ?_
      refine g_skipG rfl rfl rfl rfl rfl rfl ?_
      refine g_skipG rfl rfl rfl rfl rfl rfl ?_
      refine g_skipG rfl rfl rfl rfl rfl rfl ?_
      refine g_skipG rfl rfl rfl rfl rfl rfl ?_
      refine g_val rfl rfl rfl (fun _ _ => v_pickF rfl rfl) ?_
      refine g_val rfl rfl rfl (fun _ _ => v_assign rfl) ?_
      refine g_nil ?_
      obtain rfl := Option.some.inj hm
      exact g_leaf () (trivial) ((.cons rfl .nil)) (fun w hh => hh)
    ·replace hm := ifF (of_decide_eq_false h8) hm
     refine g_skipG rfl rfl rfl rfl rfl rfl ?_
     refine g_skipG rfl rfl rfl rfl rfl rfl ?_
     refine g_skipG rfl rfl rfl rfl rfl rfl ?_
     refine g_skipG rfl rfl rfl rfl rfl rfl ?_
     refine g_skipG rfl rfl rfl rfl rfl rfl ?_
     refine g_val rfl rfl rfl (fun _ _ => v_pickF rfl rfl) ?_
     refine g_val rfl rfl rfl (fun _ _ => v_move rfl) ?_
     refine g_skipG rfl rfl rfl rfl rfl rfl ?_
     refine g_skipG rfl rfl rfl rfl rfl rfl ?_
     refine g_skipG rfl rfl rfl rfl rfl rfl ?_
     refine g_skipG rfl rfl rfl rfl rfl rfl ?_
     refine g_skipG rfl rfl rfl rfl rfl rfl ?_
     refine g_val rfl rfl rfl (fun _ _ => v_pickF rfl rfl) ?_
     refine g_val rfl rfl rfl (fun _ _ => v_assign rfl) ?_
     refine g_nil ?_
     obtain rfl := Option.some.inj hm
     exact g_leaf () (trivial) ((.cons rfl .nil)) (fun w hh => hh)
   ·replace hm := ifF ((fun hh => Bool.noConfusion ((h7).symm.trans hh))) hm
    refine g_skipG rfl rfl rfl rfl rfl rfl ?_
    refine g_skipG rfl rfl rfl rfl rfl rfl ?_
    refine g_skipG rfl rfl rfl rfl rfl rfl ?_
    refine g_skipG rfl rfl rfl rfl rfl rfl ?_
    refine g_skipG rfl rfl rfl rfl rfl rfl ?_
    refine g_val rfl rfl rfl (fun _ _ => v_pickF rfl rfl) ?_
    refine g_val rfl rfl rfl (fun _ _ => v_move rfl) ?_
    refine g_skipG rfl rfl rfl rfl rfl rfl ?_
    refine g_skipG rfl rfl rfl rfl rfl rfl ?_
    refine g_skipG rfl rfl rfl rfl rfl rfl ?_
    refine g_skipG rfl rfl rfl rfl rfl rfl ?_
    refine g_skipG rfl rfl rfl rfl rfl rfl ?_
    refine g_val rfl rfl rfl (fun _ _ => v_pickF rfl rfl) ?_
    refine g_val rfl rfl rfl (fun _ _ => v_move rfl) ?_
    refine g_skipG rfl rfl rfl rfl rfl rfl ?_
    refine g_skipG rfl rfl rfl rfl rfl rfl ?_
    refine g_skipG rfl rfl rfl rfl rfl rfl ?_
    refine g_skipG rfl rfl rfl rfl rfl rfl ?_
    refine g_skipG rfl rfl rfl rfl rfl rfl ?_
    refine g_val rfl rfl rfl (fun _ _ => v_pickF rfl rfl) ?_
    refine g_val rfl rfl rfl (fun _ _ => v_assign rfl) ?_
    refine g_nil ?_
    obtain rfl := Option.some.inj hm
    exact g_leaf () (trivial) ((.cons rfl .nil)) (fun w hh => hh)
  ·intro l hj
   replace hm := h4
   refine g_n_then ?_
   refine g_ret ?_
   obtain rfl := Option.some.inj hm
   refine g_done rfl (fun w hh => (.tmp rfl .nil)) (fun w hh => ⟨(), rfl, trivial, hh.sel [] [] 6 (by decide) (by decide) rfl rfl rfl⟩)
def m_laurellaw01_wide (s0 : Sands) : Option Bool :=
 (if 20 < (s0.table.length : Int) then
 (some true) else
 (if 20 < (s0.floors.length : Int) then
 (some true) else
 (if 30 < (s0.sills.length : Int) then
 (some true) else
 (if 8 < (s0.sills.length : Int) then
 (some (decide ((s0.sills.length : Int) ≤ 16))) else
 (some false))))).bind fun o =>
 some o
set_option maxRecDepth 100000 in
set_option maxHeartbeats 4000000 in
theorem c_laurellaw01_wide (s0 : Sands) (qa0 : Option Addr) (na0 ca0 : Nat) (qa1 : Option Addr) (na1 ca1 : Nat) (qa2 : Option Addr) (na2 ca2 : Nat) (w : World) (hw : HV w (keys [] []) [] [] [(aB qa0, aO qa0, RW.enc s0.table), (aB qa1, aO qa1, RI.enc s0.floors), (aB qa2, aO qa2, RS.enc s0.sills)] w) (hna0 : s0.table.length = na0) (hqa0 : AOK na0 qa0) (hla0 : na0 ≤ ca0) (hna1 : s0.floors.length = na1) (hqa1 : AOK na1 qa1) (hla1 : na1 ≤ ca1) (hna2 : s0.sills.length = na2) (hqa2 : AOK na2 qa2) (hla2 : na2 ≤ ca2) {res : Bool} (hm : m_laurellaw01_wide s0 = some res) :
    Calls Try.prog 52 #[.agg #[.slice qa0 na0 ca0, .int .i64 s0.wind.lo, .int .i64 s0.wind.hi, .slice qa1 na1 ca1, .slice qa2 na2 ca2]] w (fun en w' => ∃ l : Unit, en = .returned (.bool res) ∧ (True) ∧ HV w (keys [] []) [] [] [] w') := by
  unfold m_laurellaw01_wide at hm
  refine g_enter (args := [.agg #[.slice qa0 na0 ca0, .int .i64 s0.wind.lo, .int .i64 s0.wind.hi, .slice qa1 na1 ca1, .slice qa2 na2 ca2]]) Try.func52 rfl Try.ntmps52 rfl (e := [(0, _)]) rfl (H := HV w (keys [] []) [] [] [(aB qa0, aO qa0, RW.enc s0.table), (aB qa1, aO qa1, RI.enc s0.floors), (aB qa2, aO qa2, RS.enc s0.sills)]) hw ?_
  refine g_seq ?_
  refine g_region ?_
  refine g_boxV rfl rfl (fun b h1 => ?_)
  refine g_val rfl rfl rfl (fun _ _ => v_assign rfl) ?_
  refine g_nil ?_
  refine g_n_then ?_
  refine g_seq ?_
  obtain ⟨o, h2, h3⟩ := bindO hm
  refine g_cut (ι := Unit) (fun l => True) (fun l => [(2, .bool o)]) (fun l => [(b, .cells #[.slice qa0 na0 ca0, .int .i64 s0.wind.lo, .int .i64 s0.wind.hi, .slice qa1 na1 ca1, .slice qa2 na2 ca2] 29 (0, 0))]) (fun l => []) ?_ ?_
  ·replace hm := h2
   refine g_region ?_
   refine g_val rfl rfl rfl (fun w _ => v_fieldAddr 0 (Try.runUnderlying29 w) rfl (Try.sizeOf23 w) rfl) ?_
   refine g_val rfl rfl rfl (fun w hh => v_load (Try.isAgg23 w) rfl (hh.cell 0 rfl rfl)) ?_
   refine g_val rfl rfl rfl (fun w _ => v_lenR hna0 (Try.runUnderlying23 w) rfl) ?_
   refine g_val rfl rfl rfl (fun _ _ => v_gtr rfl rfl) ?_
   refine g_val rfl rfl rfl (fun _ _ => v_move rfl) ?_
   refine g_case 7 rfl (fun h4 => ?_) (fun h4 => ?_)
   ·replace hm := ifT (of_decide_eq_true h4) hm
    refine g_skipG rfl rfl rfl rfl rfl rfl ?_
    refine g_skipG rfl rfl rfl rfl rfl rfl ?_
    refine g_skipG rfl rfl rfl rfl rfl rfl ?_
    refine g_skipG rfl rfl rfl rfl rfl rfl ?_
    refine g_val rfl rfl rfl (fun _ _ => v_pickT rfl rfl) ?_
    refine g_val rfl rfl rfl (fun _ _ => v_move rfl) ?_
    refine g_skipG rfl rfl rfl rfl rfl rfl ?_
    refine g_skipG rfl rfl rfl rfl rfl rfl ?_
    refine g_skipG rfl rfl rfl rfl rfl rfl ?_
    refine g_skipG rfl rfl rfl rfl rfl rfl ?_
    refine g_val rfl rfl rfl (fun _ _ => v_pickT rfl rfl) ?_
    refine g_val rfl rfl rfl (fun _ _ => v_move rfl) ?_
    refine g_skipG rfl rfl rfl rfl rfl rfl ?_
    refine g_skipG rfl rfl rfl rfl rfl rfl ?_
    refine g_skipG rfl rfl rfl rfl rfl rfl ?_
    refine g_skipG rfl rfl rfl rfl rfl rfl ?_
    refine g_skipG rfl rfl rfl rfl rfl rfl ?_
    refine g_skipU' rfl rfl rfl rfl rfl ?_
    refine g_skipU' rfl rfl rfl rfl rfl ?_
    refine g_skipU' rfl rfl rfl rfl rfl ?_
    refine g_skipU' rfl rfl rfl rfl rfl ?_
    refine g_skipG rfl rfl rfl rfl rfl rfl ?_
    refine g_val rfl rfl rfl (fun _ _ => v_pickT rfl rfl) ?_
    refine g_val rfl rfl rfl (fun _ _ => v_assign rfl) ?_
    refine g_nil ?_
    obtain rfl := Option.some.inj hm
    exact g_leaf () (trivial) ((.cons rfl .nil)) (fun w hh => hh)
   ·replace hm := ifF (of_decide_eq_false h4) hm
    refine v_unguard rfl rfl ?_
    refine g_val rfl rfl rfl (fun w _ => v_fieldAddr 3 (Try.runUnderlying29 w) rfl (Try.sizeOf26 w) rfl) ?_
    refine v_unguard rfl rfl ?_
    refine g_val rfl rfl rfl (fun w hh => v_load (Try.isAgg26 w) rfl (hh.cell 0 rfl rfl)) ?_
    refine v_unguard rfl rfl ?_
    refine g_val rfl rfl rfl (fun w _ => v_lenR hna1 (Try.runUnderlying26 w) rfl) ?_
    refine v_unguard rfl rfl ?_
    refine g_val rfl rfl rfl (fun _ _ => v_gtr rfl rfl) ?_
    refine g_val rfl rfl rfl (fun _ _ => v_pickF rfl rfl) ?_
    refine g_val rfl rfl rfl (fun _ _ => v_move rfl) ?_
    refine g_case 13 rfl (fun h5 => ?_) (fun h5 => ?_)
    ·replace hm := ifT (of_decide_eq_true h5) hm
     refine g_skipG rfl rfl rfl rfl rfl rfl ?_
     refine g_skipG rfl rfl rfl rfl rfl rfl ?_
     refine g_skipG rfl rfl rfl rfl rfl rfl ?_
     refine g_skipG rfl rfl rfl rfl rfl rfl ?_
     refine g_val rfl rfl rfl (fun _ _ => v_pickT rfl rfl) ?_
     refine g_val rfl rfl rfl (fun _ _ => v_move rfl) ?_
     refine g_skipG rfl rfl rfl rfl rfl rfl ?_
     refine g_skipG rfl rfl rfl rfl rfl rfl ?_
     refine g_skipG rfl rfl rfl rfl rfl rfl ?_
     refine g_skipG rfl rfl rfl rfl rfl rfl ?_
     refine g_skipG rfl rfl rfl rfl rfl rfl ?_
     refine g_skipU' rfl rfl rfl rfl rfl ?_
     refine g_skipU' rfl rfl rfl rfl rfl ?_
     refine g_skipU' rfl rfl rfl rfl rfl ?_
     refine g_skipU' rfl rfl rfl rfl rfl ?_
     refine g_skipG rfl rfl rfl rfl rfl rfl ?_
     refine g_val rfl rfl rfl (fun _ _ => v_pickT rfl rfl) ?_
     refine g_val rfl rfl rfl (fun _ _ => v_assign rfl) ?_
     refine g_nil ?_
     obtain rfl := Option.some.inj hm
     exact g_leaf () (trivial) ((.cons rfl .nil)) (fun w hh => hh)
    ·replace hm := ifF (of_decide_eq_false h5) hm
     refine v_unguard rfl rfl ?_
     refine g_val rfl rfl rfl (fun w _ => v_fieldAddr 4 (Try.runUnderlying29 w) rfl (Try.sizeOf27 w) rfl) ?_
     refine v_unguard rfl rfl ?_
     refine g_val rfl rfl rfl (fun w hh => v_load (Try.isAgg27 w) rfl (hh.cell 0 rfl rfl)) ?_
     refine v_unguard rfl rfl ?_
     refine g_val rfl rfl rfl (fun w _ => v_lenR hna2 (Try.runUnderlying27 w) rfl) ?_
     refine v_unguard rfl rfl ?_
     refine g_val rfl rfl rfl (fun _ _ => v_gtr rfl rfl) ?_
     refine g_val rfl rfl rfl (fun _ _ => v_pickF rfl rfl) ?_
     refine g_val rfl rfl rfl (fun _ _ => v_move rfl) ?_
     refine g_case 19 rfl (fun h6 => ?_) (fun h6 => ?_)
     ·replace hm := ifT (of_decide_eq_true h6) hm
      refine g_skipG rfl rfl rfl rfl rfl rfl ?_
      refine g_skipG rfl rfl rfl rfl rfl rfl ?_
      refine g_skipG rfl rfl rfl rfl rfl rfl ?_
      refine g_skipG rfl rfl rfl rfl rfl rfl ?_
      refine g_skipG rfl rfl rfl rfl rfl rfl ?_
      refine g_skipU' rfl rfl rfl rfl rfl ?_
      refine g_skipU' rfl rfl rfl rfl rfl ?_
      refine g_skipU' rfl rfl rfl rfl rfl ?_
      refine g_skipU' rfl rfl rfl rfl rfl ?_
      refine g_skipG rfl rfl rfl rfl rfl rfl ?_
      refine g_val rfl rfl rfl (fun _ _ => v_pickT rfl rfl) ?_
      refine g_val rfl rfl rfl (fun _ _ => v_assign rfl) ?_
      refine g_nil ?_
      obtain rfl := Option.some.inj hm
      exact g_leaf () (trivial) ((.cons rfl .nil)) (fun w hh => hh)
     ·replace hm := ifF (of_decide_eq_false h6) hm
      refine v_unguard rfl rfl ?_
      refine g_val rfl rfl rfl (fun w _ => v_fieldAddr 4 (Try.runUnderlying29 w) rfl (Try.sizeOf27 w) rfl) ?_
      refine v_unguard rfl rfl ?_
      refine g_val rfl rfl rfl (fun w hh => v_load (Try.isAgg27 w) rfl (hh.cell 0 rfl rfl)) ?_
      refine v_unguard rfl rfl ?_
      refine g_val rfl rfl rfl (fun w _ => v_lenR hna2 (Try.runUnderlying27 w) rfl) ?_
      refine v_unguard rfl rfl ?_
      refine g_val rfl rfl rfl (fun _ _ => v_gtr rfl rfl) ?_
      refine v_unguard rfl rfl ?_
      refine g_val rfl rfl rfl (fun _ _ => v_move rfl) ?_
      refine g_case 24 rfl (fun h7 => ?_) (fun h7 => ?_)
      ·replace hm := ifT (of_decide_eq_true h7) hm
       refine v_unguard rfl rfl ?_
       refine g_val rfl rfl rfl (fun w _ => v_fieldAddr 4 (Try.runUnderlying29 w) rfl (Try.sizeOf27 w) rfl) ?_
       refine v_unguard rfl rfl ?_
       refine g_val rfl rfl rfl (fun w hh => v_load (Try.isAgg27 w) rfl (hh.cell 0 rfl rfl)) ?_
       refine v_unguard rfl rfl ?_
       refine g_val rfl rfl rfl (fun w _ => v_lenR hna2 (Try.runUnderlying27 w) rfl) ?_
       refine v_unguard rfl rfl ?_
       refine g_val rfl rfl rfl (fun _ _ => v_leq rfl rfl) ?_
       refine v_unguard rfl rfl ?_
       refine g_val rfl rfl rfl (fun _ _ => v_pickT rfl rfl) ?_
       refine g_val rfl rfl rfl (fun _ _ => v_pickF rfl rfl) ?_
       refine g_val rfl rfl rfl (fun _ _ => v_assign rfl) ?_
       refine g_nil ?_
       obtain rfl := Option.some.inj hm
       exact g_leaf () (trivial) ((.cons rfl .nil)) (fun w hh => hh)
      ·replace hm := ifF (of_decide_eq_false h7) hm
       refine g_skipG rfl rfl rfl rfl rfl rfl ?_
       refine g_skipG rfl rfl rfl rfl rfl rfl ?_
       refine g_skipG rfl rfl rfl rfl rfl rfl ?_
       refine g_skipG rfl rfl rfl rfl rfl rfl ?_
       refine v_unguard rfl rfl ?_
       refine g_val rfl rfl rfl (fun _ _ => v_pickF rfl rfl) ?_
       refine g_val rfl rfl rfl (fun _ _ => v_pickF rfl rfl) ?_
       refine g_val rfl rfl rfl (fun _ _ => v_assign rfl) ?_
       refine g_nil ?_
       obtain rfl := Option.some.inj hm
       exact g_leaf () (trivial) ((.cons rfl .nil)) (fun w hh => hh)
  ·intro l hj
   replace hm := h3
   refine g_n_then ?_
   refine g_ret ?_
   obtain rfl := Option.some.inj hm
   refine g_done rfl (fun w hh => (.tmp rfl .nil)) (fun w hh => ⟨(), rfl, trivial, hh.sel [] [] 3 (by decide) (by decide) rfl rfl rfl⟩)
def m_laurellaw01_large (s0 : Sands) : Option Bool :=
 ((m_laurellaw01_wide s0).bind fun t6 =>
 if t6 = true then
 (some true) else
 (some (decide ((s0.table.length : Int) = 0)))).bind fun o =>
 if o = true then
 ((m_laurellaw01_wide s0).bind fun t14 =>
 some t14) else
 ((ix s0.table 0).bind fun t17 =>
 (ix s0.table (IntKind.i64.wrap ((s0.table.length : Int) - 1))).bind fun t26 =>
 (if 0 ≤ t17.min then
 (if t26.min ≤ 1440 then
 (some (decide (400 < (IntKind.i64.wrap (t26.min - t17.min))))) else
 (some false)) else
 (some false)).bind fun o_1 =>
 some o_1)
set_option maxRecDepth 100000 in
set_option maxHeartbeats 4000000 in
theorem c_laurellaw01_large (s0 : Sands) (qa0 : Option Addr) (na0 ca0 : Nat) (qa1 : Option Addr) (na1 ca1 : Nat) (qa2 : Option Addr) (na2 ca2 : Nat) (w : World) (hw : HV w (keys [] []) [] [] [(aB qa0, aO qa0, RW.enc s0.table), (aB qa1, aO qa1, RI.enc s0.floors), (aB qa2, aO qa2, RS.enc s0.sills)] w) (hna0 : s0.table.length = na0) (hqa0 : AOK na0 qa0) (hla0 : na0 ≤ ca0) (hna1 : s0.floors.length = na1) (hqa1 : AOK na1 qa1) (hla1 : na1 ≤ ca1) (hna2 : s0.sills.length = na2) (hqa2 : AOK na2 qa2) (hla2 : na2 ≤ ca2) {res : Bool} (hm : m_laurellaw01_large s0 = some res) :
    Calls Try.prog 42 #[.agg #[.slice qa0 na0 ca0, .int .i64 s0.wind.lo, .int .i64 s0.wind.hi, .slice qa1 na1 ca1, .slice qa2 na2 ca2]] w (fun en w' => ∃ l : Unit, en = .returned (.bool res) ∧ (True) ∧ HV w (keys [] []) [] [] [] w') := by
  unfold m_laurellaw01_large at hm
  refine g_enter (args := [.agg #[.slice qa0 na0 ca0, .int .i64 s0.wind.lo, .int .i64 s0.wind.hi, .slice qa1 na1 ca1, .slice qa2 na2 ca2]]) Try.func42 rfl Try.ntmps42 rfl (e := [(0, _)]) rfl (H := HV w (keys [] []) [] [] [(aB qa0, aO qa0, RW.enc s0.table), (aB qa1, aO qa1, RI.enc s0.floors), (aB qa2, aO qa2, RS.enc s0.sills)]) hw ?_
  refine g_seq ?_
  refine g_region ?_
  refine g_boxV rfl rfl (fun b h1 => ?_)
  refine g_val rfl rfl rfl (fun _ _ => v_assign rfl) ?_
  refine g_nil ?_
  refine g_n_then ?_
  refine g_seq ?_
  refine g_seq ?_
  obtain ⟨o, h2, h3⟩ := bindO hm
  refine g_cut (ι := Unit) (fun l => True) (fun l => [(1, ptr b 0), (12, .bool o)]) (fun l => [(b, .cells #[.slice qa0 na0 ca0, .int .i64 s0.wind.lo, .int .i64 s0.wind.hi, .slice qa1 na1 ca1, .slice qa2 na2 ca2] 29 (0, 0))]) (fun l => []) ?_ ?_
  ·replace hm := h2
   refine g_region ?_
   refine g_val rfl rfl rfl (fun w hh => v_loadAgg (vs := [_, _, _, _, _]) (Try.isAgg29 w) (Try.sizeOf29 w) rfl (hh.cells 0 rfl rfl)) ?_
   obtain ⟨t6, h4, hm⟩ := bindO hm
   refine g_callH [] [] rfl rfl rfl rfl rfl rfl rfl (fun a w => Try.call52 a w) (fun w hh => c_laurellaw01_wide s0 qa0 na0 ca0 qa1 na1 ca1 qa2 na2 ca2 w (HV.callee (S0 := []) (vs0 := []) hh (roC (hh.rsep (S0 := []) (vs0 := []) 0 rfl) (roC (hh.rsep (S0 := []) (vs0 := []) 1 rfl) (roC (hh.rsep (S0 := []) (vs0 := []) 2 rfl) roN)))) hna0 hqa0 hla0 hna1 hqa1 hla1 hna2 hqa2 hla2 h4) (fun l_1 h5 => ?_)
   refine g_val rfl rfl rfl (fun _ _ => v_move rfl) ?_
   refine g_case 7 rfl (fun h6 => ?_) (fun h6 => ?_)
   ·replace hm := ifT (h6) hm
    refine g_skipG rfl rfl rfl rfl rfl rfl ?_
    refine g_skipG rfl rfl rfl rfl rfl rfl ?_
    refine g_skipG rfl rfl rfl rfl rfl rfl ?_
    refine g_skipG rfl rfl rfl rfl rfl rfl ?_
    refine g_val rfl rfl rfl (fun _ _ => v_pickT rfl rfl) ?_
    refine g_nil ?_
    obtain rfl := Option.some.inj hm
    exact g_leaf () (trivial) ((.cons rfl (.cons rfl .nil))) (fun w hh => hh)
   ·replace hm := ifF ((fun hh => Bool.noConfusion ((h6).symm.trans hh))) hm
    refine v_unguard rfl rfl ?_
    refine g_val rfl rfl rfl (fun w _ => v_fieldAddr 0 (Try.runUnderlying29 w) rfl (Try.sizeOf23 w) rfl) ?_
    refine v_unguard rfl rfl ?_
    refine g_val rfl rfl rfl (fun w hh => v_load (Try.isAgg23 w) rfl (hh.cell 0 rfl rfl)) ?_
    refine v_unguard rfl rfl ?_
    refine g_val rfl rfl rfl (fun w _ => v_lenR hna0 (Try.runUnderlying23 w) rfl) ?_
    refine v_unguard rfl rfl ?_
    refine g_val rfl rfl rfl (fun _ _ => v_eql rfl rfl) ?_
    refine g_val rfl rfl rfl (fun _ _ => v_pickF rfl rfl) ?_
    refine g_nil ?_
    obtain rfl := Option.some.inj hm
    exact g_leaf () (trivial) ((.cons rfl (.cons rfl .nil))) (fun w hh => hh)
  ·intro l hj
   replace hm := h3
   refine g_n_then ?_
   refine g_cond rfl (fun h7 => ?_) (fun h7 => ?_)
   ·replace hm := ifT (h7) hm
    refine g_seq ?_
    refine g_region ?_
    refine g_val rfl rfl rfl (fun w hh => v_loadAgg (vs := [_, _, _, _, _]) (Try.isAgg29 w) (Try.sizeOf29 w) rfl (hh.cells 0 rfl rfl)) ?_
    obtain ⟨t14, h8, hm⟩ := bindO hm
    refine g_callH [] [] rfl rfl rfl rfl rfl rfl rfl (fun a w => Try.call52 a w) (fun w hh => c_laurellaw01_wide s0 qa0 na0 ca0 qa1 na1 ca1 qa2 na2 ca2 w (HV.callee (S0 := []) (vs0 := []) hh (roC (hh.rsep (S0 := []) (vs0 := []) 0 rfl) (roC (hh.rsep (S0 := []) (vs0 := []) 1 rfl) (roC (hh.rsep (S0 := []) (vs0 := []) 2 rfl) roN)))) hna0 hqa0 hla0 hna1 hqa1 hla1 hna2 hqa2 hla2 h8) (fun l_2 h9 => ?_)
    refine g_val rfl rfl rfl (fun _ _ => v_assign rfl) ?_
    refine g_nil ?_
    refine g_n_then ?_
    refine g_ret ?_
    refine g_r_then ?_
    obtain rfl := Option.some.inj hm
    refine g_done rfl (fun w hh => (.tmp rfl .nil)) (fun w hh => ⟨(), rfl, trivial, hh.sel [] [] 3 (by decide) (by decide) rfl rfl rfl⟩)
   ·replace hm := ifF ((fun hh => Bool.noConfusion ((h7).symm.trans hh))) hm
    refine g_skip ?_
    refine g_n_then ?_
    refine g_seq ?_
    refine g_draw none (.free 0 (.hoist 1 (.free 2 (.free 3 (.hoist 4 (.free 5 (.hoist 6 (.free 7 (.hoist 8 (.free 9 (.free 10 (.free 11 (.free 12 (.hoist 13 (.free 14 (.free 15 .done)))))))))))))))) _ rfl (by decide +kernel) (fun w k hh => hh.draw k) (fun w hh => hh) ?_
    refine p_free rfl rfl rfl rfl (fun w _ => v_fieldAddr 0 (Try.runUnderlying29 w) rfl (Try.sizeOf23 w) rfl) ?_
    refine p_hoist rfl rfl rfl rfl (fun w hh => v_load (Try.isAgg23 w) rfl (hh.cell 0 rfl rfl)) ?_
    obtain ⟨t17, h10, hm⟩ := bindO hm
    refine p_free rfl rfl rfl rfl (fun w _ => v_ixR h10 (Try.runUnderlying23 w) (Try.sizeOf68 w) rfl rfl hna0 hqa0) ?_
    refine p_free rfl rfl rfl rfl (fun w _ => v_fieldAddr 0 (Try.runUnderlying68 w) rfl (Try.sizeOf3 w) rfl) ?_
    refine p_hoist rfl rfl rfl rfl (fun w hh => v_ldE RW 0 h10 (Try.isAgg3 w) rfl (hh.seg 0 rfl) rfl rfl) ?_
    refine p_free rfl rfl rfl rfl (fun w _ => v_fieldAddr 0 (Try.runUnderlying29 w) rfl (Try.sizeOf23 w) rfl) ?_
    refine p_hoist rfl rfl rfl rfl (fun w hh => v_load (Try.isAgg23 w) rfl (hh.cell 0 rfl rfl)) ?_
    refine p_free rfl rfl rfl rfl (fun w _ => v_fieldAddr 0 (Try.runUnderlying29 w) rfl (Try.sizeOf23 w) rfl) ?_
    refine p_hoist rfl rfl rfl rfl (fun w hh => v_load (Try.isAgg23 w) rfl (hh.cell 0 rfl rfl)) ?_
    refine p_free rfl rfl rfl rfl (fun w _ => v_lenR hna0 (Try.runUnderlying23 w) rfl) ?_
    refine p_free rfl rfl rfl rfl (fun _ _ => v_subW rfl rfl) ?_
    obtain ⟨t26, h11, hm⟩ := bindO hm
    refine p_free rfl rfl rfl rfl (fun w _ => v_ixR h11 (Try.runUnderlying23 w) (Try.sizeOf68 w) rfl rfl hna0 hqa0) ?_
    refine p_free rfl rfl rfl rfl (fun w _ => v_fieldAddr 0 (Try.runUnderlying68 w) rfl (Try.sizeOf3 w) rfl) ?_
    refine p_hoist rfl rfl rfl rfl (fun w hh => v_ldE RW 0 h11 (Try.isAgg3 w) rfl (hh.seg 0 rfl) rfl rfl) ?_
    refine p_free rfl rfl rfl rfl (fun _ _ => v_assign rfl) ?_
    refine p_free rfl rfl rfl rfl (fun _ _ => v_assign rfl) ?_
    refine p_done ?_
    refine g_n_then ?_
    refine g_seq ?_
    obtain ⟨o_1, h12, h13⟩ := bindO hm
    refine g_cut (ι := Unit) (fun l_3 => True) (fun l_3 => [(2, .bool o_1)]) (fun l_3 => [(b, .cells #[.slice qa0 na0 ca0, .int .i64 s0.wind.lo, .int .i64 s0.wind.hi, .slice qa1 na1 ca1, .slice qa2 na2 ca2] 29 (0, 0))]) (fun l_3 => []) ?_ ?_
    ·replace hm := h12
     refine g_region ?_
     refine g_val rfl rfl rfl (fun _ _ => v_move rfl) ?_
     refine g_val rfl rfl rfl (fun _ _ => v_geq rfl rfl) ?_
     refine g_val rfl rfl rfl (fun _ _ => v_move rfl) ?_
     refine g_case 31 rfl (fun h14 => ?_) (fun h14 => ?_)
     ·replace hm := ifT (of_decide_eq_true h14) hm
      refine v_unguard rfl rfl ?_
      refine g_val rfl rfl rfl (fun _ _ => v_move rfl) ?_
      refine v_unguard rfl rfl ?_
      refine g_val rfl rfl rfl (fun _ _ => v_leq rfl rfl) ?_
      refine g_val rfl rfl rfl (fun _ _ => v_pickT rfl rfl) ?_
      refine g_val rfl rfl rfl (fun _ _ => v_move rfl) ?_
      refine g_case 35 rfl (fun h15 => ?_) (fun h15 => ?_)
      ·replace hm := ifT (of_decide_eq_true h15) hm
       refine v_unguard rfl rfl ?_
       refine g_val rfl rfl rfl (fun _ _ => v_move rfl) ?_
       refine v_unguard rfl rfl ?_
       refine g_val rfl rfl rfl (fun _ _ => v_move rfl) ?_
       refine v_unguard rfl rfl ?_
       refine g_val rfl rfl rfl (fun _ _ => v_subW rfl rfl) ?_
       refine v_unguard rfl rfl ?_
       refine g_val rfl rfl rfl (fun _ _ => v_gtr rfl rfl) ?_
       refine g_val rfl rfl rfl (fun _ _ => v_pickT rfl rfl) ?_
       refine g_val rfl rfl rfl (fun _ _ => v_assign rfl) ?_
       refine g_nil ?_
       obtain rfl := Option.some.inj hm
       exact g_leaf () (trivial) ((.cons rfl .nil)) (fun w hh => hh)
      ·replace hm := ifF (of_decide_eq_false h15) hm
       refine g_skipG rfl rfl rfl rfl rfl rfl ?_
       refine g_skipG rfl rfl rfl rfl rfl rfl ?_
       refine g_skipG rfl rfl rfl rfl rfl rfl ?_
       refine g_skipG rfl rfl rfl rfl rfl rfl ?_
       refine g_val rfl rfl rfl (fun _ _ => v_pickF rfl rfl) ?_
       refine g_val rfl rfl rfl (fun _ _ => v_assign rfl) ?_
       refine g_nil ?_
       obtain rfl := Option.some.inj hm
       exact g_leaf () (trivial) ((.cons rfl .nil)) (fun w hh => hh)
     ·replace hm := ifF (of_decide_eq_false h14) hm
      refine g_skipG rfl rfl rfl rfl rfl rfl ?_
      refine g_skipG rfl rfl rfl rfl rfl rfl ?_
      refine g_val rfl rfl rfl (fun _ _ => v_pickF rfl rfl) ?_
      refine g_val rfl rfl rfl (fun _ _ => v_move rfl) ?_
      refine g_skipG rfl rfl rfl rfl rfl rfl ?_
      refine g_skipG rfl rfl rfl rfl rfl rfl ?_
      refine g_skipG rfl rfl rfl rfl rfl rfl ?_
      refine g_skipG rfl rfl rfl rfl rfl rfl ?_
      refine g_val rfl rfl rfl (fun _ _ => v_pickF rfl rfl) ?_
      refine g_val rfl rfl rfl (fun _ _ => v_assign rfl) ?_
      refine g_nil ?_
      obtain rfl := Option.some.inj hm
      exact g_leaf () (trivial) ((.cons rfl .nil)) (fun w hh => hh)
    ·intro l_3 hj
     replace hm := h13
     refine g_n_then ?_
     refine g_ret ?_
     obtain rfl := Option.some.inj hm
     refine g_done rfl (fun w hh => (.tmp rfl .nil)) (fun w hh => ⟨(), rfl, trivial, hh.sel [] [] 3 (by decide) (by decide) rfl rfl rfl⟩)
def m_laurelref01_has_L0 (l0 : (List Int)) (n1 : Int) (s : Int) : Option (Int ⊕ (Unit ⊕ Bool)) :=
 if s < (l0.length : Int) then
 ((ix l0 s).bind fun t14 =>
 if t14 = n1 then
 (some (.inr (.inr true))) else
 ((addc s 1).bind fun t11 =>
 some (.inl t11))) else
 (some (.inr (.inl ())))
def m_laurelref01_has (l0 : (List Int)) (n1 : Int) : Option Bool :=
 (iterM FU (m_laurelref01_has_L0 l0 n1) 0).bind fun o =>
 oc o (fun j => some false) (fun r_1 => some r_1)
set_option maxRecDepth 100000 in
set_option maxHeartbeats 4000000 in
theorem c_laurelref01_has (l0 : (List Int)) (n1 : Int) (qa0 : Option Addr) (na0 ca0 : Nat) (w : World) (hw : HV w (keys [] []) [] [] [(aB qa0, aO qa0, RI.enc l0)] w) (hna0 : l0.length = na0) (hqa0 : AOK na0 qa0) (hla0 : na0 ≤ ca0) {res : Bool} (hm : m_laurelref01_has l0 n1 = some res) :
    Calls Try.prog 136 #[.slice qa0 na0 ca0, .int .i64 n1] w (fun en w' => ∃ l : Unit, en = .returned (.bool res) ∧ (True) ∧ HV w (keys [] []) [] [] [] w') := by
  unfold m_laurelref01_has at hm
  refine g_enter (args := [.slice qa0 na0 ca0, .int .i64 n1]) Try.func136 rfl Try.ntmps136 rfl (e := [(0, _), (1, _)]) rfl (H := HV w (keys [] []) [] [] [(aB qa0, aO qa0, RI.enc l0)]) hw ?_
  refine g_seq ?_
  refine g_region ?_
  refine g_val rfl rfl rfl (fun _ _ => v_assign rfl) ?_
  refine g_nil ?_
  refine g_n_then ?_
  refine g_seq ?_
  refine g_seq ?_
  refine g_region ?_
  refine g_val rfl rfl rfl (fun _ _ => v_assign rfl) ?_
  refine g_nil ?_
  refine g_n_then ?_
  obtain ⟨o, h1, h2⟩ := bindO hm
  refine g_cut (ι := Unit) (fun j => o = .inl j) (fun j => []) (fun j => []) (fun j => []) ?_ ?_
  ·replace hm := h1
   refine g_block ?_
   refine g_loopF (ι := Unit) hm (fun s l => True) (fun s l => [(0, .slice qa0 na0 ca0), (1, .int .i64 n1), (5, .int .i64 s)]) (fun s l => []) (fun s l => []) () (trivial) ((.cons rfl (.cons rfl (.cons rfl .nil)))) (fun w hh => hh) (fun s l r hpl hm h3 => ?_)
   unfold m_laurelref01_has_L0 at hm
   refine g_seq ?_
   refine g_seq ?_
   refine g_region ?_
   refine g_val rfl rfl rfl (fun _ _ => v_move rfl) ?_
   refine g_val rfl rfl rfl (fun _ _ => v_move rfl) ?_
   refine g_val rfl rfl rfl (fun w _ => v_lenR hna0 (Try.runUnderlying26 w) rfl) ?_
   refine g_val rfl rfl rfl (fun _ _ => v_lss rfl rfl) ?_
   refine g_nil ?_
   refine g_n_then ?_
   refine g_cond rfl (fun h4 => ?_) (fun h4 => ?_)
   ·replace hm := ifT (of_decide_eq_true h4) hm
    refine g_skip ?_
    refine g_n_then ?_
    refine g_seq ?_
    refine g_block ?_
    refine g_seq ?_
    refine g_region ?_
    refine g_val rfl rfl rfl (fun _ _ => v_move rfl) ?_
    refine g_val rfl rfl rfl (fun _ _ => v_move rfl) ?_
    obtain ⟨t14, h5, hm⟩ := bindO hm
    refine g_val rfl rfl rfl (fun w _ => v_ixR h5 (Try.runUnderlying26 w) (Try.sizeOf3 w) rfl rfl hna0 hqa0) ?_
    refine g_val rfl rfl rfl (fun w hh => v_ldE RI 0 h5 (Try.isAgg3 w) rfl (hh.seg 0 rfl) rfl (Nat.add_zero _).symm) ?_
    refine g_val rfl rfl rfl (fun _ _ => v_move rfl) ?_
    refine g_val rfl rfl rfl (fun _ _ => v_eql rfl rfl) ?_
    refine g_nil ?_
    refine g_n_then ?_
    refine g_cond rfl (fun h6 => ?_) (fun h6 => ?_)
    ·replace hm := ifT (of_decide_eq_true h6) hm
     refine g_seq ?_
     refine g_region ?_
     refine g_val rfl rfl rfl (fun _ _ => v_assign rfl) ?_
     refine g_nil ?_
     refine g_n_then ?_
     refine g_ret ?_
     refine g_r_blk ?_
     refine g_r_then ?_
     refine g_r_then ?_
     refine g_r_blk ?_
     obtain rfl := Option.some.inj hm
     have hbo := h3 _ rfl
     subst hbo
     refine g_r_then ?_
     replace hm := ocR h2
     refine g_r_then ?_
     obtain rfl := Option.some.inj hm
     refine g_done rfl (fun w hh => (.tmp rfl .nil)) (fun w hh => ⟨(), rfl, trivial, hh.sel [] [] 1 (by decide) (by decide) rfl rfl rfl⟩)
    ·replace hm := ifF (of_decide_eq_false h6) hm
     refine g_skip ?_
     refine g_n_blk ?_
     refine g_n_then ?_
     refine g_region ?_
     refine g_val rfl rfl rfl (fun _ _ => v_move rfl) ?_
     obtain ⟨t11, h7, hm⟩ := bindO hm
     refine g_val rfl rfl rfl (fun _ _ => v_addc h7 rfl rfl) ?_
     refine g_val rfl rfl rfl (fun _ _ => v_assign rfl) ?_
     refine g_nil ?_
     obtain rfl := Option.some.inj hm
     refine g_n_then ?_
     exact g_again' _ () rfl (trivial) ((.cons rfl (.cons rfl (.cons rfl .nil)))) (fun w hh => hh)
   ·replace hm := ifF (of_decide_eq_false h4) hm
    refine g_exit ?_
    refine g_x_then ?_
    refine g_x_then ?_
    refine g_x_blk ?_
    obtain rfl := Option.some.inj hm
    have hbo := h3 _ rfl
    subst hbo
    exact g_leaf () (rfl) (.nil) (fun w hh => hh)
  ·intro j hj
   have h8 := hj
   subst h8
   replace hm := ocL h2
   refine g_n_then ?_
   refine g_seq ?_
   refine g_region ?_
   refine g_val rfl rfl rfl (fun _ _ => v_assign rfl) ?_
   refine g_nil ?_
   refine g_n_then ?_
   refine g_ret ?_
   obtain rfl := Option.some.inj hm
   refine g_done rfl (fun w hh => (.tmp rfl .nil)) (fun w hh => ⟨(), rfl, trivial, hh.sel [] [] 1 (by decide) (by decide) rfl rfl rfl⟩)
structure m_laurelref01_least_S0 where
  out15 : Int
  i16 : Int
def m_laurelref01_least_L0 (s0 : Sands) (at1 : Int) (met2 : (List Int)) (sills5 : (List Int)) (places6 : (List Int)) (rec_ : Sands → Int → (List Int) → Int → Int → (List Int) → (List Int) → Option Int) (crest3 : Int) (to4 : Int) (s : m_laurelref01_least_S0) : Option (m_laurelref01_least_S0 ⊕ Int) :=
 if s.i16 < (s0.sills.length : Int) then
 (((ix s0.sills s.i16).bind fun t34 =>
 (if t34.a = at1 then
 (some t34.b) else
 (some (-2))).bind fun o_2 =>
 (if t34.b = at1 then
 (some t34.a) else
 (some o_2)).bind fun o_3 =>
 (if o_3 < 0 then
 (some true) else
 ((m_laurelref01_has met2 o_3).bind fun t53 =>
 if t53 = true then
 (some true) else
 ((m_laurelref01_has sills5 s.i16).bind fun t58 =>
 if t58 = true then
 (some true) else
 ((m_laurelref01_has places6 o_3).bind fun t63 =>
 some t63)))).bind fun o_4 =>
 if o_4 = true then
 (some s.out15) else
 ((appc 8 [] met2).bind fun t67 =>
 (appc 8 t67 [o_3]).bind fun t70 =>
 (ix s0.floors o_3).bind fun t81 =>
 (rec_ s0 o_3 t70 (max (max crest3 t34.h) t81) to4 sills5 places6).bind fun t87 =>
 some (min s.out15 t87))).bind fun o_1 =>
 (addc s.i16 1).bind fun t30 =>
 some (.inl (⟨o_1, t30⟩ : m_laurelref01_least_S0))) else
 (some (.inr s.out15))
def m_laurelref01_least_B (rec_ : Sands → Int → (List Int) → Int → Int → (List Int) → (List Int) → Option Int) (s0 : Sands) (at1 : Int) (met2 : (List Int)) (crest3 : Int) (to4 : Int) (sills5 : (List Int)) (places6 : (List Int)) : Option Int :=
 if at1 = to4 then
 (some crest3) else
 ((iterM FU (m_laurelref01_least_L0 s0 at1 met2 sills5 places6 rec_ crest3 to4) (⟨5000, 0⟩ : m_laurelref01_least_S0)).bind fun o =>
 some o)
def m_laurelref01_least : Nat → Sands → Int → (List Int) → Int → Int → (List Int) → (List Int) → Option Int
  | 0, _, _, _, _, _, _, _ => none
  | fu + 1, s0, at1, met2, crest3, to4, sills5, places6 => m_laurelref01_least_B (m_laurelref01_least fu) s0 at1 met2 crest3 to4 sills5 places6
set_option maxRecDepth 100000 in
set_option maxHeartbeats 4000000 in
theorem c_laurelref01_least (fu_ : Nat) : ∀ (s0 : Sands) (at1 : Int) (met2 : (List Int)) (crest3 : Int) (to4 : Int) (sills5 : (List Int)) (places6 : (List Int)) (qa0 : Option Addr) (na0 ca0 : Nat) (qa1 : Option Addr) (na1 ca1 : Nat) (qa2 : Option Addr) (na2 ca2 : Nat) (qa3 : Option Addr) (na3 ca3 : Nat) (qa4 : Option Addr) (na4 ca4 : Nat) (qa5 : Option Addr) (na5 ca5 : Nat) (w : World) (hw : HV w (keys [] []) [] [] [(aB qa0, aO qa0, RW.enc s0.table), (aB qa1, aO qa1, RI.enc s0.floors), (aB qa2, aO qa2, RS.enc s0.sills), (aB qa3, aO qa3, RI.enc met2), (aB qa4, aO qa4, RI.enc sills5), (aB qa5, aO qa5, RI.enc places6)] w) (hna0 : s0.table.length = na0) (hqa0 : AOK na0 qa0) (hla0 : na0 ≤ ca0) (hna1 : s0.floors.length = na1) (hqa1 : AOK na1 qa1) (hla1 : na1 ≤ ca1) (hna2 : s0.sills.length = na2) (hqa2 : AOK na2 qa2) (hla2 : na2 ≤ ca2) (hna3 : met2.length = na3) (hqa3 : AOK na3 qa3) (hla3 : na3 ≤ ca3) (hna4 : sills5.length = na4) (hqa4 : AOK na4 qa4) (hla4 : na4 ≤ ca4) (hna5 : places6.length = na5) (hqa5 : AOK na5 qa5) (hla5 : na5 ≤ ca5) {res : Int} (hm : m_laurelref01_least fu_ s0 at1 met2 crest3 to4 sills5 places6 = some res),
    Calls Try.prog 138 #[.agg #[.slice qa0 na0 ca0, .int .i64 s0.wind.lo, .int .i64 s0.wind.hi, .slice qa1 na1 ca1, .slice qa2 na2 ca2], .int .i64 at1, .slice qa3 na3 ca3, .int .i64 crest3, .int .i64 to4, .slice qa4 na4 ca4, .slice qa5 na5 ca5] w (fun en w' => ∃ l : Unit, en = .returned (.int .i64 res) ∧ (True) ∧ HV w (keys [] []) [] [] [] w') := by
  induction fu_ with
  | zero =>
    intros
    rename_i hm
    exact absurd hm (by simp [m_laurelref01_least])
  | succ fu_ ih =>
  intro s0 at1 met2 crest3 to4 sills5 places6 qa0 na0 ca0 qa1 na1 ca1 qa2 na2 ca2 qa3 na3 ca3 qa4 na4 ca4 qa5 na5 ca5 w hw hna0 hqa0 hla0 hna1 hqa1 hla1 hna2 hqa2 hla2 hna3 hqa3 hla3 hna4 hqa4 hla4 hna5 hqa5 hla5 res hm
  replace hm : m_laurelref01_least_B (m_laurelref01_least fu_) s0 at1 met2 crest3 to4 sills5 places6 = some res := hm
  unfold m_laurelref01_least_B at hm
  refine g_enter (args := [.agg #[.slice qa0 na0 ca0, .int .i64 s0.wind.lo, .int .i64 s0.wind.hi, .slice qa1 na1 ca1, .slice qa2 na2 ca2], .int .i64 at1, .slice qa3 na3 ca3, .int .i64 crest3, .int .i64 to4, .slice qa4 na4 ca4, .slice qa5 na5 ca5]) Try.func138 rfl Try.ntmps138 rfl (e := [(0, _), (1, _), (2, _), (3, _), (4, _), (5, _), (6, _)]) rfl (H := HV w (keys [] []) [] [] [(aB qa0, aO qa0, RW.enc s0.table), (aB qa1, aO qa1, RI.enc s0.floors), (aB qa2, aO qa2, RS.enc s0.sills), (aB qa3, aO qa3, RI.enc met2), (aB qa4, aO qa4, RI.enc sills5), (aB qa5, aO qa5, RI.enc places6)]) hw ?_
  refine g_seq ?_
  refine g_region ?_
  refine g_boxV rfl rfl (fun b h1 => ?_)
  refine g_val rfl rfl rfl (fun _ _ => v_assign rfl) ?_
  refine g_nil ?_
  refine g_n_then ?_
  refine g_seq ?_
  refine g_seq ?_
  refine g_region ?_
  refine g_val rfl rfl rfl (fun _ _ => v_move rfl) ?_
  refine g_val rfl rfl rfl (fun _ _ => v_move rfl) ?_
  refine g_val rfl rfl rfl (fun _ _ => v_eql rfl rfl) ?_
  refine g_nil ?_
  refine g_n_then ?_
  refine g_cond rfl (fun h2 => ?_) (fun h2 => ?_)
  ·replace hm := ifT (of_decide_eq_true h2) hm
   refine g_seq ?_
   refine g_region ?_
   refine g_val rfl rfl rfl (fun _ _ => v_move rfl) ?_
   refine g_val rfl rfl rfl (fun _ _ => v_assign rfl) ?_
   refine g_nil ?_
   refine g_n_then ?_
   refine g_ret ?_
   refine g_r_then ?_
   obtain rfl := Option.some.inj hm
   refine g_done rfl (fun w hh => (.tmp rfl .nil)) (fun w hh => ⟨(), rfl, trivial, hh.sel [] [] 6 (by decide) (by decide) rfl rfl rfl⟩)
  ·replace hm := ifF (of_decide_eq_false h2) hm
   refine g_skip ?_
   refine g_n_then ?_
   refine g_seq ?_
   refine g_region ?_
   refine g_val rfl rfl rfl (fun _ _ => v_assign rfl) ?_
   refine g_nil ?_
   refine g_n_then ?_
   refine g_seq ?_
   refine g_seq ?_
   refine g_region ?_
   refine g_val rfl rfl rfl (fun _ _ => v_assign rfl) ?_
   refine g_nil ?_
   refine g_n_then ?_
   obtain ⟨o, h3, h4⟩ := bindO hm
   refine g_cut (ι := Unit) (fun l => True) (fun l => [(15, .int .i64 o)]) (fun l => [(b, .cells #[.slice qa0 na0 ca0, .int .i64 s0.wind.lo, .int .i64 s0.wind.hi, .slice qa1 na1 ca1, .slice qa2 na2 ca2] 59 (0, 0))]) (fun l => []) ?_ ?_
   ·replace hm := h3
    refine g_block ?_
    refine g_loopF (ι := Unit) hm (fun s l_1 => True) (fun s l_1 => [(1, .int .i64 at1), (2, .slice qa3 na3 ca3), (3, .int .i64 crest3), (4, .int .i64 to4), (5, .slice qa4 na4 ca4), (6, .slice qa5 na5 ca5), (7, ptr b 0), (15, .int .i64 s.out15), (16, .int .i64 s.i16)]) (fun s l_1 => [(b, .cells #[.slice qa0 na0 ca0, .int .i64 s0.wind.lo, .int .i64 s0.wind.hi, .slice qa1 na1 ca1, .slice qa2 na2 ca2] 59 (0, 0))]) (fun s l_1 => []) () (trivial) ((.cons rfl (.cons rfl (.cons rfl (.cons rfl (.cons rfl (.cons rfl (.cons rfl (.cons rfl (.cons rfl .nil)))))))))) (fun w hh => hh) (fun s l_1 r hpl hm h5 => ?_)
    unfold m_laurelref01_least_L0 at hm
    refine g_seq ?_
    refine g_seq ?_
    refine g_region ?_
    refine g_val rfl rfl rfl (fun _ _ => v_move rfl) ?_
    refine g_val rfl rfl rfl (fun w _ => v_fieldAddr 4 (Try.runUnderlying59 w) rfl (Try.sizeOf57 w) rfl) ?_
    refine g_val rfl rfl rfl (fun w hh => v_load (Try.isAgg57 w) rfl (hh.cell 0 rfl rfl)) ?_
    refine g_val rfl rfl rfl (fun w _ => v_lenR hna2 (Try.runUnderlying57 w) rfl) ?_
    refine g_val rfl rfl rfl (fun _ _ => v_lss rfl rfl) ?_
    refine g_nil ?_
    refine g_n_then ?_
    refine g_cond rfl (fun h6 => ?_) (fun h6 => ?_)
    ·replace hm := ifT (of_decide_eq_true h6) hm
     refine g_skip ?_
     refine g_n_then ?_
     refine g_seq ?_
     obtain ⟨o_1, h7, h8⟩ := bindO hm
     refine g_cut (ι := Unit) (fun l_2 => True) (fun l_2 => [(1, .int .i64 at1), (2, .slice qa3 na3 ca3), (3, .int .i64 crest3), (4, .int .i64 to4), (5, .slice qa4 na4 ca4), (6, .slice qa5 na5 ca5), (7, ptr b 0), (15, .int .i64 o_1), (16, .int .i64 s.i16)]) (fun l_2 => [(b, .cells #[.slice qa0 na0 ca0, .int .i64 s0.wind.lo, .int .i64 s0.wind.hi, .slice qa1 na1 ca1, .slice qa2 na2 ca2] 59 (0, 0))]) (fun l_2 => []) ?_ ?_
     ·replace hm := h7
      refine g_block ?_
      refine g_seq ?_
      refine g_region ?_
      refine g_val rfl rfl rfl (fun w _ => v_fieldAddr 4 (Try.runUnderlying59 w) rfl (Try.sizeOf57 w) rfl) ?_
      refine g_val rfl rfl rfl (fun w hh => v_load (Try.isAgg57 w) rfl (hh.cell 0 rfl rfl)) ?_
      refine g_val rfl rfl rfl (fun _ _ => v_move rfl) ?_
      obtain ⟨t34, h9, hm⟩ := bindO hm
      refine g_val rfl rfl rfl (fun w _ => v_ixR h9 (Try.runUnderlying57 w) (Try.sizeOf159 w) rfl rfl hna2 hqa2) ?_
      refine g_val rfl rfl rfl (fun w hh => v_ldEA RS 0 [.int .i64 t34.a, .int .i64 t34.b, .int .i64 t34.h] h9 (Try.isAgg159 w) (Try.sizeOf159 w) rfl (hh.seg 2 rfl) rfl (Nat.add_zero _).symm) ?_
      refine g_allocV (fun w => Try.zeroValue159 w) rfl (fun b_1 h10 => ?_)
      refine g_stSA (us := #[_, _, _]) (cs' := [_, _, _]) (S' := [_, _]) 0 (fun w => Try.sizeOf159 w) rfl rfl rfl rfl rfl rfl rfl ?_
      refine g_nil ?_
      refine g_n_then ?_
      refine g_seq ?_
      refine g_region ?_
      refine g_val rfl rfl rfl (fun _ _ => v_assign rfl) ?_
      refine g_nil ?_
      refine g_n_then ?_
      refine g_seq ?_
      obtain ⟨o_2, h11, h12⟩ := bindO hm
      refine g_cut (ι := Unit) (fun l_3 => True) (fun l_3 => [(1, .int .i64 at1), (2, .slice qa3 na3 ca3), (3, .int .i64 crest3), (4, .int .i64 to4), (5, .slice qa4 na4 ca4), (6, .slice qa5 na5 ca5), (7, ptr b 0), (15, .int .i64 s.out15), (16, .int .i64 s.i16), (17, ptr b_1 0), (18, .int .i64 o_2)]) (fun l_3 => [(b_1, .cells #[.int .i64 t34.a, .int .i64 t34.b, .int .i64 t34.h] 159 (0, 0)), (b, .cells #[.slice qa0 na0 ca0, .int .i64 s0.wind.lo, .int .i64 s0.wind.hi, .slice qa1 na1 ca1, .slice qa2 na2 ca2] 59 (0, 0))]) (fun l_3 => []) ?_ ?_
      ·replace hm := h11
       refine g_seq ?_
       refine g_region ?_
       refine g_val rfl rfl rfl (fun w _ => v_fieldAddr 0 (Try.runUnderlying159 w) rfl (Try.sizeOf3 w) rfl) ?_
       refine g_val rfl rfl rfl (fun w hh => v_load (Try.isAgg3 w) rfl (hh.cell 0 rfl rfl)) ?_
       refine g_val rfl rfl rfl (fun _ _ => v_move rfl) ?_
       refine g_val rfl rfl rfl (fun _ _ => v_eql rfl rfl) ?_
       refine g_nil ?_
       refine g_n_then ?_
       refine g_cond rfl (fun h13 => ?_) (fun h13 => ?_)
       ·replace hm := ifT (of_decide_eq_true h13) hm
        refine g_region ?_
        refine g_val rfl rfl rfl (fun w _ => v_fieldAddr 1 (Try.runUnderlying159 w) rfl (Try.sizeOf3 w) rfl) ?_
        refine g_val rfl rfl rfl (fun w hh => v_load (Try.isAgg3 w) rfl (hh.cell 0 rfl rfl)) ?_
        refine g_val rfl rfl rfl (fun _ _ => v_assign rfl) ?_
        refine g_nil ?_
        obtain rfl := Option.some.inj hm
        exact g_leaf () (trivial) ((.cons rfl (.cons rfl (.cons rfl (.cons rfl (.cons rfl (.cons rfl (.cons rfl (.cons rfl (.cons rfl (.cons rfl (.cons rfl .nil)))))))))))) (fun w hh => hh)
       ·replace hm := ifF (of_decide_eq_false h13) hm
        refine g_skip ?_
        obtain rfl := Option.some.inj hm
        exact g_leaf () (trivial) ((.cons rfl (.cons rfl (.cons rfl (.cons rfl (.cons rfl (.cons rfl (.cons rfl (.cons rfl (.cons rfl (.cons rfl (.cons rfl .nil)))))))))))) (fun w hh => hh)
      ·intro l_3 hj
       replace hm := h12
       refine g_n_then ?_
       refine g_seq ?_
       obtain ⟨o_3, h14, h15⟩ := bindO hm
       refine g_cut (ι := Unit) (fun l_4 => True) (fun l_4 => [(1, .int .i64 at1), (2, .slice qa3 na3 ca3), (3, .int .i64 crest3), (4, .int .i64 to4), (5, .slice qa4 na4 ca4), (6, .slice qa5 na5 ca5), (7, ptr b 0), (15, .int .i64 s.out15), (16, .int .i64 s.i16), (17, ptr b_1 0), (18, .int .i64 o_3)]) (fun l_4 => [(b_1, .cells #[.int .i64 t34.a, .int .i64 t34.b, .int .i64 t34.h] 159 (0, 0)), (b, .cells #[.slice qa0 na0 ca0, .int .i64 s0.wind.lo, .int .i64 s0.wind.hi, .slice qa1 na1 ca1, .slice qa2 na2 ca2] 59 (0, 0))]) (fun l_4 => []) ?_ ?_
       ·replace hm := h14
        refine g_seq ?_
        refine g_region ?_
        refine g_val rfl rfl rfl (fun w _ => v_fieldAddr 1 (Try.runUnderlying159 w) rfl (Try.sizeOf3 w) rfl) ?_
        refine g_val rfl rfl rfl (fun w hh => v_load (Try.isAgg3 w) rfl (hh.cell 0 rfl rfl)) ?_
        refine g_val rfl rfl rfl (fun _ _ => v_move rfl) ?_
        refine g_val rfl rfl rfl (fun _ _ => v_eql rfl rfl) ?_
        refine g_nil ?_
        refine g_n_then ?_
        refine g_cond rfl (fun h16 => ?_) (fun h16 => ?_)
        ·replace hm := ifT (of_decide_eq_true h16) hm
         refine g_region ?_
         refine g_val rfl rfl rfl (fun w _ => v_fieldAddr 0 (Try.runUnderlying159 w) rfl (Try.sizeOf3 w) rfl) ?_
         refine g_val rfl rfl rfl (fun w hh => v_load (Try.isAgg3 w) rfl (hh.cell 0 rfl rfl)) ?_
         refine g_val rfl rfl rfl (fun _ _ => v_assign rfl) ?_
         refine g_nil ?_
         obtain rfl := Option.some.inj hm
         exact g_leaf () (trivial) ((.cons rfl (.cons rfl (.cons rfl (.cons rfl (.cons rfl (.cons rfl (.cons rfl (.cons rfl (.cons rfl (.cons rfl (.cons rfl .nil)))))))))))) (fun w hh => hh)
        ·replace hm := ifF (of_decide_eq_false h16) hm
         refine g_skip ?_
         obtain rfl := Option.some.inj hm
         exact g_leaf () (trivial) ((.cons rfl (.cons rfl (.cons rfl (.cons rfl (.cons rfl (.cons rfl (.cons rfl (.cons rfl (.cons rfl (.cons rfl (.cons rfl .nil)))))))))))) (fun w hh => hh)
       ·intro l_4 hj
        replace hm := h15
        refine g_n_then ?_
        refine g_seq ?_
        refine g_seq ?_
        obtain ⟨o_4, h17, h18⟩ := bindO hm
        refine g_cut (ι := Unit) (fun l_5 => True) (fun l_5 => [(1, .int .i64 at1), (2, .slice qa3 na3 ca3), (3, .int .i64 crest3), (4, .int .i64 to4), (5, .slice qa4 na4 ca4), (6, .slice qa5 na5 ca5), (7, ptr b 0), (15, .int .i64 s.out15), (16, .int .i64 s.i16), (17, ptr b_1 0), (18, .int .i64 o_3), (64, .bool o_4)]) (fun l_5 => [(b_1, .cells #[.int .i64 t34.a, .int .i64 t34.b, .int .i64 t34.h] 159 (0, 0)), (b, .cells #[.slice qa0 na0 ca0, .int .i64 s0.wind.lo, .int .i64 s0.wind.hi, .slice qa1 na1 ca1, .slice qa2 na2 ca2] 59 (0, 0))]) (fun l_5 => []) ?_ ?_
        ·replace hm := h17
         refine g_region ?_
         refine g_val rfl rfl rfl (fun _ _ => v_move rfl) ?_
         refine g_val rfl rfl rfl (fun _ _ => v_lss rfl rfl) ?_
         refine g_val rfl rfl rfl (fun _ _ => v_move rfl) ?_
         refine g_case 50 rfl (fun h19 => ?_) (fun h19 => ?_)
         ·replace hm := ifT (of_decide_eq_true h19) hm
          refine g_skipG rfl rfl rfl rfl rfl rfl ?_
          refine g_skipG rfl rfl rfl rfl rfl rfl ?_
          refine g_skipG rfl rfl rfl rfl rfl rfl ?_
          refine g_val rfl rfl rfl (fun _ _ => v_pickT rfl rfl) ?_
          refine g_val rfl rfl rfl (fun _ _ => v_move rfl) ?_
          refine g_skipG rfl rfl rfl rfl rfl rfl ?_
          refine g_skipG rfl rfl rfl rfl rfl rfl ?_
          refine g_skipG rfl rfl rfl rfl rfl rfl ?_
          refine g_val rfl rfl rfl (fun _ _ => v_pickT rfl rfl) ?_
          refine g_val rfl rfl rfl (fun _ _ => v_move rfl) ?_
          refine g_skipG rfl rfl rfl rfl rfl rfl ?_
          refine g_skipG rfl rfl rfl rfl rfl rfl ?_
          refine g_skipG rfl rfl rfl rfl rfl rfl ?_
          refine g_val rfl rfl rfl (fun _ _ => v_pickT rfl rfl) ?_
          refine g_nil ?_
          obtain rfl := Option.some.inj hm
          exact g_leaf () (trivial) ((.cons rfl (.cons rfl (.cons rfl (.cons rfl (.cons rfl (.cons rfl (.cons rfl (.cons rfl (.cons rfl (.cons rfl (.cons rfl (.cons rfl .nil))))))))))))) (fun w hh => hh)
         ·replace hm := ifF (of_decide_eq_false h19) hm
          refine v_unguard rfl rfl ?_
          refine g_val rfl rfl rfl (fun _ _ => v_move rfl) ?_
          refine v_unguard rfl rfl ?_
          refine g_val rfl rfl rfl (fun _ _ => v_move rfl) ?_
          refine v_unguard rfl rfl ?_
          obtain ⟨t53, h20, hm⟩ := bindO hm
          refine g_callH [] [] rfl rfl rfl rfl rfl rfl rfl (fun a w => Try.call136 a w) (fun w hh => c_laurelref01_has met2 o_3 qa3 na3 ca3 w (HV.callee (S0 := []) (vs0 := []) hh (roC (hh.rsep (S0 := []) (vs0 := []) 3 rfl) roN)) hna3 hqa3 hla3 h20) (fun l_6 h21 => ?_)
          refine g_val rfl rfl rfl (fun _ _ => v_pickF rfl rfl) ?_
          refine g_val rfl rfl rfl (fun _ _ => v_move rfl) ?_
          refine g_case 55 rfl (fun h22 => ?_) (fun h22 => ?_)
          ·replace hm := ifT (h22) hm
           refine g_skipG rfl rfl rfl rfl rfl rfl ?_
           refine g_skipG rfl rfl rfl rfl rfl rfl ?_
           refine g_skipG rfl rfl rfl rfl rfl rfl ?_
           refine g_val rfl rfl rfl (fun _ _ => v_pickT rfl rfl) ?_
           refine g_val rfl rfl rfl (fun _ _ => v_move rfl) ?_
           refine g_skipG rfl rfl rfl rfl rfl rfl ?_
           refine g_skipG rfl rfl rfl rfl rfl rfl ?_
           refine g_skipG rfl rfl rfl rfl rfl rfl ?_
           refine g_val rfl rfl rfl (fun _ _ => v_pickT rfl rfl) ?_
           refine g_nil ?_
           obtain rfl := Option.some.inj hm
           exact g_leaf () (trivial) ((.cons rfl (.cons rfl (.cons rfl (.cons rfl (.cons rfl (.cons rfl (.cons rfl (.cons rfl (.cons rfl (.cons rfl (.cons rfl (.cons rfl .nil))))))))))))) (fun w hh => hh)
          ·replace hm := ifF ((fun hh => Bool.noConfusion ((h22).symm.trans hh))) hm
           refine v_unguard rfl rfl ?_
           refine g_val rfl rfl rfl (fun _ _ => v_move rfl) ?_
           refine v_unguard rfl rfl ?_
           refine g_val rfl rfl rfl (fun _ _ => v_move rfl) ?_
           refine v_unguard rfl rfl ?_
           obtain ⟨t58, h23, hm⟩ := bindO hm
           refine g_callH [] [] rfl rfl rfl rfl rfl rfl rfl (fun a w => Try.call136 a w) (fun w hh => c_laurelref01_has sills5 s.i16 qa4 na4 ca4 w (HV.callee (S0 := []) (vs0 := []) hh (roC (hh.rsep (S0 := []) (vs0 := []) 4 rfl) roN)) hna4 hqa4 hla4 h23) (fun l_7 h24 => ?_)
           refine g_val rfl rfl rfl (fun _ _ => v_pickF rfl rfl) ?_
           refine g_val rfl rfl rfl (fun _ _ => v_move rfl) ?_
           refine g_case 60 rfl (fun h25 => ?_) (fun h25 => ?_)
           ·replace hm := ifT (h25) hm
            refine g_skipG rfl rfl rfl rfl rfl rfl ?_
            refine g_skipG rfl rfl rfl rfl rfl rfl ?_
            refine g_skipG rfl rfl rfl rfl rfl rfl ?_
            refine g_val rfl rfl rfl (fun _ _ => v_pickT rfl rfl) ?_
            refine g_nil ?_
            obtain rfl := Option.some.inj hm
            exact g_leaf () (trivial) ((.cons rfl (.cons rfl (.cons rfl (.cons rfl (.cons rfl (.cons rfl (.cons rfl (.cons rfl (.cons rfl (.cons rfl (.cons rfl (.cons rfl .nil))))))))))))) (fun w hh => hh)
           ·replace hm := ifF ((fun hh => Bool.noConfusion ((h25).symm.trans hh))) hm
            refine v_unguard rfl rfl ?_
            refine g_val rfl rfl rfl (fun _ _ => v_move rfl) ?_
            refine v_unguard rfl rfl ?_
            refine g_val rfl rfl rfl (fun _ _ => v_move rfl) ?_
            refine v_unguard rfl rfl ?_
            obtain ⟨t63, h26, hm⟩ := bindO hm
            refine g_callH [] [] rfl rfl rfl rfl rfl rfl rfl (fun a w => Try.call136 a w) (fun w hh => c_laurelref01_has places6 o_3 qa5 na5 ca5 w (HV.callee (S0 := []) (vs0 := []) hh (roC (hh.rsep (S0 := []) (vs0 := []) 5 rfl) roN)) hna5 hqa5 hla5 h26) (fun l_8 h27 => ?_)
            refine g_val rfl rfl rfl (fun _ _ => v_pickF rfl rfl) ?_
            refine g_nil ?_
            obtain rfl := Option.some.inj hm
            exact g_leaf () (trivial) ((.cons rfl (.cons rfl (.cons rfl (.cons rfl (.cons rfl (.cons rfl (.cons rfl (.cons rfl (.cons rfl (.cons rfl (.cons rfl (.cons rfl .nil))))))))))))) (fun w hh => hh)
        ·intro l_5 hj
         replace hm := h18
         refine g_n_then ?_
         refine g_cond rfl (fun h28 => ?_) (fun h28 => ?_)
         ·replace hm := ifT (h28) hm
          refine g_exit ?_
          refine g_x_then ?_
          refine g_x_blk ?_
          obtain rfl := Option.some.inj hm
          exact g_leaf () (trivial) ((.cons rfl (.cons rfl (.cons rfl (.cons rfl (.cons rfl (.cons rfl (.cons rfl (.cons rfl (.cons rfl .nil)))))))))) (fun w hh => hh.sel [1] [] 0 (by decide) (by decide) rfl rfl rfl)
         ·replace hm := ifF ((fun hh => Bool.noConfusion ((h28).symm.trans hh))) hm
          refine g_skip ?_
          refine g_n_then ?_
          refine g_seq ?_
          refine g_region ?_
          refine g_vlit0 RI (fun w => Try.runUnderlying26 w) (fun w => Try.sizeOf3 w) rfl rfl (fun L h29 => ?_)
          refine g_val rfl rfl rfl (fun _ _ => v_move rfl) ?_
          obtain ⟨t67, h30, hm⟩ := bindO hm
          refine g_vapp RI 0 h30 Try.underlying26 gxinf3 rfl rfl rfl rfl rfl h29 rfl rfl hna3 hqa3 (fun w hh => (hh.seg 3 rfl)) rfl (fun L_1 h31 h31n => ?_)
          refine g_sel (S' := [_, _]) (vs' := [_]) [0, 1] [0] 0 (by decide) (by decide) rfl rfl rfl ?_
          refine g_val rfl rfl rfl (fun _ _ => v_move rfl) ?_
          refine g_vlit RI [o_3] (ps := [(0, _)]) (cells := [_]) (fun w => Try.runUnderlying26 w) (fun w => Try.sizeOf3 w) (fun w => Try.zeroValue3 w) rfl rfl rfl rfl rfl rfl rfl rfl (fun L_2 h32 => ?_)
          obtain ⟨t70, h33, hm⟩ := bindO hm
          refine g_vapp RI 1 h33 Try.underlying26 gxinf3 rfl rfl rfl rfl rfl h31 rfl rfl (vlen RI h32 rfl) (AOK.q (vne h32)) (fun w hh => (hh.vsegA 0 rfl h32)) rfl (fun L_3 h34 h34n => ?_)
          refine g_sel (S' := [_, _]) (vs' := [_, _]) [0, 1] [0, 1] 0 (by decide) (by decide) rfl rfl rfl ?_
          refine g_val rfl rfl rfl (fun _ _ => v_assign rfl) ?_
          refine g_nil ?_
          refine g_n_then ?_
          refine g_draw none (.free 0 (.hoist 1 (.free 2 (.free 3 (.free 4 (.free 5 (.hoist 6 (.free 7 (.hoist 8 (.free 9 (.free 10 (.hoist 11 (.free 12 (.free 13 (.free 14 (.free 15 (.one 16 (.free 17 (.free 18 .done))))))))))))))))))) _ rfl (by decide +kernel) (fun w k hh => hh.draw k) (fun w hh => hh) ?_
          refine p_free rfl rfl rfl rfl (fun _ _ => v_move rfl) ?_
          refine p_hoist rfl rfl rfl rfl (fun w hh => v_loadAgg (vs := [_, _, _, _, _]) (Try.isAgg59 w) (Try.sizeOf59 w) rfl (hh.cells 1 rfl rfl)) ?_
          refine p_free rfl rfl rfl rfl (fun _ _ => v_move rfl) ?_
          refine p_free rfl rfl rfl rfl (fun _ _ => v_move rfl) ?_
          refine p_free rfl rfl rfl rfl (fun _ _ => v_move rfl) ?_
          refine p_free rfl rfl rfl rfl (fun w _ => v_fieldAddr 2 (Try.runUnderlying159 w) rfl (Try.sizeOf3 w) rfl) ?_
          refine p_hoist rfl rfl rfl rfl (fun w hh => v_load (Try.isAgg3 w) rfl (hh.cell 0 rfl rfl)) ?_
          refine p_free rfl rfl rfl rfl (fun w _ => v_fieldAddr 3 (Try.runUnderlying59 w) rfl (Try.sizeOf26 w) rfl) ?_
          refine p_hoist rfl rfl rfl rfl (fun w hh => v_load (Try.isAgg26 w) rfl (hh.cell 1 rfl rfl)) ?_
          refine p_free rfl rfl rfl rfl (fun _ _ => v_move rfl) ?_
          obtain ⟨t81, h35, hm⟩ := bindO hm
          refine p_free rfl rfl rfl rfl (fun w _ => v_ixR h35 (Try.runUnderlying26 w) (Try.sizeOf3 w) rfl rfl hna1 hqa1) ?_
          refine p_hoist rfl rfl rfl rfl (fun w hh => v_ldE RI 0 h35 (Try.isAgg3 w) rfl (hh.seg 1 rfl) rfl (Nat.add_zero _).symm) ?_
          refine p_free rfl rfl rfl rfl (fun _ _ => v_max3 rfl rfl rfl) ?_
          refine p_free rfl rfl rfl rfl (fun _ _ => v_move rfl) ?_
          refine p_free rfl rfl rfl rfl (fun _ _ => v_move rfl) ?_
          refine p_free rfl rfl rfl rfl (fun _ _ => v_move rfl) ?_
          refine p_one rfl ?_
          obtain ⟨t87, h36, hm⟩ := bindO hm
          refine g_callH [] [] rfl rfl rfl rfl rfl rfl rfl (fun a w => Try.call138 a w) (fun w hh => ih s0 o_3 t70 (max (max crest3 t34.h) t81) to4 sills5 places6 qa0 na0 ca0 qa1 na1 ca1 qa2 na2 ca2 (qA L_3.q) L_3.n L_3.cap qa4 na4 ca4 qa5 na5 ca5 w (HV.callee (S0 := []) (vs0 := []) hh (roC (hh.rsep (S0 := []) (vs0 := []) 0 rfl) (roC (hh.rsep (S0 := []) (vs0 := []) 1 rfl) (roC (hh.rsep (S0 := []) (vs0 := []) 2 rfl) (roC (hh.vsepA (S0 := []) (vs0 := []) 1 rfl h34) (roC (hh.rsep (S0 := []) (vs0 := []) 4 rfl) (roC (hh.rsep (S0 := []) (vs0 := []) 5 rfl) roN))))))) hna0 hqa0 hla0 hna1 hqa1 hla1 hna2 hqa2 hla2 (vlen RI h34 rfl) (AOK.q (vne h34)) (h34).hle hna4 hqa4 hla4 hna5 hqa5 hla5 h36) (fun l_9 h37 => ?_)
          refine p_next (fun w hh => hh) ?_
          refine p_free rfl rfl rfl rfl (fun _ _ => v_min rfl rfl) ?_
          refine p_free rfl rfl rfl rfl (fun _ _ => v_assign rfl) ?_
          refine p_done ?_
          refine g_n_blk ?_
          obtain rfl := Option.some.inj hm
          exact g_leaf () (trivial) ((.cons rfl (.cons rfl (.cons rfl (.cons rfl (.cons rfl (.cons rfl (.cons rfl (.cons rfl (.cons rfl .nil)))))))))) (fun w hh => hh.sel [1] [] 0 (by decide) (by decide) rfl rfl rfl)
     ·intro l_2 hj
      replace hm := h8
      refine g_n_then ?_
      refine g_region ?_
      refine g_val rfl rfl rfl (fun _ _ => v_move rfl) ?_
      obtain ⟨t30, h38, hm⟩ := bindO hm
      refine g_val rfl rfl rfl (fun _ _ => v_addc h38 rfl rfl) ?_
      refine g_val rfl rfl rfl (fun _ _ => v_assign rfl) ?_
      refine g_nil ?_
      obtain rfl := Option.some.inj hm
      refine g_n_then ?_
      exact g_again' _ () rfl (trivial) ((.cons rfl (.cons rfl (.cons rfl (.cons rfl (.cons rfl (.cons rfl (.cons rfl (.cons rfl (.cons rfl .nil)))))))))) (fun w hh => hh)
    ·replace hm := ifF (of_decide_eq_false h6) hm
     refine g_exit ?_
     refine g_x_then ?_
     refine g_x_then ?_
     refine g_x_blk ?_
     obtain rfl := Option.some.inj hm
     have hbo := h5 _ rfl
     subst hbo
     exact g_leaf () (trivial) ((.cons rfl .nil)) (fun w hh => hh)
   ·intro l hj
    replace hm := h4
    refine g_n_then ?_
    refine g_seq ?_
    refine g_region ?_
    refine g_val rfl rfl rfl (fun _ _ => v_move rfl) ?_
    refine g_val rfl rfl rfl (fun _ _ => v_assign rfl) ?_
    refine g_nil ?_
    refine g_n_then ?_
    refine g_ret ?_
    obtain rfl := Option.some.inj hm
    refine g_done rfl (fun w hh => (.tmp rfl .nil)) (fun w hh => ⟨(), rfl, trivial, hh.sel [] [] 6 (by decide) (by decide) rfl rfl rfl⟩)
def m_laurelref01_Gate (s0 : Sands) (place1 : Int) : Option Int :=
 (m_laurelref01_least FU s0 (-1) [] 0 place1 [] []).bind fun t7 =>
 some t7
set_option maxRecDepth 100000 in
set_option maxHeartbeats 4000000 in
theorem c_laurelref01_Gate (s0 : Sands) (place1 : Int) (qa0 : Option Addr) (na0 ca0 : Nat) (qa1 : Option Addr) (na1 ca1 : Nat) (qa2 : Option Addr) (na2 ca2 : Nat) (w : World) (hw : HV w (keys [] []) [] [] [(aB qa0, aO qa0, RW.enc s0.table), (aB qa1, aO qa1, RI.enc s0.floors), (aB qa2, aO qa2, RS.enc s0.sills)] w) (hna0 : s0.table.length = na0) (hqa0 : AOK na0 qa0) (hla0 : na0 ≤ ca0) (hna1 : s0.floors.length = na1) (hqa1 : AOK na1 qa1) (hla1 : na1 ≤ ca1) (hna2 : s0.sills.length = na2) (hqa2 : AOK na2 qa2) (hla2 : na2 ≤ ca2) {res : Int} (hm : m_laurelref01_Gate s0 place1 = some res) :
    Calls Try.prog 117 #[.agg #[.slice qa0 na0 ca0, .int .i64 s0.wind.lo, .int .i64 s0.wind.hi, .slice qa1 na1 ca1, .slice qa2 na2 ca2], .int .i64 place1] w (fun en w' => ∃ l : Unit, en = .returned (.int .i64 res) ∧ (True) ∧ HV w (keys [] []) [] [] [] w') := by
  unfold m_laurelref01_Gate at hm
  refine g_enter (args := [.agg #[.slice qa0 na0 ca0, .int .i64 s0.wind.lo, .int .i64 s0.wind.hi, .slice qa1 na1 ca1, .slice qa2 na2 ca2], .int .i64 place1]) Try.func117 rfl Try.ntmps117 rfl (e := [(0, _), (1, _)]) rfl (H := HV w (keys [] []) [] [] [(aB qa0, aO qa0, RW.enc s0.table), (aB qa1, aO qa1, RI.enc s0.floors), (aB qa2, aO qa2, RS.enc s0.sills)]) hw ?_
  refine g_seq ?_
  refine g_region ?_
  refine g_boxV rfl rfl (fun b h1 => ?_)
  refine g_val rfl rfl rfl (fun _ _ => v_assign rfl) ?_
  refine g_nil ?_
  refine g_n_then ?_
  refine g_seq ?_
  refine g_region ?_
  refine g_val rfl rfl rfl (fun w hh => v_loadAgg (vs := [_, _, _, _, _]) (Try.isAgg59 w) (Try.sizeOf59 w) rfl (hh.cells 0 rfl rfl)) ?_
  refine g_val rfl rfl rfl (fun _ _ => v_move rfl) ?_
  obtain ⟨t7, h2, hm⟩ := bindO hm
  refine g_callH [] [] rfl rfl rfl rfl rfl rfl rfl (fun a w => Try.call138 a w) (fun w hh => c_laurelref01_least FU s0 (-1) [] 0 place1 [] [] qa0 na0 ca0 qa1 na1 ca1 qa2 na2 ca2 none 0 0 none 0 0 none 0 0 w (HV.callee (S0 := []) (vs0 := []) hh (roC (hh.rsep (S0 := []) (vs0 := []) 0 rfl) (roC (hh.rsep (S0 := []) (vs0 := []) 1 rfl) (roC (hh.rsep (S0 := []) (vs0 := []) 2 rfl) (roC ⟨segOK.nil, fun hx => absurd rfl hx⟩ (roC ⟨segOK.nil, fun hx => absurd rfl hx⟩ (roC ⟨segOK.nil, fun hx => absurd rfl hx⟩ roN))))))) hna0 hqa0 hla0 hna1 hqa1 hla1 hna2 hqa2 hla2 rfl AOK.nil (Nat.le_refl 0) rfl AOK.nil (Nat.le_refl 0) rfl AOK.nil (Nat.le_refl 0) h2) (fun l h3 => ?_)
  refine g_val rfl rfl rfl (fun _ _ => v_assign rfl) ?_
  refine g_nil ?_
  refine g_n_then ?_
  refine g_ret ?_
  obtain rfl := Option.some.inj hm
  refine g_done rfl (fun w hh => (.tmp rfl .nil)) (fun w hh => ⟨(), rfl, trivial, hh.sel [] [] 3 (by decide) (by decide) rfl rfl rfl⟩)
structure m_laurelref01_Gates_S0 where
  p4 : Int
  out3 : (List Int)
def m_laurelref01_Gates_L0 (s0 : Sands) (s : m_laurelref01_Gates_S0) : Option (m_laurelref01_Gates_S0 ⊕ (List Int)) :=
 if s.p4 < (s0.floors.length : Int) then
 ((m_laurelref01_Gate s0 s.p4).bind fun t15 =>
 (appc 8 s.out3 [t15]).bind fun t17 =>
 (addc s.p4 1).bind fun t11 =>
 some (.inl (⟨t11, t17⟩ : m_laurelref01_Gates_S0))) else
 (some (.inr s.out3))
def m_laurelref01_Gates (s0 : Sands) : Option (List Int) :=
 (iterM FU (m_laurelref01_Gates_L0 s0) (⟨0, []⟩ : m_laurelref01_Gates_S0)).bind fun o =>
 some o
set_option maxRecDepth 100000 in
set_option maxHeartbeats 4000000 in
theorem c_laurelref01_Gates (s0 : Sands) (qa0 : Option Addr) (na0 ca0 : Nat) (qa1 : Option Addr) (na1 ca1 : Nat) (qa2 : Option Addr) (na2 ca2 : Nat) (w : World) (hw : HV w (keys [] []) [] [] [(aB qa0, aO qa0, RW.enc s0.table), (aB qa1, aO qa1, RI.enc s0.floors), (aB qa2, aO qa2, RS.enc s0.sills)] w) (hna0 : s0.table.length = na0) (hqa0 : AOK na0 qa0) (hla0 : na0 ≤ ca0) (hna1 : s0.floors.length = na1) (hqa1 : AOK na1 qa1) (hla1 : na1 ≤ ca1) (hna2 : s0.sills.length = na2) (hqa2 : AOK na2 qa2) (hla2 : na2 ≤ ca2) {res : (List Int)} (hm : m_laurelref01_Gates s0 = some res) :
    Calls Try.prog 43 #[.agg #[.slice qa0 na0 ca0, .int .i64 s0.wind.lo, .int .i64 s0.wind.hi, .slice qa1 na1 ca1, .slice qa2 na2 ca2]] w (fun en w' => ∃ l : VL, en = .returned (slv l.q l.n l.cap) ∧ (VOK 1 l.n l.cap (RI.enc res) l.sp l.q) ∧ HV w (keys [] []) [] [⟨3, RI.enc res, l.sp, l.q⟩] [] w') := by
  unfold m_laurelref01_Gates at hm
  refine g_enter (args := [.agg #[.slice qa0 na0 ca0, .int .i64 s0.wind.lo, .int .i64 s0.wind.hi, .slice qa1 na1 ca1, .slice qa2 na2 ca2]]) Try.func43 rfl Try.ntmps43 rfl (e := [(0, _)]) rfl (H := HV w (keys [] []) [] [] [(aB qa0, aO qa0, RW.enc s0.table), (aB qa1, aO qa1, RI.enc s0.floors), (aB qa2, aO qa2, RS.enc s0.sills)]) hw ?_
  refine g_seq ?_
  refine g_region ?_
  refine g_boxV rfl rfl (fun b h2 => ?_)
  refine g_val rfl rfl rfl (fun _ _ => v_nilS rfl) ?_
  refine g_nil ?_
  refine g_n_then ?_
  refine g_seq ?_
  refine g_region ?_
  refine g_val rfl rfl rfl (fun _ _ => v_nilS rfl) ?_
  refine g_nil ?_
  refine g_n_then ?_
  refine g_seq ?_
  refine g_seq ?_
  refine g_region ?_
  refine g_val rfl rfl rfl (fun _ _ => v_assign rfl) ?_
  refine g_nil ?_
  refine g_n_then ?_
  refine g_vnil 3 ?_
  obtain ⟨o, h3, h4⟩ := bindO hm
  refine g_cut (ι := VL) (fun l => VOK 1 l.n l.cap (RI.enc o) l.sp l.q) (fun l => [(3, slv l.q l.n l.cap)]) (fun l => [(b, .cells #[.slice qa0 na0 ca0, .int .i64 s0.wind.lo, .int .i64 s0.wind.hi, .slice qa1 na1 ca1, .slice qa2 na2 ca2] 59 (0, 0))]) (fun l => [⟨3, RI.enc o, l.sp, l.q⟩]) ?_ ?_
  ·replace hm := h3
   refine g_block ?_
   refine g_loopF (ι := VL) hm (fun s l_1 => VOK 1 l_1.n l_1.cap (RI.enc s.out3) l_1.sp l_1.q) (fun s l_1 => [(1, ptr b 0), (3, slv l_1.q l_1.n l_1.cap), (4, .int .i64 s.p4)]) (fun s l_1 => [(b, .cells #[.slice qa0 na0 ca0, .int .i64 s0.wind.lo, .int .i64 s0.wind.hi, .slice qa1 na1 ca1, .slice qa2 na2 ca2] 59 (0, 0))]) (fun s l_1 => [⟨3, RI.enc s.out3, l_1.sp, l_1.q⟩]) ⟨none, 0, 0, []⟩ (VOK.nil) ((.cons rfl (.cons rfl (.cons rfl .nil)))) (fun w hh => hh) (fun s l_1 r hpl hm h7 => ?_)
   have h6 := hpl
   unfold m_laurelref01_Gates_L0 at hm
   refine g_seq ?_
   refine g_seq ?_
   refine g_region ?_
   refine g_val rfl rfl rfl (fun _ _ => v_move rfl) ?_
   refine g_val rfl rfl rfl (fun w _ => v_fieldAddr 3 (Try.runUnderlying59 w) rfl (Try.sizeOf26 w) rfl) ?_
   refine g_val rfl rfl rfl (fun w hh => v_load (Try.isAgg26 w) rfl (hh.cell 0 rfl rfl)) ?_
   refine g_val rfl rfl rfl (fun w _ => v_lenR hna1 (Try.runUnderlying26 w) rfl) ?_
   refine g_val rfl rfl rfl (fun _ _ => v_lss rfl rfl) ?_
   refine g_nil ?_
   refine g_n_then ?_
   refine g_cond rfl (fun h8 => ?_) (fun h8 => ?_)
   ·replace hm := ifT (of_decide_eq_true h8) hm
    refine g_skip ?_
    refine g_n_then ?_
    refine g_seq ?_
    refine g_block ?_
    refine g_region ?_
    refine g_val rfl rfl rfl (fun _ _ => v_move rfl) ?_
    refine g_val rfl rfl rfl (fun w hh => v_loadAgg (vs := [_, _, _, _, _]) (Try.isAgg59 w) (Try.sizeOf59 w) rfl (hh.cells 0 rfl rfl)) ?_
    refine g_val rfl rfl rfl (fun _ _ => v_move rfl) ?_
    obtain ⟨t15, h9, hm⟩ := bindO hm
    refine g_callH [] [] rfl rfl rfl rfl rfl rfl rfl (fun a w => Try.call117 a w) (fun w hh => c_laurelref01_Gate s0 s.p4 qa0 na0 ca0 qa1 na1 ca1 qa2 na2 ca2 w (HV.callee (S0 := []) (vs0 := []) hh (roC (hh.rsep (S0 := []) (vs0 := []) 0 rfl) (roC (hh.rsep (S0 := []) (vs0 := []) 1 rfl) (roC (hh.rsep (S0 := []) (vs0 := []) 2 rfl) roN)))) hna0 hqa0 hla0 hna1 hqa1 hla1 hna2 hqa2 hla2 h9) (fun l_2 h10 => ?_)
    refine g_vlit RI [t15] (ps := [(0, _)]) (cells := [_]) (fun w => Try.runUnderlying26 w) (fun w => Try.sizeOf3 w) (fun w => Try.zeroValue3 w) rfl rfl rfl rfl rfl rfl rfl rfl (fun L h11 => ?_)
    obtain ⟨t17, h12, hm⟩ := bindO hm
    refine g_vapp RI 1 h12 Try.underlying26 gxinf3 rfl rfl rfl rfl rfl h6 rfl rfl (vlen RI h11 rfl) (AOK.q (vne h11)) (fun w hh => (hh.vsegA 0 rfl h11)) rfl (fun L_1 h13 h13n => ?_)
    refine g_sel (S' := [_]) (vs' := [_, _]) [0] [0, 1] 0 (by decide) (by decide) rfl rfl rfl ?_
    refine g_val rfl rfl rfl (fun _ _ => v_assign rfl) ?_
    refine g_nil ?_
    refine g_n_blk ?_
    refine g_n_then ?_
    refine g_region ?_
    refine g_val rfl rfl rfl (fun _ _ => v_move rfl) ?_
    obtain ⟨t11, h14, hm⟩ := bindO hm
    refine g_val rfl rfl rfl (fun _ _ => v_addc h14 rfl rfl) ?_
    refine g_val rfl rfl rfl (fun _ _ => v_assign rfl) ?_
    refine g_nil ?_
    obtain rfl := Option.some.inj hm
    refine g_n_then ?_
    exact g_again' _ L_1 rfl (h13) ((.cons rfl (.cons rfl (.cons rfl .nil)))) (fun w hh => hh.sel [0] [1] 0 (by decide) (by decide) rfl rfl rfl)
   ·replace hm := ifF (of_decide_eq_false h8) hm
    refine g_exit ?_
    refine g_x_then ?_
    refine g_x_then ?_
    refine g_x_blk ?_
    obtain rfl := Option.some.inj hm
    have hbo := h7 _ rfl
    subst hbo
    exact g_leaf l_1 (h6) ((.cons rfl .nil)) (fun w hh => hh)
  ·intro l hj
   have h5 := hj
   replace hm := h4
   refine g_n_then ?_
   refine g_seq ?_
   refine g_region ?_
   refine g_val rfl rfl rfl (fun _ _ => v_move rfl) ?_
   refine g_val rfl rfl rfl (fun _ _ => v_assign rfl) ?_
   refine g_nil ?_
   refine g_n_then ?_
   refine g_ret ?_
   obtain rfl := Option.some.inj hm
   refine g_done rfl (fun w hh => (.tmp rfl .nil)) (fun w hh => ⟨l, rfl, h5, hh.sel [] [0] 3 (by decide) (by decide) rfl rfl rfl⟩)
def m_laurelref01_Place (s0 : Sands) (place1 : Int) : Option Int :=
 (subc (s0.floors.length : Int) 1).bind fun t9 =>
 (m_laurelref01_off place1 0 t9).bind fun t10 =>
 if t10 = true then
 (some 1) else
 (some 0)
set_option maxRecDepth 100000 in
set_option maxHeartbeats 4000000 in
theorem c_laurelref01_Place (s0 : Sands) (place1 : Int) (qa0 : Option Addr) (na0 ca0 : Nat) (qa1 : Option Addr) (na1 ca1 : Nat) (qa2 : Option Addr) (na2 ca2 : Nat) (w : World) (hw : HV w (keys [] []) [] [] [(aB qa0, aO qa0, RW.enc s0.table), (aB qa1, aO qa1, RI.enc s0.floors), (aB qa2, aO qa2, RS.enc s0.sills)] w) (hna0 : s0.table.length = na0) (hqa0 : AOK na0 qa0) (hla0 : na0 ≤ ca0) (hna1 : s0.floors.length = na1) (hqa1 : AOK na1 qa1) (hla1 : na1 ≤ ca1) (hna2 : s0.sills.length = na2) (hqa2 : AOK na2 qa2) (hla2 : na2 ≤ ca2) {res : Int} (hm : m_laurelref01_Place s0 place1 = some res) :
    Calls Try.prog 44 #[.agg #[.slice qa0 na0 ca0, .int .i64 s0.wind.lo, .int .i64 s0.wind.hi, .slice qa1 na1 ca1, .slice qa2 na2 ca2], .int .i64 place1] w (fun en w' => ∃ l : Unit, en = .returned (.int .i64 res) ∧ (True) ∧ HV w (keys [] []) [] [] [] w') := by
  unfold m_laurelref01_Place at hm
  refine g_enter (args := [.agg #[.slice qa0 na0 ca0, .int .i64 s0.wind.lo, .int .i64 s0.wind.hi, .slice qa1 na1 ca1, .slice qa2 na2 ca2], .int .i64 place1]) Try.func44 rfl Try.ntmps44 rfl (e := [(0, _), (1, _)]) rfl (H := HV w (keys [] []) [] [] [(aB qa0, aO qa0, RW.enc s0.table), (aB qa1, aO qa1, RI.enc s0.floors), (aB qa2, aO qa2, RS.enc s0.sills)]) hw ?_
  refine g_seq ?_
  refine g_region ?_
  refine g_boxV rfl rfl (fun b h1 => ?_)
  refine g_val rfl rfl rfl (fun _ _ => v_assign rfl) ?_
  refine g_nil ?_
  refine g_n_then ?_
  refine g_seq ?_
  refine g_seq ?_
  refine g_region ?_
  refine g_val rfl rfl rfl (fun _ _ => v_move rfl) ?_
  refine g_val rfl rfl rfl (fun w _ => v_fieldAddr 3 (Try.runUnderlying59 w) rfl (Try.sizeOf26 w) rfl) ?_
  refine g_val rfl rfl rfl (fun w hh => v_load (Try.isAgg26 w) rfl (hh.cell 0 rfl rfl)) ?_
  refine g_val rfl rfl rfl (fun w _ => v_lenR hna1 (Try.runUnderlying26 w) rfl) ?_
  obtain ⟨t9, h2, hm⟩ := bindO hm
  refine g_val rfl rfl rfl (fun _ _ => v_subc h2 rfl rfl) ?_
  obtain ⟨t10, h3, hm⟩ := bindO hm
  refine g_callH [] [] rfl rfl rfl rfl rfl rfl rfl (fun a w => Try.call107 a w) (fun w hh => c_laurelref01_off place1 0 t9 w (HV.callee (S0 := []) (vs0 := []) hh roN)  h3) (fun l h4 => ?_)
  refine g_nil ?_
  refine g_n_then ?_
  refine g_cond rfl (fun h5 => ?_) (fun h5 => ?_)
  ·replace hm := ifT (h5) hm
   refine g_seq ?_
   refine g_region ?_
   refine g_val rfl rfl rfl (fun _ _ => v_assign rfl) ?_
   refine g_nil ?_
   refine g_n_then ?_
   refine g_ret ?_
   refine g_r_then ?_
   obtain rfl := Option.some.inj hm
   refine g_done rfl (fun w hh => (.tmp rfl .nil)) (fun w hh => ⟨(), rfl, trivial, hh.sel [] [] 3 (by decide) (by decide) rfl rfl rfl⟩)
  ·replace hm := ifF ((fun hh => Bool.noConfusion ((h5).symm.trans hh))) hm
   refine g_skip ?_
   refine g_n_then ?_
   refine g_seq ?_
   refine g_region ?_
   refine g_val rfl rfl rfl (fun _ _ => v_assign rfl) ?_
   refine g_nil ?_
   refine g_n_then ?_
   refine g_ret ?_
   obtain rfl := Option.some.inj hm
   refine g_done rfl (fun w hh => (.tmp rfl .nil)) (fun w hh => ⟨(), rfl, trivial, hh.sel [] [] 3 (by decide) (by decide) rfl rfl rfl⟩)
structure m_laurelref01_State_C0 where
  dry7 : Int
  wet8 : Int
structure m_laurelref01_State_S0 where
  dry7 : Int
  wet8 : Int
  w9 : Int
structure m_laurelref01_State_C1 where
  dry7 : Int
  wet8 : Int
def m_laurelref01_State_L0 (s0 : Sands) (height1 : Int) (gate2 : Int) (s : m_laurelref01_State_S0) : Option (m_laurelref01_State_S0 ⊕ m_laurelref01_State_C0) :=
 if s.w9 ≤ s0.wind.hi then
 (((addc height1 s.w9).bind fun t22 =>
 if gate2 < t22 then
 ((addc s.wet8 1).bind fun t26 =>
 some (⟨s.dry7, t26⟩ : m_laurelref01_State_C1)) else
 ((addc s.dry7 1).bind fun t28 =>
 some (⟨t28, s.wet8⟩ : m_laurelref01_State_C1))).bind fun o_1 =>
 (addc s.w9 1).bind fun t19 =>
 some (.inl (⟨o_1.dry7, o_1.wet8, t19⟩ : m_laurelref01_State_S0))) else
 (some (.inr (⟨s.dry7, s.wet8⟩ : m_laurelref01_State_C0)))
def m_laurelref01_State (s0 : Sands) (height1 : Int) (gate2 : Int) : Option Int :=
 (iterM FU (m_laurelref01_State_L0 s0 height1 gate2) (⟨0, 0, s0.wind.lo⟩ : m_laurelref01_State_S0)).bind fun o =>
 if o.wet8 = 0 then
 (some 0) else
 (if o.dry7 = 0 then
 (some 2) else
 (some 1))
set_option maxRecDepth 100000 in
set_option maxHeartbeats 4000000 in
theorem c_laurelref01_State (s0 : Sands) (height1 : Int) (gate2 : Int) (qa0 : Option Addr) (na0 ca0 : Nat) (qa1 : Option Addr) (na1 ca1 : Nat) (qa2 : Option Addr) (na2 ca2 : Nat) (w : World) (hw : HV w (keys [] []) [] [] [(aB qa0, aO qa0, RW.enc s0.table), (aB qa1, aO qa1, RI.enc s0.floors), (aB qa2, aO qa2, RS.enc s0.sills)] w) (hna0 : s0.table.length = na0) (hqa0 : AOK na0 qa0) (hla0 : na0 ≤ ca0) (hna1 : s0.floors.length = na1) (hqa1 : AOK na1 qa1) (hla1 : na1 ≤ ca1) (hna2 : s0.sills.length = na2) (hqa2 : AOK na2 qa2) (hla2 : na2 ≤ ca2) {res : Int} (hm : m_laurelref01_State s0 height1 gate2 = some res) :
    Calls Try.prog 45 #[.agg #[.slice qa0 na0 ca0, .int .i64 s0.wind.lo, .int .i64 s0.wind.hi, .slice qa1 na1 ca1, .slice qa2 na2 ca2], .int .i64 height1, .int .i64 gate2] w (fun en w' => ∃ l : Unit, en = .returned (.int .i64 res) ∧ (True) ∧ HV w (keys [] []) [] [] [] w') := by
  unfold m_laurelref01_State at hm
  refine g_enter (args := [.agg #[.slice qa0 na0 ca0, .int .i64 s0.wind.lo, .int .i64 s0.wind.hi, .slice qa1 na1 ca1, .slice qa2 na2 ca2], .int .i64 height1, .int .i64 gate2]) Try.func45 rfl Try.ntmps45 rfl (e := [(0, _), (1, _), (2, _)]) rfl (H := HV w (keys [] []) [] [] [(aB qa0, aO qa0, RW.enc s0.table), (aB qa1, aO qa1, RI.enc s0.floors), (aB qa2, aO qa2, RS.enc s0.sills)]) hw ?_
  refine g_seq ?_
  refine g_region ?_
  refine g_boxV rfl rfl (fun b h1 => ?_)
  refine g_val rfl rfl rfl (fun _ _ => v_assign rfl) ?_
  refine g_nil ?_
  refine g_n_then ?_
  refine g_seq ?_
  refine g_region ?_
  refine g_val rfl rfl rfl (fun _ _ => v_assign rfl) ?_
  refine g_val rfl rfl rfl (fun _ _ => v_assign rfl) ?_
  refine g_nil ?_
  refine g_n_then ?_
  refine g_seq ?_
  refine g_seq ?_
  refine g_region ?_
  refine g_val rfl rfl rfl (fun w _ => v_fieldAddr 1 (Try.runUnderlying59 w) rfl (Try.sizeOf25 w) rfl) ?_
  refine g_val rfl rfl rfl (fun w _ => v_fieldAddr 0 (Try.runUnderlying25 w) rfl (Try.sizeOf3 w) rfl) ?_
  refine g_val rfl rfl rfl (fun w hh => v_load (Try.isAgg3 w) rfl (hh.cell 0 rfl rfl)) ?_
  refine g_val rfl rfl rfl (fun _ _ => v_assign rfl) ?_
  refine g_nil ?_
  refine g_n_then ?_
  obtain ⟨o, h2, h3⟩ := bindO hm
  refine g_cut (ι := Unit) (fun l => True) (fun l => [(7, .int .i64 o.dry7), (8, .int .i64 o.wet8)]) (fun l => [(b, .cells #[.slice qa0 na0 ca0, .int .i64 s0.wind.lo, .int .i64 s0.wind.hi, .slice qa1 na1 ca1, .slice qa2 na2 ca2] 59 (0, 0))]) (fun l => []) ?_ ?_
  ·replace hm := h2
   refine g_block ?_
   refine g_loopF (ι := Unit) hm (fun s l_1 => True) (fun s l_1 => [(1, .int .i64 height1), (2, .int .i64 gate2), (3, ptr b 0), (7, .int .i64 s.dry7), (8, .int .i64 s.wet8), (9, .int .i64 s.w9)]) (fun s l_1 => [(b, .cells #[.slice qa0 na0 ca0, .int .i64 s0.wind.lo, .int .i64 s0.wind.hi, .slice qa1 na1 ca1, .slice qa2 na2 ca2] 59 (0, 0))]) (fun s l_1 => []) () (trivial) ((.cons rfl (.cons rfl (.cons rfl (.cons rfl (.cons rfl (.cons rfl .nil))))))) (fun w hh => hh) (fun s l_1 r hpl hm h4 => ?_)
   unfold m_laurelref01_State_L0 at hm
   refine g_seq ?_
   refine g_seq ?_
   refine g_region ?_
   refine g_val rfl rfl rfl (fun _ _ => v_move rfl) ?_
   refine g_val rfl rfl rfl (fun w _ => v_fieldAddr 1 (Try.runUnderlying59 w) rfl (Try.sizeOf25 w) rfl) ?_
   refine g_val rfl rfl rfl (fun w _ => v_fieldAddr 1 (Try.runUnderlying25 w) rfl (Try.sizeOf3 w) rfl) ?_
   refine g_val rfl rfl rfl (fun w hh => v_load (Try.isAgg3 w) rfl (hh.cell 0 rfl rfl)) ?_
   refine g_val rfl rfl rfl (fun _ _ => v_leq rfl rfl) ?_
   refine g_nil ?_
   refine g_n_then ?_
   refine g_cond rfl (fun h5 => ?_) (fun h5 => ?_)
   ·replace hm := ifT (of_decide_eq_true h5) hm
    refine g_skip ?_
    refine g_n_then ?_
    refine g_seq ?_
    obtain ⟨o_1, h6, h7⟩ := bindO hm
    refine g_cut (ι := Unit) (fun l_2 => True) (fun l_2 => [(1, .int .i64 height1), (2, .int .i64 gate2), (3, ptr b 0), (7, .int .i64 o_1.dry7), (8, .int .i64 o_1.wet8), (9, .int .i64 s.w9)]) (fun l_2 => [(b, .cells #[.slice qa0 na0 ca0, .int .i64 s0.wind.lo, .int .i64 s0.wind.hi, .slice qa1 na1 ca1, .slice qa2 na2 ca2] 59 (0, 0))]) (fun l_2 => []) ?_ ?_
    ·replace hm := h6
     refine g_block ?_
     refine g_seq ?_
     refine g_region ?_
     refine g_val rfl rfl rfl (fun _ _ => v_move rfl) ?_
     refine g_val rfl rfl rfl (fun _ _ => v_move rfl) ?_
     obtain ⟨t22, h8, hm⟩ := bindO hm
     refine g_val rfl rfl rfl (fun _ _ => v_addc h8 rfl rfl) ?_
     refine g_val rfl rfl rfl (fun _ _ => v_move rfl) ?_
     refine g_val rfl rfl rfl (fun _ _ => v_gtr rfl rfl) ?_
     refine g_nil ?_
     refine g_n_then ?_
     refine g_cond rfl (fun h9 => ?_) (fun h9 => ?_)
     ·replace hm := ifT (of_decide_eq_true h9) hm
      refine g_region ?_
      refine g_val rfl rfl rfl (fun _ _ => v_move rfl) ?_
      obtain ⟨t26, h10, hm⟩ := bindO hm
      refine g_val rfl rfl rfl (fun _ _ => v_addc h10 rfl rfl) ?_
      refine g_val rfl rfl rfl (fun _ _ => v_assign rfl) ?_
      refine g_nil ?_
      refine g_n_blk ?_
      obtain rfl := Option.some.inj hm
      exact g_leaf () (trivial) ((.cons rfl (.cons rfl (.cons rfl (.cons rfl (.cons rfl (.cons rfl .nil))))))) (fun w hh => hh)
     ·replace hm := ifF (of_decide_eq_false h9) hm
      refine g_region ?_
      refine g_val rfl rfl rfl (fun _ _ => v_move rfl) ?_
      obtain ⟨t28, h11, hm⟩ := bindO hm
      refine g_val rfl rfl rfl (fun _ _ => v_addc h11 rfl rfl) ?_
      refine g_val rfl rfl rfl (fun _ _ => v_assign rfl) ?_
      refine g_nil ?_
      refine g_n_blk ?_
      obtain rfl := Option.some.inj hm
      exact g_leaf () (trivial) ((.cons rfl (.cons rfl (.cons rfl (.cons rfl (.cons rfl (.cons rfl .nil))))))) (fun w hh => hh)
    ·intro l_2 hj
     replace hm := h7
     refine g_n_then ?_
     refine g_region ?_
     refine g_val rfl rfl rfl (fun _ _ => v_move rfl) ?_
     obtain ⟨t19, h12, hm⟩ := bindO hm
     refine g_val rfl rfl rfl (fun _ _ => v_addc h12 rfl rfl) ?_
     refine g_val rfl rfl rfl (fun _ _ => v_assign rfl) ?_
     refine g_nil ?_
     obtain rfl := Option.some.inj hm
     refine g_n_then ?_
     exact g_again' _ () rfl (trivial) ((.cons rfl (.cons rfl (.cons rfl (.cons rfl (.cons rfl (.cons rfl .nil))))))) (fun w hh => hh)
   ·replace hm := ifF (of_decide_eq_false h5) hm
    refine g_exit ?_
    refine g_x_then ?_
    refine g_x_then ?_
    refine g_x_blk ?_
    obtain rfl := Option.some.inj hm
    have hbo := h4 _ rfl
    subst hbo
    exact g_leaf () (trivial) ((.cons rfl (.cons rfl .nil))) (fun w hh => hh)
  ·intro l hj
   replace hm := h3
   refine g_n_then ?_
   refine g_seq ?_
   refine g_seq ?_
   refine g_region ?_
   refine g_val rfl rfl rfl (fun _ _ => v_move rfl) ?_
   refine g_val rfl rfl rfl (fun _ _ => v_eql rfl rfl) ?_
   refine g_nil ?_
   refine g_n_then ?_
   refine g_cond rfl (fun h13 => ?_) (fun h13 => ?_)
   ·replace hm := ifT (of_decide_eq_true h13) hm
    refine g_seq ?_
    refine g_region ?_
    refine g_val rfl rfl rfl (fun _ _ => v_assign rfl) ?_
    refine g_nil ?_
    refine g_n_then ?_
    refine g_ret ?_
    refine g_r_then ?_
    obtain rfl := Option.some.inj hm
    refine g_done rfl (fun w hh => (.tmp rfl .nil)) (fun w hh => ⟨(), rfl, trivial, hh.sel [] [] 3 (by decide) (by decide) rfl rfl rfl⟩)
   ·replace hm := ifF (of_decide_eq_false h13) hm
    refine g_skip ?_
    refine g_n_then ?_
    refine g_seq ?_
    refine g_seq ?_
    refine g_region ?_
    refine g_val rfl rfl rfl (fun _ _ => v_move rfl) ?_
    refine g_val rfl rfl rfl (fun _ _ => v_eql rfl rfl) ?_
    refine g_nil ?_
    refine g_n_then ?_
    refine g_cond rfl (fun h14 => ?_) (fun h14 => ?_)
    ·replace hm := ifT (of_decide_eq_true h14) hm
     refine g_seq ?_
     refine g_region ?_
     refine g_val rfl rfl rfl (fun _ _ => v_assign rfl) ?_
     refine g_nil ?_
     refine g_n_then ?_
     refine g_ret ?_
     refine g_r_then ?_
     obtain rfl := Option.some.inj hm
     refine g_done rfl (fun w hh => (.tmp rfl .nil)) (fun w hh => ⟨(), rfl, trivial, hh.sel [] [] 3 (by decide) (by decide) rfl rfl rfl⟩)
    ·replace hm := ifF (of_decide_eq_false h14) hm
     refine g_skip ?_
     refine g_n_then ?_
     refine g_seq ?_
     refine g_region ?_
     refine g_val rfl rfl rfl (fun _ _ => v_assign rfl) ?_
     refine g_nil ?_
     refine g_n_then ?_
     refine g_ret ?_
     obtain rfl := Option.some.inj hm
     refine g_done rfl (fun w hh => (.tmp rfl .nil)) (fun w hh => ⟨(), rfl, trivial, hh.sel [] [] 3 (by decide) (by decide) rfl rfl rfl⟩)
structure m_laurelref01_Heights_S0 where
  minute4 : Int
  out3 : (List Int)
def m_laurelref01_Heights_L0 (s0 : Sands) (s : m_laurelref01_Heights_S0) : Option (m_laurelref01_Heights_S0 ⊕ (List Int)) :=
 (m_laurelref01_Last s0).bind fun t9 =>
 if s.minute4 ≤ t9 then
 ((m_laurelref01_Height s0 s.minute4).bind fun t16 =>
 (appc 8 s.out3 [t16]).bind fun t18 =>
 (addc s.minute4 1).bind fun t12 =>
 some (.inl (⟨t12, t18⟩ : m_laurelref01_Heights_S0))) else
 (some (.inr s.out3))
def m_laurelref01_Heights (s0 : Sands) : Option (List Int) :=
 (m_laurelref01_First s0).bind fun t6 =>
 (iterM FU (m_laurelref01_Heights_L0 s0) (⟨t6, []⟩ : m_laurelref01_Heights_S0)).bind fun o =>
 some o
set_option maxRecDepth 100000 in
set_option maxHeartbeats 4000000 in
theorem c_laurelref01_Heights (s0 : Sands) (qa0 : Option Addr) (na0 ca0 : Nat) (qa1 : Option Addr) (na1 ca1 : Nat) (qa2 : Option Addr) (na2 ca2 : Nat) (w : World) (hw : HV w (keys [] []) [] [] [(aB qa0, aO qa0, RW.enc s0.table), (aB qa1, aO qa1, RI.enc s0.floors), (aB qa2, aO qa2, RS.enc s0.sills)] w) (hna0 : s0.table.length = na0) (hqa0 : AOK na0 qa0) (hla0 : na0 ≤ ca0) (hna1 : s0.floors.length = na1) (hqa1 : AOK na1 qa1) (hla1 : na1 ≤ ca1) (hna2 : s0.sills.length = na2) (hqa2 : AOK na2 qa2) (hla2 : na2 ≤ ca2) {res : (List Int)} (hm : m_laurelref01_Heights s0 = some res) :
    Calls Try.prog 120 #[.agg #[.slice qa0 na0 ca0, .int .i64 s0.wind.lo, .int .i64 s0.wind.hi, .slice qa1 na1 ca1, .slice qa2 na2 ca2]] w (fun en w' => ∃ l : VL, en = .returned (slv l.q l.n l.cap) ∧ (VOK 1 l.n l.cap (RI.enc res) l.sp l.q) ∧ HV w (keys [] []) [] [⟨3, RI.enc res, l.sp, l.q⟩] [] w') := by
  unfold m_laurelref01_Heights at hm
  refine g_enter (args := [.agg #[.slice qa0 na0 ca0, .int .i64 s0.wind.lo, .int .i64 s0.wind.hi, .slice qa1 na1 ca1, .slice qa2 na2 ca2]]) Try.func120 rfl Try.ntmps120 rfl (e := [(0, _)]) rfl (H := HV w (keys [] []) [] [] [(aB qa0, aO qa0, RW.enc s0.table), (aB qa1, aO qa1, RI.enc s0.floors), (aB qa2, aO qa2, RS.enc s0.sills)]) hw ?_
  refine g_seq ?_
  refine g_region ?_
  refine g_boxV rfl rfl (fun b h2 => ?_)
  refine g_val rfl rfl rfl (fun _ _ => v_nilS rfl) ?_
  refine g_nil ?_
  refine g_n_then ?_
  refine g_seq ?_
  refine g_region ?_
  refine g_val rfl rfl rfl (fun _ _ => v_nilS rfl) ?_
  refine g_nil ?_
  refine g_n_then ?_
  refine g_seq ?_
  refine g_seq ?_
  refine g_region ?_
  refine g_val rfl rfl rfl (fun w hh => v_loadAgg (vs := [_, _, _, _, _]) (Try.isAgg59 w) (Try.sizeOf59 w) rfl (hh.cells 0 rfl rfl)) ?_
  obtain ⟨t6, h3, hm⟩ := bindO hm
  refine g_callH [] [] rfl rfl rfl rfl rfl rfl rfl (fun a w => Try.call108 a w) (fun w hh => c_laurelref01_First s0 qa0 na0 ca0 qa1 na1 ca1 qa2 na2 ca2 w (HV.callee (S0 := []) (vs0 := []) hh (roC (hh.rsep (S0 := []) (vs0 := []) 0 rfl) (roC (hh.rsep (S0 := []) (vs0 := []) 1 rfl) (roC (hh.rsep (S0 := []) (vs0 := []) 2 rfl) roN)))) hna0 hqa0 hla0 hna1 hqa1 hla1 hna2 hqa2 hla2 h3) (fun l h4 => ?_)
  refine g_val rfl rfl rfl (fun _ _ => v_assign rfl) ?_
  refine g_nil ?_
  refine g_n_then ?_
  refine g_vnil 3 ?_
  obtain ⟨o, h5, h6⟩ := bindO hm
  refine g_cut (ι := VL) (fun l_1 => VOK 1 l_1.n l_1.cap (RI.enc o) l_1.sp l_1.q) (fun l_1 => [(3, slv l_1.q l_1.n l_1.cap)]) (fun l_1 => [(b, .cells #[.slice qa0 na0 ca0, .int .i64 s0.wind.lo, .int .i64 s0.wind.hi, .slice qa1 na1 ca1, .slice qa2 na2 ca2] 59 (0, 0))]) (fun l_1 => [⟨3, RI.enc o, l_1.sp, l_1.q⟩]) ?_ ?_
  ·replace hm := h5
   refine g_block ?_
   refine g_loopF (ι := VL) hm (fun s l_2 => VOK 1 l_2.n l_2.cap (RI.enc s.out3) l_2.sp l_2.q) (fun s l_2 => [(1, ptr b 0), (3, slv l_2.q l_2.n l_2.cap), (4, .int .i64 s.minute4)]) (fun s l_2 => [(b, .cells #[.slice qa0 na0 ca0, .int .i64 s0.wind.lo, .int .i64 s0.wind.hi, .slice qa1 na1 ca1, .slice qa2 na2 ca2] 59 (0, 0))]) (fun s l_2 => [⟨3, RI.enc s.out3, l_2.sp, l_2.q⟩]) ⟨none, 0, 0, []⟩ (VOK.nil) ((.cons rfl (.cons rfl (.cons rfl .nil)))) (fun w hh => hh) (fun s l_2 r hpl hm h9 => ?_)
   have h8 := hpl
   unfold m_laurelref01_Heights_L0 at hm
   refine g_seq ?_
   refine g_seq ?_
   refine g_region ?_
   refine g_val rfl rfl rfl (fun _ _ => v_move rfl) ?_
   refine g_val rfl rfl rfl (fun w hh => v_loadAgg (vs := [_, _, _, _, _]) (Try.isAgg59 w) (Try.sizeOf59 w) rfl (hh.cells 0 rfl rfl)) ?_
   obtain ⟨t9, h10, hm⟩ := bindO hm
   refine g_callH [] [] rfl rfl rfl rfl rfl rfl rfl (fun a w => Try.call109 a w) (fun w hh => c_laurelref01_Last s0 qa0 na0 ca0 qa1 na1 ca1 qa2 na2 ca2 w (HV.callee (S0 := []) (vs0 := []) hh (roC (hh.rsep (S0 := []) (vs0 := []) 0 rfl) (roC (hh.rsep (S0 := []) (vs0 := []) 1 rfl) (roC (hh.rsep (S0 := []) (vs0 := []) 2 rfl) roN)))) hna0 hqa0 hla0 hna1 hqa1 hla1 hna2 hqa2 hla2 h10) (fun l_3 h11 => ?_)
   refine g_val rfl rfl rfl (fun _ _ => v_leq rfl rfl) ?_
   refine g_nil ?_
   refine g_n_then ?_
   refine g_cond rfl (fun h12 => ?_) (fun h12 => ?_)
   ·replace hm := ifT (of_decide_eq_true h12) hm
    refine g_skip ?_
    refine g_n_then ?_
    refine g_seq ?_
    refine g_block ?_
    refine g_region ?_
    refine g_val rfl rfl rfl (fun _ _ => v_move rfl) ?_
    refine g_val rfl rfl rfl (fun w hh => v_loadAgg (vs := [_, _, _, _, _]) (Try.isAgg59 w) (Try.sizeOf59 w) rfl (hh.cells 0 rfl rfl)) ?_
    refine g_val rfl rfl rfl (fun _ _ => v_move rfl) ?_
    obtain ⟨t16, h13, hm⟩ := bindO hm
    refine g_callH [] [] rfl rfl rfl rfl rfl rfl rfl (fun a w => Try.call35 a w) (fun w hh => c_laurelref01_Height s0 s.minute4 qa0 na0 ca0 qa1 na1 ca1 qa2 na2 ca2 w (HV.callee (S0 := []) (vs0 := []) hh (roC (hh.rsep (S0 := []) (vs0 := []) 0 rfl) (roC (hh.rsep (S0 := []) (vs0 := []) 1 rfl) (roC (hh.rsep (S0 := []) (vs0 := []) 2 rfl) roN)))) hna0 hqa0 hla0 hna1 hqa1 hla1 hna2 hqa2 hla2 h13) (fun l_4 h14 => ?_)
    refine g_vlit RI [t16] (ps := [(0, _)]) (cells := [_]) (fun w => Try.runUnderlying26 w) (fun w => Try.sizeOf3 w) (fun w => Try.zeroValue3 w) rfl rfl rfl rfl rfl rfl rfl rfl (fun L h15 => ?_)
    obtain ⟨t18, h16, hm⟩ := bindO hm
    refine g_vapp RI 1 h16 Try.underlying26 gxinf3 rfl rfl rfl rfl rfl h8 rfl rfl (vlen RI h15 rfl) (AOK.q (vne h15)) (fun w hh => (hh.vsegA 0 rfl h15)) rfl (fun L_1 h17 h17n => ?_)
    refine g_sel (S' := [_]) (vs' := [_, _]) [0] [0, 1] 0 (by decide) (by decide) rfl rfl rfl ?_
    refine g_val rfl rfl rfl (fun _ _ => v_assign rfl) ?_
    refine g_nil ?_
    refine g_n_blk ?_
    refine g_n_then ?_
    refine g_region ?_
    refine g_val rfl rfl rfl (fun _ _ => v_move rfl) ?_
    obtain ⟨t12, h18, hm⟩ := bindO hm
    refine g_val rfl rfl rfl (fun _ _ => v_addc h18 rfl rfl) ?_
    refine g_val rfl rfl rfl (fun _ _ => v_assign rfl) ?_
    refine g_nil ?_
    obtain rfl := Option.some.inj hm
    refine g_n_then ?_
    exact g_again' _ L_1 rfl (h17) ((.cons rfl (.cons rfl (.cons rfl .nil)))) (fun w hh => hh.sel [0] [1] 0 (by decide) (by decide) rfl rfl rfl)
   ·replace hm := ifF (of_decide_eq_false h12) hm
    refine g_exit ?_
    refine g_x_then ?_
    refine g_x_then ?_
    refine g_x_blk ?_
    obtain rfl := Option.some.inj hm
    have hbo := h9 _ rfl
    subst hbo
    exact g_leaf l_2 (h8) ((.cons rfl .nil)) (fun w hh => hh)
  ·intro l_1 hj
   have h7 := hj
   replace hm := h6
   refine g_n_then ?_
   refine g_seq ?_
   refine g_region ?_
   refine g_val rfl rfl rfl (fun _ _ => v_move rfl) ?_
   refine g_val rfl rfl rfl (fun _ _ => v_assign rfl) ?_
   refine g_nil ?_
   refine g_n_then ?_
   refine g_ret ?_
   obtain rfl := Option.some.inj hm
   refine g_done rfl (fun w hh => (.tmp rfl .nil)) (fun w hh => ⟨l_1, rfl, h7, hh.sel [] [0] 3 (by decide) (by decide) rfl rfl rfl⟩)
structure m_laurelref01_Says_S0 where
  i9 : Int
  out7 : (List Bool)
def m_laurelref01_Says_L0 (t11 : (List Int)) (s0 : Sands) (gate1 : Int) (state2 : Int) (s : m_laurelref01_Says_S0) : Option (m_laurelref01_Says_S0 ⊕ (List Bool)) :=
 if s.i9 < (t11.length : Int) then
 ((ix t11 s.i9).bind fun t22 =>
 (m_laurelref01_State s0 t22 gate1).bind fun t25 =>
 (appc 1 s.out7 [(decide (t25 = state2))]).bind fun t29 =>
 (addc s.i9 1).bind fun t17 =>
 some (.inl (⟨t17, t29⟩ : m_laurelref01_Says_S0))) else
 (some (.inr s.out7))
def m_laurelref01_Says (s0 : Sands) (gate1 : Int) (state2 : Int) : Option (List Bool) :=
 (m_laurelref01_Heights s0).bind fun t11 =>
 (iterM FU (m_laurelref01_Says_L0 t11 s0 gate1 state2) (⟨0, []⟩ : m_laurelref01_Says_S0)).bind fun o =>
 some o
set_option maxRecDepth 100000 in
set_option maxHeartbeats 4000000 in
theorem c_laurelref01_Says (s0 : Sands) (gate1 : Int) (state2 : Int) (qa0 : Option Addr) (na0 ca0 : Nat) (qa1 : Option Addr) (na1 ca1 : Nat) (qa2 : Option Addr) (na2 ca2 : Nat) (w : World) (hw : HV w (keys [] []) [] [] [(aB qa0, aO qa0, RW.enc s0.table), (aB qa1, aO qa1, RI.enc s0.floors), (aB qa2, aO qa2, RS.enc s0.sills)] w) (hna0 : s0.table.length = na0) (hqa0 : AOK na0 qa0) (hla0 : na0 ≤ ca0) (hna1 : s0.floors.length = na1) (hqa1 : AOK na1 qa1) (hla1 : na1 ≤ ca1) (hna2 : s0.sills.length = na2) (hqa2 : AOK na2 qa2) (hla2 : na2 ≤ ca2) {res : (List Bool)} (hm : m_laurelref01_Says s0 gate1 state2 = some res) :
    Calls Try.prog 49 #[.agg #[.slice qa0 na0 ca0, .int .i64 s0.wind.lo, .int .i64 s0.wind.hi, .slice qa1 na1 ca1, .slice qa2 na2 ca2], .int .i64 gate1, .int .i64 state2] w (fun en w' => ∃ l : VL, en = .returned (slv l.q l.n l.cap) ∧ (VOK 1 l.n l.cap (RB.enc res) l.sp l.q) ∧ HV w (keys [] []) [] [⟨4, RB.enc res, l.sp, l.q⟩] [] w') := by
  unfold m_laurelref01_Says at hm
  refine g_enter (args := [.agg #[.slice qa0 na0 ca0, .int .i64 s0.wind.lo, .int .i64 s0.wind.hi, .slice qa1 na1 ca1, .slice qa2 na2 ca2], .int .i64 gate1, .int .i64 state2]) Try.func49 rfl Try.ntmps49 rfl (e := [(0, _), (1, _), (2, _)]) rfl (H := HV w (keys [] []) [] [] [(aB qa0, aO qa0, RW.enc s0.table), (aB qa1, aO qa1, RI.enc s0.floors), (aB qa2, aO qa2, RS.enc s0.sills)]) hw ?_
  refine g_seq ?_
  refine g_region ?_
  refine g_boxV rfl rfl (fun b h2 => ?_)
  refine g_val rfl rfl rfl (fun _ _ => v_nilS rfl) ?_
  refine g_nil ?_
  refine g_n_then ?_
  refine g_seq ?_
  refine g_region ?_
  refine g_val rfl rfl rfl (fun _ _ => v_nilS rfl) ?_
  refine g_nil ?_
  refine g_n_then ?_
  refine g_seq ?_
  refine g_region ?_
  refine g_val rfl rfl rfl (fun w hh => v_loadAgg (vs := [_, _, _, _, _]) (Try.isAgg59 w) (Try.sizeOf59 w) rfl (hh.cells 0 rfl rfl)) ?_
  obtain ⟨t11, h3, hm⟩ := bindO hm
  refine g_callH [] [] rfl rfl rfl rfl rfl rfl rfl (fun a w => Try.call120 a w) (fun w hh => c_laurelref01_Heights s0 qa0 na0 ca0 qa1 na1 ca1 qa2 na2 ca2 w (HV.callee (S0 := []) (vs0 := []) hh (roC (hh.rsep (S0 := []) (vs0 := []) 0 rfl) (roC (hh.rsep (S0 := []) (vs0 := []) 1 rfl) (roC (hh.rsep (S0 := []) (vs0 := []) 2 rfl) roN)))) hna0 hqa0 hla0 hna1 hqa1 hla1 hna2 hqa2 hla2 h3) (fun l h4 => ?_)
  have h5 := h4
  refine g_sel (S' := [_]) (vs' := [_]) [0] [0] 0 (by decide) (by decide) rfl rfl rfl ?_
  refine g_val rfl rfl rfl (fun _ _ => v_assign rfl) ?_
  refine g_nil ?_
  refine g_n_then ?_
  refine g_seq ?_
  refine g_seq ?_
  refine g_region ?_
  refine g_val rfl rfl rfl (fun _ _ => v_assign rfl) ?_
  refine g_nil ?_
  refine g_n_then ?_
  refine g_vnil 4 ?_
  obtain ⟨o, h6, h7⟩ := bindO hm
  refine g_cut (ι := VL) (fun l_1 => VOK 1 l_1.n l_1.cap (RB.enc o) l_1.sp l_1.q) (fun l_1 => [(7, slv l_1.q l_1.n l_1.cap)]) (fun l_1 => [(b, .cells #[.slice qa0 na0 ca0, .int .i64 s0.wind.lo, .int .i64 s0.wind.hi, .slice qa1 na1 ca1, .slice qa2 na2 ca2] 59 (0, 0))]) (fun l_1 => [⟨4, RB.enc o, l_1.sp, l_1.q⟩]) ?_ ?_
  ·replace hm := h6
   refine g_block ?_
   refine g_loopF (ι := VL) hm (fun s l_2 => VOK 1 l_2.n l_2.cap (RB.enc s.out7) l_2.sp l_2.q) (fun s l_2 => [(1, .int .i64 gate1), (2, .int .i64 state2), (3, ptr b 0), (7, slv l_2.q l_2.n l_2.cap), (8, slv l.q l.n l.cap), (9, .int .i64 s.i9)]) (fun s l_2 => [(b, .cells #[.slice qa0 na0 ca0, .int .i64 s0.wind.lo, .int .i64 s0.wind.hi, .slice qa1 na1 ca1, .slice qa2 na2 ca2] 59 (0, 0))]) (fun s l_2 => [⟨4, RB.enc s.out7, l_2.sp, l_2.q⟩, ⟨3, RI.enc t11, l.sp, l.q⟩]) ⟨none, 0, 0, []⟩ (VOK.nil) ((.cons rfl (.cons rfl (.cons rfl (.cons rfl (.cons rfl (.cons rfl .nil))))))) (fun w hh => hh) (fun s l_2 r hpl hm h10 => ?_)
   have h9 := hpl
   unfold m_laurelref01_Says_L0 at hm
   refine g_seq ?_
   refine g_seq ?_
   refine g_region ?_
   refine g_val rfl rfl rfl (fun _ _ => v_move rfl) ?_
   refine g_val rfl rfl rfl (fun _ _ => v_move rfl) ?_
   refine g_val rfl rfl rfl (fun w _ => v_lenN (vlen RI h5 rfl) (Try.runUnderlying26 w) rfl) ?_
   refine g_val rfl rfl rfl (fun _ _ => v_lss rfl rfl) ?_
   refine g_nil ?_
   refine g_n_then ?_
   refine g_cond rfl (fun h11 => ?_) (fun h11 => ?_)
   ·replace hm := ifT (of_decide_eq_true h11) hm
    refine g_skip ?_
    refine g_n_then ?_
    refine g_seq ?_
    refine g_block ?_
    refine g_draw none (.free 0 (.hoist 1 (.free 2 (.free 3 (.free 4 (.hoist 5 (.free 6 (.free 8 (.one 7 (.free 9 (.one 10 (.one 11 (.free 12 .done))))))))))))) (HV _ _ [(b, .cells #[.slice qa0 na0 ca0, .int .i64 s0.wind.lo, .int .i64 s0.wind.hi, .slice qa1 na1 ca1, .slice qa2 na2 ca2] 59 (0, 0))] [⟨3, RI.enc t11, l.sp, l.q⟩] _) rfl (by decide +kernel) (fun w k hh => hh.draw k) (fun w hh => hh.sel [0] [1] 0 (by decide) (by decide) rfl rfl rfl) ?_
    refine p_free rfl rfl rfl rfl (fun _ _ => v_move rfl) ?_
    refine p_hoist rfl rfl rfl rfl (fun w hh => v_loadAgg (vs := [_, _, _, _, _]) (Try.isAgg59 w) (Try.sizeOf59 w) rfl (hh.cells 0 rfl rfl)) ?_
    refine p_free rfl rfl rfl rfl (fun _ _ => v_move rfl) ?_
    refine p_free rfl rfl rfl rfl (fun _ _ => v_move rfl) ?_
    obtain ⟨t22, h12, hm⟩ := bindO hm
    refine p_free rfl rfl rfl rfl (fun w _ => v_ixA h12 (Try.runUnderlying26 w) (Try.sizeOf3 w) rfl rfl (vlen RI h5 rfl) (vne h5)) ?_
    refine p_hoist rfl rfl rfl rfl (fun w hh => v_ldE RI 0 h12 (Try.isAgg3 w) rfl (hh.vseg 0 rfl h5) rfl (Nat.add_zero _).symm) ?_
    refine p_free rfl rfl rfl rfl (fun _ _ => v_move rfl) ?_
    refine p_free rfl rfl rfl rfl (fun _ _ => v_move rfl) ?_
    refine p_one rfl ?_
    obtain ⟨t25, h13, hm⟩ := bindO hm
    refine g_callH [] [] rfl rfl rfl rfl rfl rfl rfl (fun a w => Try.call45 a w) (fun w hh => c_laurelref01_State s0 t22 gate1 qa0 na0 ca0 qa1 na1 ca1 qa2 na2 ca2 w (HV.callee (S0 := []) (vs0 := []) hh (roC (hh.rsep (S0 := []) (vs0 := []) 0 rfl) (roC (hh.rsep (S0 := []) (vs0 := []) 1 rfl) (roC (hh.rsep (S0 := []) (vs0 := []) 2 rfl) roN)))) hna0 hqa0 hla0 hna1 hqa1 hla1 hna2 hqa2 hla2 h13) (fun l_3 h14 => ?_)
    refine p_next (fun w hh => hh.sel [0] [1] 0 (by decide) (by decide) rfl rfl rfl) ?_
    refine p_free rfl rfl rfl rfl (fun _ _ => v_eql rfl rfl) ?_
    refine p_one rfl ?_
    refine g_vlit RB [(decide (t25 = state2))] (ps := [(0, _)]) (cells := [_]) (fun w => Try.runUnderlying81 w) (fun w => Try.sizeOf4 w) (fun w => Try.zeroValue4 w) rfl rfl rfl rfl rfl rfl rfl rfl (fun L h15 => ?_)
    refine p_next (fun w hh => hh.sel [0] [2] 0 (by decide) (by decide) rfl rfl rfl) ?_
    refine p_one rfl ?_
    obtain ⟨t29, h16, hm⟩ := bindO hm
    refine g_vapp RB 1 h16 Try.underlying81 gxinf4 rfl rfl rfl rfl rfl h9 rfl rfl (vlen RB h15 rfl) (AOK.q (vne h15)) (fun w hh => (hh.vsegA 0 rfl h15)) rfl (fun L_1 h17 h17n => ?_)
    refine g_sel (S' := [_]) (vs' := [_, _, _]) [0] [0, 1, 2] 0 (by decide) (by decide) rfl rfl rfl ?_
    refine p_next (fun w hh => hh.sel [0] [2] 0 (by decide) (by decide) rfl rfl rfl) ?_
    refine p_free rfl rfl rfl rfl (fun _ _ => v_assign rfl) ?_
    refine p_done ?_
    refine g_n_blk ?_
    refine g_n_then ?_
    refine g_region ?_
    refine g_val rfl rfl rfl (fun _ _ => v_move rfl) ?_
    obtain ⟨t17, h18, hm⟩ := bindO hm
    refine g_val rfl rfl rfl (fun _ _ => v_addc h18 rfl rfl) ?_
    refine g_val rfl rfl rfl (fun _ _ => v_assign rfl) ?_
    refine g_nil ?_
    obtain rfl := Option.some.inj hm
    refine g_n_then ?_
    exact g_again' _ L_1 rfl (h17) ((.cons rfl (.cons rfl (.cons rfl (.cons rfl (.cons rfl (.cons rfl .nil))))))) (fun w hh => hh.sel [0] [1, 2] 0 (by decide) (by decide) rfl rfl rfl)
   ·replace hm := ifF (of_decide_eq_false h11) hm
    refine g_exit ?_
    refine g_x_then ?_
    refine g_x_then ?_
    refine g_x_blk ?_
    obtain rfl := Option.some.inj hm
    have hbo := h10 _ rfl
    subst hbo
    exact g_leaf l_2 (h9) ((.cons rfl .nil)) (fun w hh => hh.sel [0] [0] 0 (by decide) (by decide) rfl rfl rfl)
  ·intro l_1 hj
   have h8 := hj
   replace hm := h7
   refine g_n_then ?_
   refine g_seq ?_
   refine g_region ?_
   refine g_val rfl rfl rfl (fun _ _ => v_move rfl) ?_
   refine g_val rfl rfl rfl (fun _ _ => v_assign rfl) ?_
   refine g_nil ?_
   refine g_n_then ?_
   refine g_ret ?_
   obtain rfl := Option.some.inj hm
   refine g_done rfl (fun w hh => (.tmp rfl .nil)) (fun w hh => ⟨l_1, rfl, h8, hh.sel [] [0] 3 (by decide) (by decide) rfl rfl rfl⟩)
structure m_laurelref01_Run_R where
  r0 : Span
  r1 : Bool
def m_laurelref01_Run_L0 (says1 : (List Bool)) (s : Int) : Option (Int ⊕ Int) :=
 (if 0 < s then
 ((subc s 1).bind fun t28 =>
 (ix says1 t28).bind fun t29 =>
 some t29) else
 (some false)).bind fun o_1 =>
 if o_1 = true then
 ((subc s 1).bind fun t33 =>
 some (.inl t33)) else
 (some (.inr s))
def m_laurelref01_Run_L1 (says1 : (List Bool)) (s_1 : Int) : Option (Int ⊕ Int) :=
 ((subc (says1.length : Int) 1).bind fun t37 =>
 if s_1 < t37 then
 ((addc s_1 1).bind fun t42 =>
 (ix says1 t42).bind fun t43 =>
 some t43) else
 (some false)).bind fun o_3 =>
 if o_3 = true then
 ((addc s_1 1).bind fun t47 =>
 some (.inl t47)) else
 (some (.inr s_1))
def m_laurelref01_Run (s0 : Sands) (says1 : (List Bool)) (minute2 : Int) : Option m_laurelref01_Run_R :=
 (m_laurelref01_First s0).bind fun t13 =>
 (subc minute2 t13).bind fun t14 =>
 (ix says1 t14).bind fun t17 =>
 if (!t17) = true then
 (some (⟨(⟨0, 0⟩ : Span), false⟩ : m_laurelref01_Run_R)) else
 ((iterM FU (m_laurelref01_Run_L0 says1) t14).bind fun o =>
 (iterM FU (m_laurelref01_Run_L1 says1) t14).bind fun o_2 =>
 (m_laurelref01_First s0).bind fun t49 =>
 (addc t49 o).bind fun t51 =>
 (m_laurelref01_First s0).bind fun t53 =>
 (addc t53 o_2).bind fun t55 =>
 some (⟨(⟨t51, t55⟩ : Span), true⟩ : m_laurelref01_Run_R))
set_option maxRecDepth 100000 in
set_option maxHeartbeats 4000000 in
theorem c_laurelref01_Run (s0 : Sands) (says1 : (List Bool)) (minute2 : Int) (qa0 : Option Addr) (na0 ca0 : Nat) (qa1 : Option Addr) (na1 ca1 : Nat) (qa2 : Option Addr) (na2 ca2 : Nat) (qa3 : Option Addr) (na3 ca3 : Nat) (w : World) (hw : HV w (keys [] []) [] [] [(aB qa0, aO qa0, RW.enc s0.table), (aB qa1, aO qa1, RI.enc s0.floors), (aB qa2, aO qa2, RS.enc s0.sills), (aB qa3, aO qa3, RB.enc says1)] w) (hna0 : s0.table.length = na0) (hqa0 : AOK na0 qa0) (hla0 : na0 ≤ ca0) (hna1 : s0.floors.length = na1) (hqa1 : AOK na1 qa1) (hla1 : na1 ≤ ca1) (hna2 : s0.sills.length = na2) (hqa2 : AOK na2 qa2) (hla2 : na2 ≤ ca2) (hna3 : says1.length = na3) (hqa3 : AOK na3 qa3) (hla3 : na3 ≤ ca3) {res : m_laurelref01_Run_R} (hm : m_laurelref01_Run s0 says1 minute2 = some res) :
    Calls Try.prog 73 #[.agg #[.slice qa0 na0 ca0, .int .i64 s0.wind.lo, .int .i64 s0.wind.hi, .slice qa1 na1 ca1, .slice qa2 na2 ca2], .slice qa3 na3 ca3, .int .i64 minute2] w (fun en w' => ∃ l : Unit, en = .returned (.tuple #[.agg #[.int .i64 res.r0.lo, .int .i64 res.r0.hi], .bool res.r1]) ∧ (True) ∧ HV w (keys [] []) [] [] [] w') := by
  unfold m_laurelref01_Run at hm
  refine g_enter (args := [.agg #[.slice qa0 na0 ca0, .int .i64 s0.wind.lo, .int .i64 s0.wind.hi, .slice qa1 na1 ca1, .slice qa2 na2 ca2], .slice qa3 na3 ca3, .int .i64 minute2]) Try.func73 rfl Try.ntmps73 rfl (e := [(0, _), (1, _), (2, _)]) rfl (H := HV w (keys [] []) [] [] [(aB qa0, aO qa0, RW.enc s0.table), (aB qa1, aO qa1, RI.enc s0.floors), (aB qa2, aO qa2, RS.enc s0.sills), (aB qa3, aO qa3, RB.enc says1)]) hw ?_
  refine g_seq ?_
  refine g_region ?_
  refine g_boxV rfl rfl (fun b h1 => ?_)
  refine g_allocV (fun w => Try.zeroValue25 w) rfl (fun b_1 h2 => ?_)
  refine g_val rfl rfl rfl (fun _ _ => v_assign rfl) ?_
  refine g_nil ?_
  refine g_n_then ?_
  refine g_seq ?_
  refine g_region ?_
  refine g_val rfl rfl rfl (fun _ _ => v_move rfl) ?_
  refine g_val rfl rfl rfl (fun w hh => v_loadAgg (vs := [_, _, _, _, _]) (Try.isAgg59 w) (Try.sizeOf59 w) rfl (hh.cells 1 rfl rfl)) ?_
  obtain ⟨t13, h3, hm⟩ := bindO hm
  refine g_callH [] [] rfl rfl rfl rfl rfl rfl rfl (fun a w => Try.call108 a w) (fun w hh => c_laurelref01_First s0 qa0 na0 ca0 qa1 na1 ca1 qa2 na2 ca2 w (HV.callee (S0 := []) (vs0 := []) hh (roC (hh.rsep (S0 := []) (vs0 := []) 0 rfl) (roC (hh.rsep (S0 := []) (vs0 := []) 1 rfl) (roC (hh.rsep (S0 := []) (vs0 := []) 2 rfl) roN)))) hna0 hqa0 hla0 hna1 hqa1 hla1 hna2 hqa2 hla2 h3) (fun l h4 => ?_)
  obtain ⟨t14, h5, hm⟩ := bindO hm
  refine g_val rfl rfl rfl (fun _ _ => v_subc h5 rfl rfl) ?_
  refine g_val rfl rfl rfl (fun _ _ => v_assign rfl) ?_
  refine g_nil ?_
  refine g_n_then ?_
  refine g_seq ?_
  refine g_seq ?_
  refine g_region ?_
  refine g_val rfl rfl rfl (fun _ _ => v_move rfl) ?_
  refine g_val rfl rfl rfl (fun _ _ => v_move rfl) ?_
  obtain ⟨t17, h6, hm⟩ := bindO hm
  refine g_val rfl rfl rfl (fun w _ => v_ixR h6 (Try.runUnderlying81 w) (Try.sizeOf4 w) rfl rfl hna3 hqa3) ?_
  refine g_val rfl rfl rfl (fun w hh => v_ldE RB 0 h6 (Try.isAgg4 w) rfl (hh.seg 3 rfl) rfl (Nat.add_zero _).symm) ?_
  refine g_val rfl rfl rfl (fun _ _ => v_not rfl) ?_
  refine g_nil ?_
  refine g_n_then ?_
  refine g_cond rfl (fun h7 => ?_) (fun h7 => ?_)
  ·replace hm := ifT (h7) hm
   refine g_seq ?_
   refine g_region ?_
   refine g_val rfl rfl rfl (fun _ _ => v_build (vs := []) (cells := [_, _]) rfl rfl) ?_
   refine g_stSA (us := #[_, _]) (cs' := [_, _]) (S' := [_, _]) 0 (fun w => Try.sizeOf25 w) rfl rfl rfl rfl rfl rfl rfl ?_
   refine g_val rfl rfl rfl (fun _ _ => v_assign rfl) ?_
   refine g_nil ?_
   refine g_n_then ?_
   refine g_ret ?_
   refine g_r_then ?_
   obtain rfl := Option.some.inj hm
   refine g_done rfl (fun w hh => (.cell rfl (loadVar_agg (vs := [_, _]) (Try.isAgg25 _) (Try.sizeOf25 _) (hh.cells 0 rfl rfl)) (.tmp rfl .nil))) (fun w hh => ⟨(), rfl, trivial, hh.sel [] [] 4 (by decide) (by decide) rfl rfl rfl⟩)
  ·replace hm := ifF ((fun hh => Bool.noConfusion ((h7).symm.trans hh))) hm
   refine g_skip ?_
   refine g_n_then ?_
   refine g_seq ?_
   refine g_region ?_
   refine g_val rfl rfl rfl (fun _ _ => v_move rfl) ?_
   refine g_val rfl rfl rfl (fun _ _ => v_move rfl) ?_
   refine g_val rfl rfl rfl (fun _ _ => v_assign rfl) ?_
   refine g_val rfl rfl rfl (fun _ _ => v_assign rfl) ?_
   refine g_nil ?_
   refine g_n_then ?_
   refine g_seq ?_
   obtain ⟨o, h8, h9⟩ := bindO hm
   refine g_cut (ι := Unit) (fun l_1 => True) (fun l_1 => [(1, .slice qa3 na3 ca3), (3, ptr b 0), (6, ptr b_1 0), (9, .int .i64 o), (10, .int .i64 t14)]) (fun l_1 => [(b_1, .cells #[.int .i64 0, .int .i64 0] 25 (0, 0)), (b, .cells #[.slice qa0 na0 ca0, .int .i64 s0.wind.lo, .int .i64 s0.wind.hi, .slice qa1 na1 ca1, .slice qa2 na2 ca2] 59 (0, 0))]) (fun l_1 => []) ?_ ?_
   ·replace hm := h8
    refine g_block ?_
    refine g_loopF (ι := Unit) hm (fun s l_2 => True) (fun s l_2 => [(1, .slice qa3 na3 ca3), (3, ptr b 0), (6, ptr b_1 0), (9, .int .i64 s), (10, .int .i64 t14)]) (fun s l_2 => [(b_1, .cells #[.int .i64 0, .int .i64 0] 25 (0, 0)), (b, .cells #[.slice qa0 na0 ca0, .int .i64 s0.wind.lo, .int .i64 s0.wind.hi, .slice qa1 na1 ca1, .slice qa2 na2 ca2] 59 (0, 0))]) (fun s l_2 => []) () (trivial) ((.cons rfl (.cons rfl (.cons rfl (.cons rfl (.cons rfl .nil)))))) (fun w hh => hh) (fun s l_2 r hpl hm h10 => ?_)
    unfold m_laurelref01_Run_L0 at hm
    refine g_seq ?_
    refine g_seq ?_
    obtain ⟨o_1, h11, h12⟩ := bindO hm
    refine g_cut (ι := Unit) (fun l_3 => True) (fun l_3 => [(1, .slice qa3 na3 ca3), (3, ptr b 0), (6, ptr b_1 0), (9, .int .i64 s), (10, .int .i64 t14), (31, .bool o_1)]) (fun l_3 => [(b_1, .cells #[.int .i64 0, .int .i64 0] 25 (0, 0)), (b, .cells #[.slice qa0 na0 ca0, .int .i64 s0.wind.lo, .int .i64 s0.wind.hi, .slice qa1 na1 ca1, .slice qa2 na2 ca2] 59 (0, 0))]) (fun l_3 => []) ?_ ?_
    ·replace hm := h11
     refine g_region ?_
     refine g_val rfl rfl rfl (fun _ _ => v_move rfl) ?_
     refine g_val rfl rfl rfl (fun _ _ => v_gtr rfl rfl) ?_
     refine g_val rfl rfl rfl (fun _ _ => v_move rfl) ?_
     refine g_case 25 rfl (fun h13 => ?_) (fun h13 => ?_)
     ·replace hm := ifT (of_decide_eq_true h13) hm
      refine v_unguard rfl rfl ?_
      refine g_val rfl rfl rfl (fun _ _ => v_move rfl) ?_
      refine v_unguard rfl rfl ?_
      refine g_val rfl rfl rfl (fun _ _ => v_move rfl) ?_
      refine v_unguard rfl rfl ?_
      obtain ⟨t28, h14, hm⟩ := bindO hm
      refine g_val rfl rfl rfl (fun _ _ => v_subc h14 rfl rfl) ?_
      refine v_unguard rfl rfl ?_
      obtain ⟨t29, h15, hm⟩ := bindO hm
      refine g_val rfl rfl rfl (fun w _ => v_ixR h15 (Try.runUnderlying81 w) (Try.sizeOf4 w) rfl rfl hna3 hqa3) ?_
      refine v_unguard rfl rfl ?_
      refine g_val rfl rfl rfl (fun w hh => v_ldE RB 0 h15 (Try.isAgg4 w) rfl (hh.seg 3 rfl) rfl (Nat.add_zero _).symm) ?_
      refine g_val rfl rfl rfl (fun _ _ => v_pickT rfl rfl) ?_
      refine g_nil ?_
      obtain rfl := Option.some.inj hm
      exact g_leaf () (trivial) ((.cons rfl (.cons rfl (.cons rfl (.cons rfl (.cons rfl (.cons rfl .nil))))))) (fun w hh => hh)
     ·replace hm := ifF (of_decide_eq_false h13) hm
      refine g_skipG rfl rfl rfl rfl rfl rfl ?_
      refine g_skipG rfl rfl rfl rfl rfl rfl ?_
      refine g_skipG rfl rfl rfl rfl rfl rfl ?_
      refine g_skipG rfl rfl rfl rfl rfl rfl ?_
      refine g_skipG rfl rfl rfl rfl rfl rfl ?_
      refine g_val rfl rfl rfl (fun _ _ => v_pickF rfl rfl) ?_
      refine g_nil ?_
      obtain rfl := Option.some.inj hm
      exact g_leaf () (trivial) ((.cons rfl (.cons rfl (.cons rfl (.cons rfl (.cons rfl (.cons rfl .nil))))))) (fun w hh => hh)
    ·intro l_3 hj
     replace hm := h12
     refine g_n_then ?_
     refine g_cond rfl (fun h16 => ?_) (fun h16 => ?_)
     ·replace hm := ifT (h16) hm
      refine g_skip ?_
      refine g_n_then ?_
      refine g_block ?_
      refine g_region ?_
      refine g_val rfl rfl rfl (fun _ _ => v_move rfl) ?_
      obtain ⟨t33, h17, hm⟩ := bindO hm
      refine g_val rfl rfl rfl (fun _ _ => v_subc h17 rfl rfl) ?_
      refine g_val rfl rfl rfl (fun _ _ => v_assign rfl) ?_
      refine g_nil ?_
      refine g_n_blk ?_
      obtain rfl := Option.some.inj hm
      refine g_n_then ?_
      exact g_again' _ () rfl (trivial) ((.cons rfl (.cons rfl (.cons rfl (.cons rfl (.cons rfl .nil)))))) (fun w hh => hh)
     ·replace hm := ifF ((fun hh => Bool.noConfusion ((h16).symm.trans hh))) hm
      refine g_exit ?_
      refine g_x_then ?_
      refine g_x_then ?_
      refine g_x_blk ?_
      obtain rfl := Option.some.inj hm
      have hbo := h10 _ rfl
      subst hbo
      exact g_leaf () (trivial) ((.cons rfl (.cons rfl (.cons rfl (.cons rfl (.cons rfl .nil)))))) (fun w hh => hh)
   ·intro l_1 hj
    replace hm := h9
    refine g_n_then ?_
    refine g_seq ?_
    obtain ⟨o_2, h18, h19⟩ := bindO hm
    refine g_cut (ι := Unit) (fun l_4 => True) (fun l_4 => [(3, ptr b 0), (6, ptr b_1 0), (9, .int .i64 o), (10, .int .i64 o_2)]) (fun l_4 => [(b_1, .cells #[.int .i64 0, .int .i64 0] 25 (0, 0)), (b, .cells #[.slice qa0 na0 ca0, .int .i64 s0.wind.lo, .int .i64 s0.wind.hi, .slice qa1 na1 ca1, .slice qa2 na2 ca2] 59 (0, 0))]) (fun l_4 => []) ?_ ?_
    ·replace hm := h18
     refine g_block ?_
     refine g_loopF (ι := Unit) hm (fun s_1 l_5 => True) (fun s_1 l_5 => [(1, .slice qa3 na3 ca3), (3, ptr b 0), (6, ptr b_1 0), (9, .int .i64 o), (10, .int .i64 s_1)]) (fun s_1 l_5 => [(b_1, .cells #[.int .i64 0, .int .i64 0] 25 (0, 0)), (b, .cells #[.slice qa0 na0 ca0, .int .i64 s0.wind.lo, .int .i64 s0.wind.hi, .slice qa1 na1 ca1, .slice qa2 na2 ca2] 59 (0, 0))]) (fun s_1 l_5 => []) () (trivial) ((.cons rfl (.cons rfl (.cons rfl (.cons rfl (.cons rfl .nil)))))) (fun w hh => hh) (fun s_1 l_5 r_1 hpl hm h20 => ?_)
     unfold m_laurelref01_Run_L1 at hm
     refine g_seq ?_
     refine g_seq ?_
     obtain ⟨o_3, h21, h22⟩ := bindO hm
     refine g_cut (ι := Unit) (fun l_6 => True) (fun l_6 => [(1, .slice qa3 na3 ca3), (3, ptr b 0), (6, ptr b_1 0), (9, .int .i64 o), (10, .int .i64 s_1), (45, .bool o_3)]) (fun l_6 => [(b_1, .cells #[.int .i64 0, .int .i64 0] 25 (0, 0)), (b, .cells #[.slice qa0 na0 ca0, .int .i64 s0.wind.lo, .int .i64 s0.wind.hi, .slice qa1 na1 ca1, .slice qa2 na2 ca2] 59 (0, 0))]) (fun l_6 => []) ?_ ?_
     ·replace hm := h21
      refine g_region ?_
      refine g_val rfl rfl rfl (fun _ _ => v_move rfl) ?_
      refine g_val rfl rfl rfl (fun _ _ => v_move rfl) ?_
      refine g_val rfl rfl rfl (fun w _ => v_lenR hna3 (Try.runUnderlying81 w) rfl) ?_
      obtain ⟨t37, h23, hm⟩ := bindO hm
      refine g_val rfl rfl rfl (fun _ _ => v_subc h23 rfl rfl) ?_
      refine g_val rfl rfl rfl (fun _ _ => v_lss rfl rfl) ?_
      refine g_val rfl rfl rfl (fun _ _ => v_move rfl) ?_
      refine g_case 39 rfl (fun h24 => ?_) (fun h24 => ?_)
      ·replace hm := ifT (of_decide_eq_true h24) hm
       refine v_unguard rfl rfl ?_
       refine g_val rfl rfl rfl (fun _ _ => v_move rfl) ?_
       refine v_unguard rfl rfl ?_
       refine g_val rfl rfl rfl (fun _ _ => v_move rfl) ?_
       refine v_unguard rfl rfl ?_
       obtain ⟨t42, h25, hm⟩ := bindO hm
       refine g_val rfl rfl rfl (fun _ _ => v_addc h25 rfl rfl) ?_
       refine v_unguard rfl rfl ?_
       obtain ⟨t43, h26, hm⟩ := bindO hm
       refine g_val rfl rfl rfl (fun w _ => v_ixR h26 (Try.runUnderlying81 w) (Try.sizeOf4 w) rfl rfl hna3 hqa3) ?_
       refine v_unguard rfl rfl ?_
       refine g_val rfl rfl rfl (fun w hh => v_ldE RB 0 h26 (Try.isAgg4 w) rfl (hh.seg 3 rfl) rfl (Nat.add_zero _).symm) ?_
       refine g_val rfl rfl rfl (fun _ _ => v_pickT rfl rfl) ?_
       refine g_nil ?_
       obtain rfl := Option.some.inj hm
       exact g_leaf () (trivial) ((.cons rfl (.cons rfl (.cons rfl (.cons rfl (.cons rfl (.cons rfl .nil))))))) (fun w hh => hh)
      ·replace hm := ifF (of_decide_eq_false h24) hm
       refine g_skipG rfl rfl rfl rfl rfl rfl ?_
       refine g_skipG rfl rfl rfl rfl rfl rfl ?_
       refine g_skipG rfl rfl rfl rfl rfl rfl ?_
       refine g_skipG rfl rfl rfl rfl rfl rfl ?_
       refine g_skipG rfl rfl rfl rfl rfl rfl ?_
       refine g_val rfl rfl rfl (fun _ _ => v_pickF rfl rfl) ?_
       refine g_nil ?_
       obtain rfl := Option.some.inj hm
       exact g_leaf () (trivial) ((.cons rfl (.cons rfl (.cons rfl (.cons rfl (.cons rfl (.cons rfl .nil))))))) (fun w hh => hh)
     ·intro l_6 hj
      replace hm := h22
      refine g_n_then ?_
      refine g_cond rfl (fun h27 => ?_) (fun h27 => ?_)
      ·replace hm := ifT (h27) hm
       refine g_skip ?_
       refine g_n_then ?_
       refine g_block ?_
       refine g_region ?_
       refine g_val rfl rfl rfl (fun _ _ => v_move rfl) ?_
       obtain ⟨t47, h28, hm⟩ := bindO hm
       refine g_val rfl rfl rfl (fun _ _ => v_addc h28 rfl rfl) ?_
       refine g_val rfl rfl rfl (fun _ _ => v_assign rfl) ?_
       refine g_nil ?_
       refine g_n_blk ?_
       obtain rfl := Option.some.inj hm
       refine g_n_then ?_
       exact g_again' _ () rfl (trivial) ((.cons rfl (.cons rfl (.cons rfl (.cons rfl (.cons rfl .nil)))))) (fun w hh => hh)
      ·replace hm := ifF ((fun hh => Bool.noConfusion ((h27).symm.trans hh))) hm
       refine g_exit ?_
       refine g_x_then ?_
       refine g_x_then ?_
       refine g_x_blk ?_
       obtain rfl := Option.some.inj hm
       have hbo := h20 _ rfl
       subst hbo
       exact g_leaf () (trivial) ((.cons rfl (.cons rfl (.cons rfl (.cons rfl .nil))))) (fun w hh => hh)
    ·intro l_4 hj
     replace hm := h19
     refine g_n_then ?_
     refine g_seq ?_
     refine g_draw none (.hoist 0 (.free 2 (.hoist 4 (.free 6 (.one 1 (.free 3 (.one 5 (.free 7 (.free 8 (.one 9 (.free 10 .done))))))))))) (HV _ _ [(b, .cells #[.slice qa0 na0 ca0, .int .i64 s0.wind.lo, .int .i64 s0.wind.hi, .slice qa1 na1 ca1, .slice qa2 na2 ca2] 59 (0, 0))] [] _) rfl (by decide +kernel) (fun w k hh => hh.draw k) (fun w hh => hh.sel [1] [] 0 (by decide) (by decide) rfl rfl rfl) ?_
     refine p_hoist rfl rfl rfl rfl (fun w hh => v_loadAgg (vs := [_, _, _, _, _]) (Try.isAgg59 w) (Try.sizeOf59 w) rfl (hh.cells 0 rfl rfl)) ?_
     refine p_free rfl rfl rfl rfl (fun _ _ => v_move rfl) ?_
     refine p_hoist rfl rfl rfl rfl (fun w hh => v_loadAgg (vs := [_, _, _, _, _]) (Try.isAgg59 w) (Try.sizeOf59 w) rfl (hh.cells 0 rfl rfl)) ?_
     refine p_free rfl rfl rfl rfl (fun _ _ => v_move rfl) ?_
     refine p_one rfl ?_
     obtain ⟨t49, h29, hm⟩ := bindO hm
     refine g_callH [] [] rfl rfl rfl rfl rfl rfl rfl (fun a w => Try.call108 a w) (fun w hh => c_laurelref01_First s0 qa0 na0 ca0 qa1 na1 ca1 qa2 na2 ca2 w (HV.callee (S0 := []) (vs0 := []) hh (roC (hh.rsep (S0 := []) (vs0 := []) 0 rfl) (roC (hh.rsep (S0 := []) (vs0 := []) 1 rfl) (roC (hh.rsep (S0 := []) (vs0 := []) 2 rfl) roN)))) hna0 hqa0 hla0 hna1 hqa1 hla1 hna2 hqa2 hla2 h29) (fun l_7 h30 => ?_)
     refine p_next (fun w hh => hh.sel [1] [] 0 (by decide) (by decide) rfl rfl rfl) ?_
     obtain ⟨t51, h31, hm⟩ := bindO hm
     refine p_free rfl rfl rfl rfl (fun _ _ => v_addc h31 rfl rfl) ?_
     refine p_one rfl ?_
     obtain ⟨t53, h32, hm⟩ := bindO hm
     refine g_callH [] [] rfl rfl rfl rfl rfl rfl rfl (fun a w => Try.call108 a w) (fun w hh => c_laurelref01_First s0 qa0 na0 ca0 qa1 na1 ca1 qa2 na2 ca2 w (HV.callee (S0 := []) (vs0 := []) hh (roC (hh.rsep (S0 := []) (vs0 := []) 0 rfl) (roC (hh.rsep (S0 := []) (vs0 := []) 1 rfl) (roC (hh.rsep (S0 := []) (vs0 := []) 2 rfl) roN)))) hna0 hqa0 hla0 hna1 hqa1 hla1 hna2 hqa2 hla2 h32) (fun l_8 h33 => ?_)
     refine p_next (fun w hh => hh.sel [1] [] 0 (by decide) (by decide) rfl rfl rfl) ?_
     obtain ⟨t55, h34, hm⟩ := bindO hm
     refine p_free rfl rfl rfl rfl (fun _ _ => v_addc h34 rfl rfl) ?_
     refine p_free rfl rfl rfl rfl (fun _ _ => v_build (vs := [(0, _), (1, _)]) (cells := [_, _]) rfl rfl) ?_
     refine p_one rfl ?_
     refine g_stSA (us := #[_, _]) (cs' := [_, _]) (S' := [_, _]) 0 (fun w => Try.sizeOf25 w) rfl rfl rfl rfl rfl rfl rfl ?_
     refine p_next (fun w hh => hh.sel [1] [] 0 (by decide) (by decide) rfl rfl rfl) ?_
     refine p_free rfl rfl rfl rfl (fun _ _ => v_assign rfl) ?_
     refine p_done ?_
     refine g_n_then ?_
     refine g_ret ?_
     obtain rfl := Option.some.inj hm
     refine g_done rfl (fun w hh => (.cell rfl (loadVar_agg (vs := [_, _]) (Try.isAgg25 _) (Try.sizeOf25 _) (hh.cells 0 rfl rfl)) (.tmp rfl .nil))) (fun w hh => ⟨(), rfl, trivial, hh.sel [] [] 4 (by decide) (by decide) rfl rfl rfl⟩)
structure m_laurelref01_Spans_S0 where
  minute6 : Int
  out5 : (List Span)
def m_laurelref01_Spans_L0 (s0 : Sands) (says1 : (List Bool)) (s : m_laurelref01_Spans_S0) : Option (m_laurelref01_Spans_S0 ⊕ (List Span)) :=
 (m_laurelref01_Last s0).bind fun t13 =>
 if s.minute6 ≤ t13 then
 (((m_laurelref01_Run s0 says1 s.minute6).bind fun t21 =>
 (if t21.r1 = true then
 (some (decide (t21.r0.lo = s.minute6))) else
 (some false)).bind fun o_2 =>
 if o_2 = true then
 ((appc 16 s.out5 [t21.r0]).bind fun t34 =>
 some t34) else
 (some s.out5)).bind fun o_1 =>
 (addc s.minute6 1).bind fun t16 =>
 some (.inl (⟨t16, o_1⟩ : m_laurelref01_Spans_S0))) else
 (some (.inr s.out5))
def m_laurelref01_Spans (s0 : Sands) (says1 : (List Bool)) : Option (List Span) :=
 (m_laurelref01_First s0).bind fun t10 =>
 (iterM FU (m_laurelref01_Spans_L0 s0 says1) (⟨t10, []⟩ : m_laurelref01_Spans_S0)).bind fun o =>
 some o
set_option maxRecDepth 100000 in
set_option maxHeartbeats 4000000 in
theorem c_laurelref01_Spans (s0 : Sands) (says1 : (List Bool)) (qa0 : Option Addr) (na0 ca0 : Nat) (qa1 : Option Addr) (na1 ca1 : Nat) (qa2 : Option Addr) (na2 ca2 : Nat) (qa3 : Option Addr) (na3 ca3 : Nat) (w : World) (hw : HV w (keys [] []) [] [] [(aB qa0, aO qa0, RW.enc s0.table), (aB qa1, aO qa1, RI.enc s0.floors), (aB qa2, aO qa2, RS.enc s0.sills), (aB qa3, aO qa3, RB.enc says1)] w) (hna0 : s0.table.length = na0) (hqa0 : AOK na0 qa0) (hla0 : na0 ≤ ca0) (hna1 : s0.floors.length = na1) (hqa1 : AOK na1 qa1) (hla1 : na1 ≤ ca1) (hna2 : s0.sills.length = na2) (hqa2 : AOK na2 qa2) (hla2 : na2 ≤ ca2) (hna3 : says1.length = na3) (hqa3 : AOK na3 qa3) (hla3 : na3 ≤ ca3) {res : (List Span)} (hm : m_laurelref01_Spans s0 says1 = some res) :
    Calls Try.prog 48 #[.agg #[.slice qa0 na0 ca0, .int .i64 s0.wind.lo, .int .i64 s0.wind.hi, .slice qa1 na1 ca1, .slice qa2 na2 ca2], .slice qa3 na3 ca3] w (fun en w' => ∃ l : VL, en = .returned (slv l.q l.n l.cap) ∧ (VOK 2 l.n l.cap (RP.enc res) l.sp l.q) ∧ HV w (keys [] []) [] [⟨25, RP.enc res, l.sp, l.q⟩] [] w') := by
  unfold m_laurelref01_Spans at hm
  refine g_enter (args := [.agg #[.slice qa0 na0 ca0, .int .i64 s0.wind.lo, .int .i64 s0.wind.hi, .slice qa1 na1 ca1, .slice qa2 na2 ca2], .slice qa3 na3 ca3]) Try.func48 rfl Try.ntmps48 rfl (e := [(0, _), (1, _)]) rfl (H := HV w (keys [] []) [] [] [(aB qa0, aO qa0, RW.enc s0.table), (aB qa1, aO qa1, RI.enc s0.floors), (aB qa2, aO qa2, RS.enc s0.sills), (aB qa3, aO qa3, RB.enc says1)]) hw ?_
  refine g_seq ?_
  refine g_region ?_
  refine g_boxV rfl rfl (fun b h2 => ?_)
  refine g_val rfl rfl rfl (fun _ _ => v_nilS rfl) ?_
  refine g_nil ?_
  refine g_n_then ?_
  refine g_seq ?_
  refine g_region ?_
  refine g_val rfl rfl rfl (fun _ _ => v_nilS rfl) ?_
  refine g_nil ?_
  refine g_n_then ?_
  refine g_seq ?_
  refine g_seq ?_
  refine g_region ?_
  refine g_val rfl rfl rfl (fun w hh => v_loadAgg (vs := [_, _, _, _, _]) (Try.isAgg59 w) (Try.sizeOf59 w) rfl (hh.cells 0 rfl rfl)) ?_
  obtain ⟨t10, h3, hm⟩ := bindO hm
  refine g_callH [] [] rfl rfl rfl rfl rfl rfl rfl (fun a w => Try.call108 a w) (fun w hh => c_laurelref01_First s0 qa0 na0 ca0 qa1 na1 ca1 qa2 na2 ca2 w (HV.callee (S0 := []) (vs0 := []) hh (roC (hh.rsep (S0 := []) (vs0 := []) 0 rfl) (roC (hh.rsep (S0 := []) (vs0 := []) 1 rfl) (roC (hh.rsep (S0 := []) (vs0 := []) 2 rfl) roN)))) hna0 hqa0 hla0 hna1 hqa1 hla1 hna2 hqa2 hla2 h3) (fun l h4 => ?_)
  refine g_val rfl rfl rfl (fun _ _ => v_assign rfl) ?_
  refine g_nil ?_
  refine g_n_then ?_
  refine g_vnil 25 ?_
  obtain ⟨o, h5, h6⟩ := bindO hm
  refine g_cut (ι := VL) (fun l_1 => VOK 2 l_1.n l_1.cap (RP.enc o) l_1.sp l_1.q) (fun l_1 => [(5, slv l_1.q l_1.n l_1.cap)]) (fun l_1 => [(b, .cells #[.slice qa0 na0 ca0, .int .i64 s0.wind.lo, .int .i64 s0.wind.hi, .slice qa1 na1 ca1, .slice qa2 na2 ca2] 59 (0, 0))]) (fun l_1 => [⟨25, RP.enc o, l_1.sp, l_1.q⟩]) ?_ ?_
  ·replace hm := h5
   refine g_block ?_
   refine g_loopF (ι := VL) hm (fun s l_2 => VOK 2 l_2.n l_2.cap (RP.enc s.out5) l_2.sp l_2.q) (fun s l_2 => [(1, .slice qa3 na3 ca3), (2, ptr b 0), (5, slv l_2.q l_2.n l_2.cap), (6, .int .i64 s.minute6)]) (fun s l_2 => [(b, .cells #[.slice qa0 na0 ca0, .int .i64 s0.wind.lo, .int .i64 s0.wind.hi, .slice qa1 na1 ca1, .slice qa2 na2 ca2] 59 (0, 0))]) (fun s l_2 => [⟨25, RP.enc s.out5, l_2.sp, l_2.q⟩]) ⟨none, 0, 0, []⟩ (VOK.nil) ((.cons rfl (.cons rfl (.cons rfl (.cons rfl .nil))))) (fun w hh => hh) (fun s l_2 r hpl hm h9 => ?_)
   have h8 := hpl
   unfold m_laurelref01_Spans_L0 at hm
   refine g_seq ?_
   refine g_seq ?_
   refine g_region ?_
   refine g_val rfl rfl rfl (fun _ _ => v_move rfl) ?_
   refine g_val rfl rfl rfl (fun w hh => v_loadAgg (vs := [_, _, _, _, _]) (Try.isAgg59 w) (Try.sizeOf59 w) rfl (hh.cells 0 rfl rfl)) ?_
   obtain ⟨t13, h10, hm⟩ := bindO hm
   refine g_callH [] [] rfl rfl rfl rfl rfl rfl rfl (fun a w => Try.call109 a w) (fun w hh => c_laurelref01_Last s0 qa0 na0 ca0 qa1 na1 ca1 qa2 na2 ca2 w (HV.callee (S0 := []) (vs0 := []) hh (roC (hh.rsep (S0 := []) (vs0 := []) 0 rfl) (roC (hh.rsep (S0 := []) (vs0 := []) 1 rfl) (roC (hh.rsep (S0 := []) (vs0 := []) 2 rfl) roN)))) hna0 hqa0 hla0 hna1 hqa1 hla1 hna2 hqa2 hla2 h10) (fun l_3 h11 => ?_)
   refine g_val rfl rfl rfl (fun _ _ => v_leq rfl rfl) ?_
   refine g_nil ?_
   refine g_n_then ?_
   refine g_cond rfl (fun h12 => ?_) (fun h12 => ?_)
   ·replace hm := ifT (of_decide_eq_true h12) hm
    refine g_skip ?_
    refine g_n_then ?_
    refine g_seq ?_
    obtain ⟨o_1, h13, h14⟩ := bindO hm
    refine g_cut (ι := VL) (fun l_4 => VOK 2 l_4.n l_4.cap (RP.enc o_1) l_4.sp l_4.q) (fun l_4 => [(1, .slice qa3 na3 ca3), (2, ptr b 0), (5, slv l_4.q l_4.n l_4.cap), (6, .int .i64 s.minute6)]) (fun l_4 => [(b, .cells #[.slice qa0 na0 ca0, .int .i64 s0.wind.lo, .int .i64 s0.wind.hi, .slice qa1 na1 ca1, .slice qa2 na2 ca2] 59 (0, 0))]) (fun l_4 => [⟨25, RP.enc o_1, l_4.sp, l_4.q⟩]) ?_ ?_
    ·replace hm := h13
     refine g_block ?_
     refine g_seq ?_
     refine g_region ?_
     refine g_val rfl rfl rfl (fun w hh => v_loadAgg (vs := [_, _, _, _, _]) (Try.isAgg59 w) (Try.sizeOf59 w) rfl (hh.cells 0 rfl rfl)) ?_
     refine g_val rfl rfl rfl (fun _ _ => v_move rfl) ?_
     refine g_val rfl rfl rfl (fun _ _ => v_move rfl) ?_
     obtain ⟨t21, h16, hm⟩ := bindO hm
     refine g_callH [] [] rfl rfl rfl rfl rfl rfl rfl (fun a w => Try.call73 a w) (fun w hh => c_laurelref01_Run s0 says1 s.minute6 qa0 na0 ca0 qa1 na1 ca1 qa2 na2 ca2 qa3 na3 ca3 w (HV.callee (S0 := []) (vs0 := []) hh (roC (hh.rsep (S0 := []) (vs0 := []) 0 rfl) (roC (hh.rsep (S0 := []) (vs0 := []) 1 rfl) (roC (hh.rsep (S0 := []) (vs0 := []) 2 rfl) (roC (hh.rsep (S0 := []) (vs0 := []) 3 rfl) roN))))) hna0 hqa0 hla0 hna1 hqa1 hla1 hna2 hqa2 hla2 hna3 hqa3 hla3 h16) (fun l_5 h17 => ?_)
     refine g_val rfl rfl rfl (fun _ _ => v_move rfl) ?_
     refine g_val rfl rfl rfl (fun _ _ => v_extract rfl rfl) ?_
     refine g_val rfl rfl rfl (fun _ _ => v_extract rfl rfl) ?_
     refine g_allocV (fun w => Try.zeroValue25 w) rfl (fun b_1 h18 => ?_)
     refine g_stSA (us := #[_, _]) (cs' := [_, _]) (S' := [_, _]) 0 (fun w => Try.sizeOf25 w) rfl rfl rfl rfl rfl rfl rfl ?_
     refine g_val rfl rfl rfl (fun _ _ => v_assign rfl) ?_
     refine g_nil ?_
     refine g_n_then ?_
     refine g_seq ?_
     obtain ⟨o_2, h19, h20⟩ := bindO hm
     refine g_cut (ι := Unit) (fun l_6 => True) (fun l_6 => [(1, .slice qa3 na3 ca3), (2, ptr b 0), (5, slv l_2.q l_2.n l_2.cap), (6, .int .i64 s.minute6), (7, ptr b_1 0), (30, .bool o_2)]) (fun l_6 => [(b_1, .cells #[.int .i64 t21.r0.lo, .int .i64 t21.r0.hi] 25 (0, 0)), (b, .cells #[.slice qa0 na0 ca0, .int .i64 s0.wind.lo, .int .i64 s0.wind.hi, .slice qa1 na1 ca1, .slice qa2 na2 ca2] 59 (0, 0))]) (fun l_6 => [⟨25, RP.enc s.out5, l_2.sp, l_2.q⟩]) ?_ ?_
     ·replace hm := h19
      refine g_region ?_
      refine g_val rfl rfl rfl (fun _ _ => v_move rfl) ?_
      refine g_val rfl rfl rfl (fun _ _ => v_move rfl) ?_
      refine g_case 25 rfl (fun h21 => ?_) (fun h21 => ?_)
      ·replace hm := ifT (h21) hm
       refine v_unguard rfl rfl ?_
       refine g_val rfl rfl rfl (fun w _ => v_fieldAddr 0 (Try.runUnderlying25 w) rfl (Try.sizeOf3 w) rfl) ?_
       refine v_unguard rfl rfl ?_
       refine g_val rfl rfl rfl (fun w hh => v_load (Try.isAgg3 w) rfl (hh.cell 0 rfl rfl)) ?_
       refine v_unguard rfl rfl ?_
       refine g_val rfl rfl rfl (fun _ _ => v_move rfl) ?_
       refine v_unguard rfl rfl ?_
       refine g_val rfl rfl rfl (fun _ _ => v_eql rfl rfl) ?_
       refine g_val rfl rfl rfl (fun _ _ => v_pickT rfl rfl) ?_
       refine g_nil ?_
       obtain rfl := Option.some.inj hm
       exact g_leaf () (trivial) ((.cons rfl (.cons rfl (.cons rfl (.cons rfl (.cons rfl (.cons rfl .nil))))))) (fun w hh => hh)
      ·replace hm := ifF ((fun hh => Bool.noConfusion ((h21).symm.trans hh))) hm
       refine g_skipG rfl rfl rfl rfl rfl rfl ?_
       refine g_skipG rfl rfl rfl rfl rfl rfl ?_
       refine g_skipG rfl rfl rfl rfl rfl rfl ?_
       refine g_skipG rfl rfl rfl rfl rfl rfl ?_
       refine g_val rfl rfl rfl (fun _ _ => v_pickF rfl rfl) ?_
       refine g_nil ?_
       obtain rfl := Option.some.inj hm
       exact g_leaf () (trivial) ((.cons rfl (.cons rfl (.cons rfl (.cons rfl (.cons rfl (.cons rfl .nil))))))) (fun w hh => hh)
     ·intro l_6 hj
      replace hm := h20
      refine g_n_then ?_
      refine g_cond rfl (fun h22 => ?_) (fun h22 => ?_)
      ·replace hm := ifT (h22) hm
       refine g_region ?_
       refine g_val rfl rfl rfl (fun _ _ => v_move rfl) ?_
       refine g_val rfl rfl rfl (fun w hh => v_loadAgg (vs := [_, _]) (Try.isAgg25 w) (Try.sizeOf25 w) rfl (hh.cells 0 rfl rfl)) ?_
       refine g_vlit RP [t21.r0] (ps := [(0, _)]) (cells := [_, _]) (fun w => Try.runUnderlying77 w) (fun w => Try.sizeOf25 w) (fun w => Try.zeroValue25 w) rfl rfl rfl rfl rfl rfl rfl rfl (fun L h23 => ?_)
       obtain ⟨t34, h24, hm⟩ := bindO hm
       refine g_vapp RP 1 h24 Try.underlying77 gxinf25 rfl rfl rfl rfl rfl h8 rfl rfl (vlen RP h23 rfl) (AOK.q (vne h23)) (fun w hh => (hh.vsegA 0 rfl h23)) rfl (fun L_1 h25 h25n => ?_)
       refine g_sel (S' := [_, _]) (vs' := [_, _]) [0, 1] [0, 1] 0 (by decide) (by decide) rfl rfl rfl ?_
       refine g_val rfl rfl rfl (fun _ _ => v_assign rfl) ?_
       refine g_nil ?_
       refine g_n_blk ?_
       obtain rfl := Option.some.inj hm
       exact g_leaf L_1 (h25) ((.cons rfl (.cons rfl (.cons rfl (.cons rfl .nil))))) (fun w hh => hh.sel [1] [1] 0 (by decide) (by decide) rfl rfl rfl)
      ·replace hm := ifF ((fun hh => Bool.noConfusion ((h22).symm.trans hh))) hm
       refine g_skip ?_
       refine g_n_blk ?_
       obtain rfl := Option.some.inj hm
       exact g_leaf l_2 (h8) ((.cons rfl (.cons rfl (.cons rfl (.cons rfl .nil))))) (fun w hh => hh.sel [1] [0] 0 (by decide) (by decide) rfl rfl rfl)
    ·intro l_4 hj
     have h15 := hj
     replace hm := h14
     refine g_n_then ?_
     refine g_region ?_
     refine g_val rfl rfl rfl (fun _ _ => v_move rfl) ?_
     obtain ⟨t16, h26, hm⟩ := bindO hm
     refine g_val rfl rfl rfl (fun _ _ => v_addc h26 rfl rfl) ?_
     refine g_val rfl rfl rfl (fun _ _ => v_assign rfl) ?_
     refine g_nil ?_
     obtain rfl := Option.some.inj hm
     refine g_n_then ?_
     exact g_again' _ l_4 rfl (h15) ((.cons rfl (.cons rfl (.cons rfl (.cons rfl .nil))))) (fun w hh => hh)
   ·replace hm := ifF (of_decide_eq_false h12) hm
    refine g_exit ?_
    refine g_x_then ?_
    refine g_x_then ?_
    refine g_x_blk ?_
    obtain rfl := Option.some.inj hm
    have hbo := h9 _ rfl
    subst hbo
    exact g_leaf l_2 (h8) ((.cons rfl .nil)) (fun w hh => hh)
  ·intro l_1 hj
   have h7 := hj
   replace hm := h6
   refine g_n_then ?_
   refine g_seq ?_
   refine g_region ?_
   refine g_val rfl rfl rfl (fun _ _ => v_move rfl) ?_
   refine g_val rfl rfl rfl (fun _ _ => v_assign rfl) ?_
   refine g_nil ?_
   refine g_n_then ?_
   refine g_ret ?_
   obtain rfl := Option.some.inj hm
   refine g_done rfl (fun w hh => (.tmp rfl .nil)) (fun w hh => ⟨l_1, rfl, h7, hh.sel [] [0] 4 (by decide) (by decide) rfl rfl rfl⟩)
end Go.Proofs.Wk

namespace Go.Pl
structure TabOK (T : List Water) (at_ : Int) : Prop where
  inc : ∀ i, i + 1 < T.length → (T.getD i default).min < (T.getD (i + 1) default).min
  rg : ∀ i, i < T.length → 0 ≤ (T.getD i default).min ∧ (T.getD i default).min < at_ ∧ 0 ≤ (T.getD i default).h ∧ (T.getD i default).h ≤ 60
theorem TabOK.nil {a : Int} : TabOK [] a := ⟨fun i h => by simp at h, fun i h => by simp at h⟩
theorem getD_snoc {α : Type} {d : α} {l : List α} {x : α} {i : Nat} : (l ++ [x]).getD i d = if i < l.length then l.getD i d else if i = l.length then x else d := by
  simp only [List.getD_eq_getElem?_getD]
  by_cases h : i < l.length
  · rw [List.getElem?_append_left h, if_pos h]
  · rw [List.getElem?_append_right (by omega), if_neg h]
    by_cases h2 : i = l.length
    · subst h2; simp
    · rw [if_neg h2, List.getElem?_eq_none (by simp; omega)]; rfl
theorem TabOK.snoc {T : List Water} {a b h : Int} (k : TabOK T a) (h0 : 0 ≤ a) (hb : a < b) (hh : 0 ≤ h ∧ h ≤ 60) : TabOK (T ++ [⟨a, h⟩]) b := by
  refine ⟨fun i hi => ?_, fun i hi => ?_⟩
  · simp only [List.length_append, List.length_singleton] at hi
    rw [getD_snoc, getD_snoc, if_pos (by omega)]
    by_cases h1 : i + 1 < T.length
    · rw [if_pos h1]; exact k.inc i h1
    · rw [if_neg h1, if_pos (by omega)]
      exact (k.rg i (by omega)).2.1
  · simp only [List.length_append, List.length_singleton] at hi
    rw [getD_snoc]
    by_cases h1 : i < T.length
    · rw [if_pos h1]; have := k.rg i h1; omega
    · rw [if_neg h1, if_pos (by omega)]; simp only; omega
def sillOK (n : Int) (x : Sill) : Prop := (-1 ≤ x.a ∧ x.a < n) ∧ (-1 ≤ x.b ∧ x.b < n) ∧ x.a ≠ x.b ∧ 0 ≤ x.h ∧ x.h ≤ 50
structure MadeOK (pl sl : Int) (s : Sands) : Prop where
  tl : 2 ≤ s.table.length ∧ s.table.length ≤ 4
  tab : ∃ a, TabOK s.table a ∧ a ≤ 140
  lo : -8 ≤ s.wind.lo ∧ s.wind.lo ≤ 0
  hi : 0 ≤ s.wind.hi ∧ s.wind.hi ≤ 8
  fl : 1 ≤ s.floors.length ∧ (s.floors.length : Int) ≤ pl
  flo : ∀ x, x ∈ s.floors → 0 ≤ x ∧ x ≤ 50
  sl : (s.sills.length : Int) ≤ sl
  sil : ∀ x, x ∈ s.sills → sillOK s.floors.length x
theorem mem_getD {α : Type} {d : α} {l : List α} {j : Nat} (h : j < l.length) : l.getD j d ∈ l := by
  simp only [List.getD_eq_getElem?_getD, List.getElem?_eq_getElem h, Option.getD_some]; exact List.getElem_mem h
theorem MadeOK.check {pl sl : Int} {s : Sands} (h : MadeOK pl sl s) (hp : pl ≤ 8) (hs : sl ≤ 16) : check s = 0 := by
  obtain ⟨a, ht, ha⟩ := h.tab
  have h1 := h.tl
  have h2 := h.fl
  have h3 := h.sl
  have e1 : inr s.table.length 2 12 = true := inr_iff.2 (by omega)
  have e2 : inr s.floors.length 1 8 = true := inr_iff.2 (by omega)
  have e3 : decide (16 < (s.sills.length : Int)) = false := by simp; omega
  have e4 : s.table.all bigW = true := all_of_getD (d := default) (fun j hj => by
    have := ht.rg j hj
    simp only [bigW, Bool.and_eq_true, inr_iff]; omega)
  have e5 : inr s.wind.lo (-50) 50 = true := inr_iff.2 (by have := h.lo; omega)
  have e6 : inr s.wind.hi (-50) 50 = true := inr_iff.2 (by have := h.hi; omega)
  have e7 : s.floors.all hgt = true := all_of_getD (d := 0) (fun j hj => by
    have := h.flo _ (mem_getD (d := 0) hj)
    rw [hgt_iff]; omega)
  have e8 : s.sills.all (fun x => hgt x.h) = true := all_of_getD (d := default) (fun j hj => by
    have := (h.sil _ (mem_getD (d := default) hj)).2.2
    rw [hgt_iff]; omega)
  have e9 : ordered s = true := by
    rw [ordered_true (fun i hi => ht.inc i (by omega))]
    have := h.lo; have := h.hi
    simp; omega
  have e10 : s.sills.all (fun x => isEnd s x.a && isEnd s x.b) = true := all_of_getD (d := default) (fun j hj => by
    have := h.sil _ (mem_getD (d := default) hj)
    unfold sillOK at this
    simp only [Bool.and_eq_true, isEnd_iff]
    omega)
  have e11 : s.sills.all (fun x => !decide (x.a = x.b)) = true := all_of_getD (d := default) (fun j hj => by
    have := h.sil _ (mem_getD (d := default) hj)
    simpa using this.2.2.1)
  simp only [Pl.check, e1, e2, e3, e4, e5, e6, e7, e8, e9, e10, e11, Bool.not_true, Bool.or_self, Bool.false_eq_true, if_false]
end Go.Pl

namespace Go.Pl
inductive Reach (s : Sands) (h : Int) : Int → Prop
  | sea : Reach s h (-1)
  | step {p q : Int} {x : Sill} : Reach s h p → x ∈ s.sills → (x.a = p ∧ x.b = q ∨ x.b = p ∧ x.a = q) → q ≠ -1 → x.h ≤ h → s.floors.getD q.toNat 0 ≤ h → Reach s h q
theorem Reach.mono {s : Sands} {h k : Int} {q : Int} (r : Reach s h q) (hk : h ≤ k) : Reach s k q := by
  induction r with
  | sea => exact .sea
  | step _ hx hj hq h1 h2 ih => exact .step ih hx hj hq (by omega) (by omega)
/-! the gates are sound -/
def Snd (s : Sands) (g : List Int) : Prop := ∀ j, j < 8 → g.getD j 0 < 1000 → Reach s (g.getD j 0) (j : Nat)
theorem snd_low {s : Sands} (hG : Good s) {p at_ : Int} (hp : at_ < 1000 → Reach s at_ p) {g : List Int} (hg : OKg g) (hs : Snd s g) {x : Sill} (hx : x ∈ s.sills) {q : Int} (hj : x.a = p ∧ x.b = q ∨ x.b = p ∧ x.a = q) (hq : -1 ≤ q) : Snd s (lowAt s at_ x.h g q) := by
  unfold lowAt
  split
  · exact hs
  · rename_i hq1
    intro j hj8 hlt
    rw [getD_set, foldmax2] at hlt ⊢
    split at hlt
    · rename_i hc
      rw [if_pos hc]
      have hjq : (j : Int) = q := by omega
      rcases Int.le_total (g.getD q.toNat 0) (max (max at_ x.h) (s.floors.getD q.toNat 0)) with hle | hle
      · rw [Int.min_eq_left hle] at hlt ⊢
        have := hs j hj8 (by rw [← hc.1]; exact hlt)
        rw [hc.1]; exact this
      · rw [Int.min_eq_right hle] at hlt ⊢
        rw [hjq]
        exact .step ((hp (by omega)).mono (by omega)) hx hj hq1 (by omega) (by omega)
    · rename_i hc
      rw [if_neg hc]
      exact hs j hj8 hlt
theorem snd_lower {s : Sands} (hG : Good s) {p at_ : Int} (ha : 0 ≤ at_) (hp : at_ < 1000 → Reach s at_ p) {g : List Int} (hg : OKg g) (hs : Snd s g) : Snd s (lowerF s p at_ g) := by
  have key : ∀ (l : List Sill), (∀ x ∈ l, x ∈ s.sills) → ∀ g, OKg g → Snd s g → Snd s (l.foldl (lowStep s p at_) g) := by
    intro l
    induction l with
    | nil => intro _ g _ h; exact h
    | cons x l ih =>
      intro hl g hg hs
      have hx := hl x List.mem_cons_self
      obtain ⟨k, hk, hkx⟩ := List.mem_iff_getElem.1 hx
      have e : s.sills.getD k default = x := by simp [List.getD_eq_getElem?_getD, hk, hkx]
      have h1 := hG.sa k hk
      have h2 := hG.sb k hk
      rw [e] at h1 h2
      refine ih (fun y hy => hl y (List.mem_cons_of_mem _ hy)) _ (lowStep_ok hg ha) ?_
      unfold lowStep
      split
      · rename_i h; exact snd_low hG hp hg hs hx (.inl ⟨h, rfl⟩) h2.1
      · split
        · rename_i h; exact snd_low hG hp hg hs hx (.inr ⟨h, rfl⟩) h1.1
        · exact hs
  exact key s.sills (fun _ h => h) g hg hs
theorem snd_round {s : Sands} (hG : Good s) {g : List Int} (hg : OKg g) (hs : Snd s g) : ∀ k, k ≤ 8 → Snd s (roundN s g k) ∧ OKg (roundN s g k) := by
  intro k
  induction k with
  | zero => intro _; exact ⟨snd_lower hG (Int.le_refl 0) (fun _ => .sea) hg hs, (roundN_ok hg).1⟩
  | succ k ih =>
    intro hk
    obtain ⟨h1, h2⟩ := ih (by omega)
    refine ⟨?_, (roundN_ok hg).1⟩
    rw [roundN_succ]
    exact snd_lower hG (h2.lo k) (fun hlt => h1 k (by omega) hlt) h2 h1
theorem gates_snd {s : Sands} (hG : Good s) : Snd s (gatesOf s) := by
  have key : ∀ (k : Nat) (g : List Int), OKg g → Snd s g → Snd s (fixF s k g) := by
    intro k
    induction k with
    | zero => intro g _ h; exact h
    | succ k ih =>
      intro g hg hs
      unfold fixF
      split
      · exact hs
      · have := snd_round hG hg hs s.floors.length (by have := hG.fl; omega)
        exact ih _ this.2 this.1
  refine key _ _ initG_ok (fun j hj hlt => ?_)
  have : ∀ j, j < 8 → (initG 8).getD j 0 = 1000 := by decide
  rw [this j hj] at hlt
  exact absurd hlt (by omega)
/-! … and closed -/
theorem lower_fix {s : Sands} : lowerF s (-1) 0 (gatesOf s) = gatesOf s ∧ ∀ p, p < s.floors.length → lowerF s (p : Nat) ((gatesOf s).getD p 0) (gatesOf s) = gatesOf s := by
  have hf := gates_fixed (s := s)
  have hg := gates_ok (s := s)
  have h1 := lowerF_ok (s := s) (p := -1) hg (Int.le_refl 0)
  have h2 := foldl_le (I := OKg) (f := fun g (p : Nat) => lowerF s (p : Nat) (g.getD p 0) g) (fun g x h => (lowerF_ok h (h.lo x)).1) (fun g x h => (lowerF_ok h (h.lo x)).2) (List.range s.floors.length) _ h1.1
  have h3 : (List.range s.floors.length).foldl (fun g (p : Nat) => lowerF s (p : Nat) (g.getD p 0) g) (lowerF s (-1) 0 (gatesOf s)) = gatesOf s := hf
  rw [h3] at h2
  have e1 : lowerF s (-1) 0 (gatesOf s) = gatesOf s := h1.2.antisymm h2.2
  rw [e1] at h3
  refine ⟨e1, fun p hp => ?_⟩
  exact foldl_fix (I := OKg) (fun g x h => (lowerF_ok h (h.lo x)).1) (fun g x h => (lowerF_ok h (h.lo x)).2) _ _ hg h3 p (List.mem_range.2 hp)
theorem low_le {s : Sands} {p at_ : Int} {g : List Int} (hg : OKg g) (ha : 0 ≤ at_) (hf : lowerF s p at_ g = g) {x : Sill} (hx : x ∈ s.sills) {q : Int} (hj : x.a = p ∧ x.b = q ∨ x.b = p ∧ x.a = q) (hne : x.a ≠ x.b) (hq : 0 ≤ q ∧ q < 8) : g.getD q.toNat 0 ≤ max (max at_ x.h) (s.floors.getD q.toNat 0) := by
  have h1 := foldl_fix (I := OKg) (fun _ _ h => lowStep_ok h ha) (fun _ _ _ => lowStep_le) _ _ hg hf x hx
  have h2 : lowAt s at_ x.h g q = g := by
    unfold lowStep at h1
    rcases hj with ⟨ha, hb⟩ | ⟨hb, ha⟩
    · rw [if_pos ha, hb] at h1; exact h1
    · rw [if_neg (by omega), if_pos hb, ha] at h1; exact h1
  have h3 := congrArg (fun l => l.getD q.toNat 0) h2
  simp only [lowAt] at h3
  rw [if_neg (by omega), getD_set, if_pos ⟨rfl, by rw [hg.len]; omega⟩, foldmax2] at h3
  omega
theorem gates_le {s : Sands} (hG : Good s) {h : Int} (h0 : 0 ≤ h) {q : Int} (r : Reach s h q) : q = -1 ∨ ((0 ≤ q ∧ q < s.floors.length) ∧ (gatesOf s).getD q.toNat 0 ≤ h) := by
  have hfl := hG.fl
  induction r with
  | sea => exact .inl rfl
  | @step p q x r hx hj hq h1 h2 ih =>
    right
    obtain ⟨k, hk, hkx⟩ := List.mem_iff_getElem.1 hx
    have e : s.sills.getD k default = x := by simp [List.getD_eq_getElem?_getD, hk, hkx]
    have ha := hG.sa k hk
    have hb := hG.sb k hk
    have hne := hG.ne k hk
    rw [e] at ha hb hne
    have hqr : 0 ≤ q ∧ q < s.floors.length := by rcases hj with ⟨h3, h4⟩ | ⟨h3, h4⟩ <;> omega
    refine ⟨hqr, ?_⟩
    have hf := lower_fix (s := s)
    rcases ih with rfl | ⟨hp, hle⟩
    · have := low_le gates_ok (Int.le_refl 0) hf.1 hx hj hne (by omega)
      omega
    · have h5 := hf.2 p.toNat (by omega)
      rw [Int.toNat_of_nonneg hp.1] at h5
      have := low_le gates_ok (gates_ok.lo _) h5 hx hj hne (by omega)
      omega
end Go.Pl

namespace Go.Proofs.Wk
open Go Go.Gx Go.Pl
set_option linter.unusedVariables false
/-! ### copies -/
theorem dup_water {l : List Water} (h : l.length ≤ 1000) : m_laurelkit_Dup_tideWater l = some l := by
  unfold m_laurelkit_Dup_tideWater
  rw [makec_eq ⟨by omega, by omega, by omega, by omega⟩]
  simp only [Option.bind_some]
  rw [appc_eq (by simp; omega)]
  simp
theorem dup_int {l : List Int} (h : l.length ≤ 1000) : m_laurelkit_Dup_int l = some l := by
  unfold m_laurelkit_Dup_int
  rw [makec_eq ⟨by omega, by omega, by omega, by omega⟩]
  simp only [Option.bind_some]
  rw [appc_eq (by simp; omega)]
  simp
theorem dup_sill {l : List Sill} (h : l.length ≤ 1000) : m_laurelkit_Dup_tideSill l = some l := by
  unfold m_laurelkit_Dup_tideSill
  rw [makec_eq ⟨by omega, by omega, by omega, by omega⟩]
  simp only [Option.bind_some]
  rw [appc_eq (by simp; omega)]
  simp
/-- sands whose lists are short -/
structure Short (s : Sands) : Prop where
  t : s.table.length ≤ 100
  f : s.floors.length ≤ 100
  s : s.sills.length ≤ 100
theorem own_eq {s : Sands} (h : Short s) : m_laurellaw01_Own s = some s := by
  have h1 := h.t
  have h2 := h.f
  have h3 := h.s
  unfold m_laurellaw01_Own
  rw [dup_water (by omega), dup_int (by omega), dup_sill (by omega)]
  rfl
theorem take_snoc {α : Type} {l : List α} {k : Nat} (d : α) (h : k < l.length) : l.take k ++ [l.getD k d] = l.take (k + 1) := by
  rw [List.take_succ_eq_append_getElem h, List.getD_eq_getElem?_getD]
  simp [h]
theorem Good.short {s : Sands} (h : Good s) : Short s := ⟨by have := h.tl; omega, by have := h.fl; omega, by have := h.sl; omega⟩
theorem x_awake_eq : x_awake = some true := rfl
/-! ### sands that pass -/
theorem check_of_good {s : Sands} (h : Good s) : check s = 0 := by
  have h1 := h.tl
  have h2 := h.fl
  have h3 := h.sl
  have e1 : inr s.table.length 2 12 = true := inr_iff.2 (by omega)
  have e2 : inr s.floors.length 1 8 = true := inr_iff.2 (by omega)
  have e3 : decide (16 < (s.sills.length : Int)) = false := by simp; omega
  have e4 : s.table.all bigW = true := all_of_getD (d := default) (fun j hj => by
    have := h.tab j hj
    simp only [bigW, Bool.and_eq_true, inr_iff]; omega)
  have e5 : inr s.wind.lo (-50) 50 = true := inr_iff.2 (by have := h.lo; omega)
  have e6 : inr s.wind.hi (-50) 50 = true := inr_iff.2 (by have := h.hi; omega)
  have e7 : s.floors.all hgt = true := all_of_getD (d := 0) (fun j hj => by
    have := h.flo j hj
    rw [hgt_iff]; omega)
  have e8 : s.sills.all (fun x => hgt x.h) = true := all_of_getD (d := default) (fun j hj => by
    have := h.sh j hj
    rw [hgt_iff]; omega)
  have e9 : ordered s = true := by
    rw [ordered_true h.inc]
    simp [h.wind]
  have e10 : s.sills.all (fun x => isEnd s x.a && isEnd s x.b) = true := all_of_getD (d := default) (fun j hj => by
    have ha := h.sa j hj
    have hb := h.sb j hj
    simp only [Bool.and_eq_true, isEnd_iff]
    omega)
  have e11 : s.sills.all (fun x => !decide (x.a = x.b)) = true := all_of_getD (d := default) (fun j hj => by
    have := h.ne j hj
    simpa using this)
  unfold check
  rw [e1, e2, e3, e4, e5, e6, e7, e8, e9, e10, e11]
  rfl
theorem x_Turn_eq {s : Sands} {p m : Int} (hs : Short s) : x_Turn s p m = some (TurnR s p m) := by
  have h1 := hs.t
  have h2 := hs.f
  have h3 := hs.s
  unfold x_Turn
  rw [if_pos ⟨by omega, by omega, by omega⟩]
end Go.Proofs.Wk

namespace Go.Proofs.Wk
open Go Go.Gx Go.Pl
set_option linter.unusedVariables false
/-- the runs told so far, and the open one -/
structure SI (p : Int → Bool) (a : Int) (k : Nat) (x : SpanSt) : Prop where
  acc : ∀ y, y ∈ x.acc → a ≤ y.lo ∧ y.lo ≤ y.hi ∧ y.hi + 1 < a + k ∧ (∀ m, y.lo ≤ m → m ≤ y.hi → p m = true) ∧ p (y.hi + 1) = false ∧ (y.lo = a ∨ p (y.lo - 1) = false)
  op : x.op = true → a ≤ x.fr ∧ x.fr < a + k ∧ (∀ m, x.fr ≤ m → m < a + k → p m = true) ∧ (x.fr = a ∨ p (x.fr - 1) = false)
  cov : ∀ m, a ≤ m → m < a + k → p m = true → (∃ y, y ∈ x.acc ∧ y.lo ≤ m ∧ m ≤ y.hi) ∨ (x.op = true ∧ x.fr ≤ m)
  shut : x.op = false → k = 0 ∨ p (a + k - 1) = false
theorem si_n {p : Int → Bool} {a : Int} : ∀ k, SI p a k (spansN p a k)
  | 0 => ⟨fun y hy => by simp [spansN] at hy, fun h => by simp [spansN] at h, fun m h1 h2 => by omega, fun _ => .inl rfl⟩
  | k + 1 => by
    have ih := si_n (p := p) (a := a) k
    rw [spansN_succ]
    generalize hx : spansN p a k = x at ih
    unfold spanStep
    cases hp : p (a + k) with
    | true =>
      cases ho : x.op with
      | false =>
        refine ⟨fun y hy => ?_, fun _ => ?_, fun m h1 h2 h3 => ?_, fun h => by simp at h⟩
        · have := ih.acc y hy; exact ⟨this.1, this.2.1, by omega, this.2.2.2⟩
        · refine ⟨by simp only; omega, by simp only; omega, fun m h1 h2 => ?_, ?_⟩
          · have : m = a + k := by simp only at h1; omega
            rw [this, hp]
          · rcases ih.shut ho with h | h
            · subst h; simp
            · right; exact h
        · by_cases hm : m < a + k
          · rcases ih.cov m h1 hm h3 with h | h
            · exact .inl h
            · rw [ho] at h; exact absurd h.1 (by decide)
          · exact .inr ⟨rfl, by simp only; omega⟩
      | true =>
        refine ⟨fun y hy => ?_, fun _ => ?_, fun m h1 h2 h3 => ?_, fun h => by simp only at h; rw [ho] at h; simp at h⟩
        · have := ih.acc y hy; exact ⟨this.1, this.2.1, by omega, this.2.2.2⟩
        · have := ih.op ho
          refine ⟨this.1, by have := this.2.1; simp only; omega, fun m h1 h2 => ?_, this.2.2.2⟩
          by_cases hm : m < a + k
          · exact this.2.2.1 m h1 hm
          · have : m = a + k := by omega
            rw [this, hp]
        · by_cases hm : m < a + k
          · exact ih.cov m h1 hm h3
          · exact .inr ⟨ho, by have := (ih.op ho).2.1; simp only; omega⟩
    | false =>
      unfold shutF
      cases ho : x.op with
      | false =>
        refine ⟨fun y hy => ?_, fun h => by simp at h, fun m h1 h2 h3 => ?_, fun _ => .inr (by rw [← hp]; congr 1; omega)⟩
        · have := ih.acc y hy; exact ⟨this.1, this.2.1, by omega, this.2.2.2⟩
        · by_cases hm : m < a + k
          · rcases ih.cov m h1 hm h3 with h | h
            · exact .inl h
            · rw [ho] at h; exact absurd h.1 (by decide)
          · have : m = a + k := by omega
            rw [this, hp] at h3; exact absurd h3 (by decide)
      | true =>
        have hop := ih.op ho
        refine ⟨fun y hy => ?_, fun h => by simp at h, fun m h1 h2 h3 => ?_, fun _ => .inr (by rw [← hp]; congr 1; omega)⟩
        · simp only [List.mem_append, List.mem_singleton] at hy
          rcases hy with hy | rfl
          · have := ih.acc y hy; exact ⟨this.1, this.2.1, by omega, this.2.2.2⟩
          · refine ⟨hop.1, by have := hop.2.1; simp only; omega, by simp only; omega, fun m h1 h2 => hop.2.2.1 m h1 (by simp only at h2; omega), ?_, hop.2.2.2⟩
            simp only
            rw [← hp]; congr 1; omega
        · by_cases hm : m < a + k
          · rcases ih.cov m h1 hm h3 with ⟨y, hy, h⟩ | h
            · exact .inl ⟨y, List.mem_append_left _ hy, h⟩
            · exact .inl ⟨_, List.mem_append_right _ List.mem_cons_self, h.2, by simp only; omega⟩
          · have : m = a + k := by omega
            rw [this, hp] at h3; exact absurd h3 (by decide)
/-- the runs of a day are the longest ones, and all of them -/
theorem spans_runs {s : Sands} (hG : Good s) {p : Int → Bool} :
    (∀ y, y ∈ spansF s p → firstM s ≤ y.lo ∧ y.lo ≤ y.hi ∧ y.hi ≤ lastM s ∧ (∀ m, y.lo ≤ m → m ≤ y.hi → p m = true) ∧ (y.hi = lastM s ∨ p (y.hi + 1) = false) ∧ (y.lo = firstM s ∨ p (y.lo - 1) = false)) ∧
    ∀ m, dayF s m = true → p m = true → ∃ y, y ∈ spansF s p ∧ y.lo ≤ m ∧ m ≤ y.hi := by
  have hds := day_span hG
  have hn : ((dayN s : Nat) : Int) = lastM s - firstM s + 1 := by unfold dayN; omega
  have ih := si_n (p := p) (a := firstM s) (dayN s)
  unfold spansF
  generalize spansN p (firstM s) (dayN s) = x at ih
  have key : ∀ y, y ∈ x.acc → firstM s ≤ y.lo ∧ y.lo ≤ y.hi ∧ y.hi ≤ lastM s ∧ (∀ m, y.lo ≤ m → m ≤ y.hi → p m = true) ∧ (y.hi = lastM s ∨ p (y.hi + 1) = false) ∧ (y.lo = firstM s ∨ p (y.lo - 1) = false) := fun y hy => by
    obtain ⟨h1, h2, h3, h4, h5, h6⟩ := ih.acc y hy
    exact ⟨h1, h2, by omega, h4, .inr h5, h6⟩
  unfold shutF
  cases ho : x.op with
  | false =>
    refine ⟨key, fun m hd hp => ?_⟩
    simp only [dayF, inr_iff] at hd
    rcases ih.cov m hd.1 (by omega) hp with h | h
    · exact h
    · rw [ho] at h; exact absurd h.1 (by decide)
  | true =>
    have hop := ih.op ho
    refine ⟨fun y hy => ?_, fun m hd hp => ?_⟩
    · simp only [List.mem_append, List.mem_singleton] at hy
      rcases hy with hy | rfl
      · exact key y hy
      · exact ⟨hop.1, by simp only; omega, by simp only; omega, fun m h1 h2 => hop.2.2.1 m h1 (by simp only at h2; omega), .inl (by simp only; omega), hop.2.2.2⟩
    · simp only [dayF, inr_iff] at hd
      rcases ih.cov m hd.1 (by omega) hp with ⟨y, hy, h⟩ | h
      · exact ⟨y, List.mem_append_left _ hy, h⟩
      · exact ⟨_, List.mem_append_right _ List.mem_cons_self, h.2, by simp only; omega⟩
theorem idxf_holds {α : Type} {p : α → Bool} {l : List α} {d : α} (h : 0 ≤ idxf p l) : p (l.getD (idxf p l).toNat d) = true := by
  unfold idxf at h ⊢
  cases hf : l.findIdx? p with
  | none => rw [hf] at h; exact absurd h (by decide)
  | some i =>
    rw [List.findIdx?_eq_some_iff_getElem] at hf
    obtain ⟨h1, h2, _⟩ := hf
    simpa [List.getD_eq_getElem?_getD, h1] using h2
/-- until when one may stay -/
theorem turn_spec {s : Sands} (hG : Good s) {p m : Int} (hp : isPlace s p = true) (hd : dayF s m = true) (h0 : stateF s m p = 0) :
    ∃ T, TurnR s p m = (T, 0) ∧ m ≤ T ∧ T ≤ lastM s ∧ (∀ k, m ≤ k → k ≤ T → stateF s k p = 0) ∧ (T = lastM s ∨ stateF s (T + 1) p ≠ 0) := by
  obtain ⟨hr, hc⟩ := spans_runs hG (p := isState s p 0)
  obtain ⟨y, hy, hy1, hy2⟩ := hc m hd (by simp [isState, h0])
  have hE : spansE s p 0 = 0 := by
    unfold spansE
    rw [check_of_good hG, hp]
    rfl
  have hi : 0 ≤ idxf (fun x : Span => inr m x.lo x.hi) (spansF s (isState s p 0)) := by
    have := idxf_nonneg (p := fun x : Span => inr m x.lo x.hi) (l := spansF s (isState s p 0))
    have ha : (spansF s (isState s p 0)).any (fun x : Span => inr m x.lo x.hi) = true := List.any_eq_true.2 ⟨y, hy, inr_iff.2 ⟨hy1, hy2⟩⟩
    rw [ha] at this
    exact of_decide_eq_true this
  have hrg := idxf_range (p := fun x : Span => inr m x.lo x.hi) (l := spansF s (isState s p 0))
  unfold TurnR
  rw [hE, hd, if_neg (by simp), if_neg (by simp), if_neg (by omega)]
  have hin := idxf_holds (d := default) (p := fun x : Span => inr m x.lo x.hi) (l := spansF s (isState s p 0)) hi
  generalize idxf (fun x : Span => inr m x.lo x.hi) (spansF s (isState s p 0)) = i at hi hrg hin
  have hm := mem_getD (d := (default : Span)) (l := spansF s (isState s p 0)) (j := i.toNat) (by omega)
  obtain ⟨_, _, h3, h4, h5, _⟩ := hr _ hm
  have hin2 := inr_iff.1 hin
  refine ⟨_, rfl, hin2.2, h3, fun k h1 h2 => ?_, ?_⟩
  · have := h4 k (by omega) h2
    exact of_decide_eq_true this
  · rcases h5 with h5 | h5
    · exact .inl h5
    · exact .inr (of_decide_eq_false h5)
/-! ### the table of ways is whole -/
def joins (x : Sill) (p q : Int) : Prop := x.a = p ∧ x.b = q ∨ x.b = p ∧ x.a = q
end Go.Proofs.Wk

namespace Go.Proofs.Wk
open Go Go.Gx Go.Pl
set_option linter.unusedVariables false
/-! ### the reference's gates -/
theorem has_eq {l : List Int} {n : Int} (hl : l.length ≤ 1000000) : m_laurelref01_has l n = some (hasI l n) := by
  unfold m_laurelref01_has
  have key := iterM_any0 (f := m_laurelref01_has_L0 l n) l.length (fun k => decide (l.getD k 0 = n)) true (fun k hk => by
    unfold m_laurelref01_has_L0
    rw [if_pos (by omega), ix_nat 0 hk, Option.bind_some]
    by_cases h : l.getD k 0 = n
    · rw [if_pos h]; simpa using h
    · rw [if_neg h, addc_eq (by omega), Option.bind_some]; simpa using h) (by
    unfold m_laurelref01_has_L0
    rw [if_neg (by omega)]) (N := FU) (FU_lt (by omega))
  rw [key, Option.bind_some]
  have e : (List.range l.length).any (fun k => decide (l.getD k 0 = n)) = hasI l n := by
    rw [any_range (l := l) (d := 0) (p := fun x => decide (x = n))]
    unfold hasI
    congr 1
    funext x
    rw [Bool.eq_iff_iff]; simp [eq_comm]
  rw [e]
  cases hasI l n <;> rfl
/-- one step of the water -/
structure Stp (s : Sands) (sl pl : List Int) (h a q : Int) (k : Nat) : Prop where
  kl : k < s.sills.length
  jn : joins (s.sills.getD k default) a q
  qn : 0 ≤ q
  sn : hasI sl (k : Int) = false
  pn : hasI pl q = false
  hh : (s.sills.getD k default).h ≤ h
  ff : s.floors.getD q.toNat 0 ≤ h
/-- a way on, that meets no place twice -/
inductive Path (s : Sands) (sl pl : List Int) (h to : Int) : List Int → Int → Prop
  | done {met : List Int} : Path s sl pl h to met to
  | step {met : List Int} {a q : Int} {k : Nat} : Stp s sl pl h a q k → q ∉ met → Path s sl pl h to (met ++ [q]) q → Path s sl pl h to met a
/-- what water reaches, some sills and places left out -/
inductive Rch (s : Sands) (sl pl : List Int) (h : Int) : Int → Prop
  | sea : Rch s sl pl h (-1)
  | step {a q : Int} {k : Nat} : Rch s sl pl h a → Stp s sl pl h a q k → Rch s sl pl h q
theorem Path.rch {s : Sands} {sl pl : List Int} {h to : Int} {met : List Int} {a : Int} (p : Path s sl pl h to met a) (ha : Rch s sl pl h a) : Rch s sl pl h to := by
  induction p with
  | done => exact ha
  | step hs _ _ ih => exact ih (.step ha hs)
/-- steps one behind the other -/
def Chn (s : Sands) (sl pl : List Int) (h : Int) : Int → List Int → Prop
  | _, [] => True
  | a, q :: l => (∃ k, Stp s sl pl h a q k) ∧ Chn s sl pl h q l
def endOf : Int → List Int → Int
  | a, [] => a
  | _, q :: l => endOf q l
theorem Chn.snoc {s : Sands} {sl pl : List Int} {h q : Int} {k : Nat} : ∀ {l : List Int} {a : Int}, Chn s sl pl h a l → Stp s sl pl h (endOf a l) q k → Chn s sl pl h a (l ++ [q]) ∧ endOf a (l ++ [q]) = q
  | [], a, _, hs => ⟨⟨⟨k, hs⟩, trivial⟩, rfl⟩
  | x :: l, a, hc, hs => by
    obtain ⟨h1, h2⟩ := Chn.snoc (l := l) (a := x) hc.2 hs
    exact ⟨⟨hc.1, h1⟩, h2⟩
theorem Chn.drop {s : Sands} {sl pl : List Int} {h q : Int} : ∀ {l b : List Int} {a : Int}, Chn s sl pl h a (l ++ q :: b) → Chn s sl pl h q b ∧ endOf a (l ++ q :: b) = endOf q b
  | [], b, a, hc => ⟨hc.2, rfl⟩
  | x :: l, b, a, hc => Chn.drop (l := l) hc.2
theorem Chn.once {s : Sands} {sl pl : List Int} {h : Int} : ∀ (l : List Int) (a : Int), Chn s sl pl h a l → ∃ l', Chn s sl pl h a l' ∧ endOf a l' = endOf a l ∧ l'.Nodup
  | [], a, _ => ⟨[], trivial, rfl, List.nodup_nil⟩
  | q :: l, a, hc => by
    obtain ⟨l', h1, h2, h3⟩ := Chn.once l q hc.2
    by_cases hq : q ∈ l'
    · obtain ⟨x, y, rfl⟩ := List.append_of_mem hq
      obtain ⟨h4, h5⟩ := Chn.drop h1
      have h6 : (q :: y).Nodup := (List.nodup_append.1 h3).2.1
      exact ⟨q :: y, ⟨hc.1, h4⟩, by show endOf q y = endOf q l; rw [← h5, h2], h6⟩
    · exact ⟨q :: l', ⟨hc.1, h1⟩, h2, List.nodup_cons.2 ⟨hq, h3⟩⟩
theorem Chn.path {s : Sands} {sl pl : List Int} {h : Int} : ∀ (l : List Int) (a : Int) (met : List Int), Chn s sl pl h a l → l.Nodup → (∀ x ∈ l, x ∉ met) → Path s sl pl h (endOf a l) met a
  | [], a, met, _, _, _ => .done
  | q :: l, a, met, hc, hn, hm => by
    obtain ⟨k, hk⟩ := hc.1
    have h1 := List.nodup_cons.1 hn
    refine .step hk (hm q List.mem_cons_self) (Chn.path l q (met ++ [q]) hc.2 h1.2 (fun x hx hxm => ?_))
    rcases List.mem_append.1 hxm with h2 | h2
    · exact hm x (List.mem_cons_of_mem _ hx) h2
    · simp at h2; subst h2; exact h1.1 hx
theorem Rch.path {s : Sands} {sl pl : List Int} {h q : Int} (r : Rch s sl pl h q) : Path s sl pl h q [] (-1) := by
  have : ∃ l, Chn s sl pl h (-1) l ∧ endOf (-1) l = q := by
    induction r with
    | sea => exact ⟨[], trivial, rfl⟩
    | step _ hs ih =>
      obtain ⟨l, h1, h2⟩ := ih
      subst h2
      exact ⟨_, Chn.snoc h1 hs⟩
  obtain ⟨l, h1, h2⟩ := this
  obtain ⟨l', h3, h4, h5⟩ := Chn.once l _ h1
  have := Chn.path l' (-1) [] h3 h5 (fun x _ hx => by simp at hx)
  rw [h4, h2] at this
  exact this
/-- what is met: places, each once -/
structure Met (s : Sands) (met : List Int) : Prop where
  nd : met.Nodup
  rg : ∀ x ∈ met, 0 ≤ x ∧ x < s.floors.length
theorem Met.len {s : Sands} {met : List Int} (h : Met s met) : met.length ≤ s.floors.length := by
  have h1 := nodup_map (f := fun k : Int => k.toNat) h.nd (fun x hx y hy he => by
    have a := h.rg x hx
    have b := h.rg y hy
    have hc : x.toNat = y.toNat := he
    omega)
  have h2 := nodup_lt s.floors.length _ h1 (fun x hx => by
    obtain ⟨k, hk, rfl⟩ := List.mem_map.1 hx
    have a := h.rg k hk
    have : (fun k : Int => k.toNat) k = k.toNat := rfl
    omega)
  simpa using h2
theorem Met.snoc {s : Sands} {met : List Int} (h : Met s met) {q : Int} (hq : 0 ≤ q ∧ q < s.floors.length) (hn : q ∉ met) : Met s (met ++ [q]) := by
  refine ⟨List.nodup_append.2 ⟨h.nd, by simp, fun a ha b hb hab => ?_⟩, fun x hx => ?_⟩
  · simp at hb; subst hb; subst hab; exact hn ha
  · rcases List.mem_append.1 hx with hx | hx
    · exact h.rg x hx
    · simp at hx; subst hx; exact hq
theorem hasI_iff {l : List Int} {n : Int} : hasI l n = true ↔ n ∈ l := by
  unfold hasI
  rw [List.any_eq_true]
  constructor
  · rintro ⟨x, hx, h⟩; have := of_decide_eq_true h; subst this; exact hx
  · intro h; exact ⟨n, h, by simp⟩
/-- what 'least' says -/
structure LOK (s : Sands) (sl pl : List Int) (to : Int) (met : List Int) (a crest v : Int) : Prop where
  snd : v = 5000 ∨ ((crest ≤ v ∧ v ≤ 999) ∧ Path s sl pl v to met a)
  cmp : ∀ h, crest ≤ h → Path s sl pl h to met a → v ≤ h
theorem joins_one {x : Sill} {a p q : Int} (hne : x.a ≠ x.b) (h1 : joins x a p) (h2 : joins x a q) : p = q := by
  rcases h1 with ⟨h3, h4⟩ | ⟨h3, h4⟩ <;> rcases h2 with ⟨h5, h6⟩ | ⟨h5, h6⟩ <;> omega
/-- the loop's state -/
structure LIn (s : Sands) (sl pl : List Int) (to : Int) (met : List Int) (a crest out : Int) (i : Nat) : Prop where
  snd : out = 5000 ∨ ((crest ≤ out ∧ out ≤ 999) ∧ Path s sl pl out to met a)
  cmp : ∀ h (k : Nat) q, crest ≤ h → k < i → Stp s sl pl h a q k → q ∉ met → Path s sl pl h to (met ++ [q]) q → out ≤ h
theorem LIn.skip {s : Sands} {sl pl : List Int} {to : Int} {met : List Int} {a crest out : Int} {i : Nat} (h : LIn s sl pl to met a crest out i) (hs : ∀ h q, Stp s sl pl h a q i → q ∉ met → False) : LIn s sl pl to met a crest out (i + 1) := by
  refine ⟨h.snd, fun hh k q hc hk hst hq hp => ?_⟩
  by_cases he : k = i
  · subst he; exact (hs hh q hst hq).elim
  · exact h.cmp hh k q hc (by omega) hst hq hp
theorem least_tail {s : Sands} (hG : Good s) {sl pl : List Int} (hsl : sl.length ≤ 1000) (hpl : pl.length ≤ 1000) {to : Int} {met : List Int} (hm : Met s met) {a crest out : Int} (hcr : 0 ≤ crest ∧ crest ≤ 999) {i : Nat} (hi : i < s.sills.length) (hL : LIn s sl pl to met a crest out i)
    {rec_ : Sands → Int → List Int → Int → Int → List Int → List Int → Option Int}
    (hrec : ∀ q c : Int, 0 ≤ q ∧ q < s.floors.length → q ∉ met → 0 ≤ c ∧ c ≤ 999 → ∃ v, rec_ s q (met ++ [q]) c to sl pl = some v ∧ LOK s sl pl to (met ++ [q]) q c v)
    {nx : Int} (hj : joins (s.sills.getD i default) a nx) :
    ∃ out', ((if nx < 0 then some true else
      (m_laurelref01_has met nx).bind fun t53 => if t53 = true then some true else
        (m_laurelref01_has sl (i : Int)).bind fun t58 => if t58 = true then some true else
          (m_laurelref01_has pl nx).bind fun t63 => some t63).bind fun o_4 =>
      if o_4 = true then some out else
        (appc 8 [] met).bind fun t67 => (appc 8 t67 [nx]).bind fun t70 => (ix s.floors nx).bind fun t81 =>
          (rec_ s nx t70 (max (max crest (s.sills.getD i default).h) t81) to sl pl).bind fun t87 => some (min out t87)) = some out' ∧ LIn s sl pl to met a crest out' (i + 1) := by
  have hne := hG.ne i hi
  have ha := hG.sa i hi
  have hb := hG.sb i hi
  have hsh := hG.sh i hi
  have hml := hm.len
  have hfl := hG.fl
  have hnx : -1 ≤ nx ∧ nx < s.floors.length := by rcases hj with ⟨h1, h2⟩ | ⟨h1, h2⟩ <;> omega
  by_cases h0 : nx < 0
  · rw [if_pos h0, Option.bind_some, if_pos rfl]
    exact ⟨_, rfl, hL.skip fun h q hst _ => by
      have := joins_one hne hj hst.jn
      have := hst.qn
      omega⟩
  rw [if_neg h0, has_eq (by omega), Option.bind_some]
  by_cases h1 : hasI met nx = true
  · rw [if_pos h1, Option.bind_some, if_pos rfl]
    exact ⟨_, rfl, hL.skip fun h q hst hq => by
      have := joins_one hne hj hst.jn
      subst this
      exact hq (hasI_iff.1 h1)⟩
  rw [if_neg h1, has_eq (by omega), Option.bind_some]
  by_cases h2 : hasI sl (i : Int) = true
  · rw [if_pos h2, Option.bind_some, if_pos rfl]
    exact ⟨_, rfl, hL.skip fun h q hst hq => by
      have := hst.sn
      rw [h2] at this
      exact absurd this (by decide)⟩
  rw [if_neg h2, has_eq (by omega), Option.bind_some, Option.bind_some]
  by_cases h3 : hasI pl nx = true
  · rw [if_pos h3]
    exact ⟨_, rfl, hL.skip fun h q hst hq => by
      have := joins_one hne hj hst.jn
      subst this
      have := hst.pn
      rw [h3] at this
      exact absurd this (by decide)⟩
  have hflo := hG.flo nx.toNat (by omega)
  have hnm : nx ∉ met := fun h => h1 (hasI_iff.2 h)
  rw [if_neg h3, appc_eq (by simp only [List.length_nil]; omega), Option.bind_some, List.nil_append, appc_eq (by simp only [List.length_singleton]; omega), Option.bind_some, ix_eq 0 (by omega) hnx.2, Option.bind_some]
  obtain ⟨v, hv, hok⟩ := hrec nx (max (max crest (s.sills.getD i default).h) (s.floors.getD nx.toNat 0)) ⟨by omega, hnx.2⟩ hnm (by omega)
  rw [hv, Option.bind_some]
  refine ⟨_, rfl, ?_, fun h k q hc hk hst hq hp => ?_⟩
  · rcases hok.snd with rfl | ⟨hvb, hvp⟩
    · rcases hL.snd with rfl | h4
      · left; omega
      · right
        rw [show min out 5000 = out by omega]
        exact h4
    · have hstep : Path s sl pl v to met a := by
        refine .step (k := i) (q := nx) ⟨hi, hj, by omega, ?_, ?_, by omega, by omega⟩ hnm hvp
        · cases h5 : hasI sl (i : Int) with
          | false => rfl
          | true => exact absurd h5 h2
        · cases h5 : hasI pl nx with
          | false => rfl
          | true => exact absurd h5 h3
      right
      rcases hL.snd with rfl | ⟨h4, h5⟩
      · rw [show min 5000 v = v by omega]
        exact ⟨⟨by omega, hvb.2⟩, hstep⟩
      · by_cases h6 : out ≤ v
        · rw [show min out v = out by omega]
          exact ⟨h4, h5⟩
        · rw [show min out v = v by omega]
          exact ⟨⟨by omega, hvb.2⟩, hstep⟩
  · by_cases he : k = i
    · subst he
      have := joins_one hne hj hst.jn
      subst this
      have h4 := hst.hh
      have h5 := hst.ff
      have := hok.cmp h (by omega) hp
      omega
    · have := hL.cmp h k q hc (by omega) hst hq hp
      omega
theorem least_step {s : Sands} (hG : Good s) {sl pl : List Int} (hsl : sl.length ≤ 1000) (hpl : pl.length ≤ 1000) {to : Int} {met : List Int} (hm : Met s met) {a crest out : Int} (hcr : 0 ≤ crest ∧ crest ≤ 999) {i : Nat} (hi : i < s.sills.length) (hL : LIn s sl pl to met a crest out i)
    {rec_ : Sands → Int → List Int → Int → Int → List Int → List Int → Option Int}
    (hrec : ∀ q c : Int, 0 ≤ q ∧ q < s.floors.length → q ∉ met → 0 ≤ c ∧ c ≤ 999 → ∃ v, rec_ s q (met ++ [q]) c to sl pl = some v ∧ LOK s sl pl to (met ++ [q]) q c v) :
    ∃ out', m_laurelref01_least_L0 s a met sl pl rec_ crest to ⟨out, (i : Int)⟩ = some (.inl ⟨out', ((i + 1 : Nat) : Int)⟩) ∧ LIn s sl pl to met a crest out' (i + 1) := by
  have hne := hG.ne i hi
  have hsll := hG.sl
  have hadd : addc (i : Int) 1 = some ((i + 1 : Nat) : Int) := by rw [addc_eq (by omega)]; exact congrArg some (by omega)
  unfold m_laurelref01_least_L0
  dsimp only
  rw [if_pos (by omega), ix_nat default hi, Option.bind_some]
  by_cases ha : (s.sills.getD i default).a = a
  · have hb : (s.sills.getD i default).b ≠ a := by omega
    obtain ⟨o, ho, hL'⟩ := least_tail hG hsl hpl hm hcr hi hL hrec (nx := (s.sills.getD i default).b) (.inl ⟨ha, rfl⟩)
    rw [if_pos ha, Option.bind_some, if_neg hb, Option.bind_some, ho, Option.bind_some, hadd, Option.bind_some]
    exact ⟨o, rfl, hL'⟩
  · rw [if_neg ha, Option.bind_some]
    by_cases hb : (s.sills.getD i default).b = a
    · obtain ⟨o, ho, hL'⟩ := least_tail hG hsl hpl hm hcr hi hL hrec (nx := (s.sills.getD i default).a) (.inr ⟨hb, rfl⟩)
      rw [if_pos hb, Option.bind_some, ho, Option.bind_some, hadd, Option.bind_some]
      exact ⟨o, rfl, hL'⟩
    · rw [if_neg hb, Option.bind_some, if_pos (by decide), Option.bind_some, if_pos rfl, Option.bind_some, hadd, Option.bind_some]
      exact ⟨_, rfl, hL.skip fun h q hst _ => hst.jn.elim (fun h1 => ha h1.1) (fun h1 => hb h1.1)⟩
theorem least_ok {s : Sands} (hG : Good s) {sl pl : List Int} (hsl : sl.length ≤ 1000) (hpl : pl.length ≤ 1000) {to : Int} : ∀ (d n : Nat), d < n → ∀ (a : Int) (met : List Int) (crest : Int), Met s met → s.floors.length - met.length ≤ d → 0 ≤ crest ∧ crest ≤ 999 →
    ∃ v, m_laurelref01_least n s a met crest to sl pl = some v ∧ LOK s sl pl to met a crest v
  | d, 0, h, _, _, _, _, _, _ => by omega
  | d, n + 1, hdn, a, met, crest, hm, hd, hcr => by
    have hrec : ∀ q c : Int, 0 ≤ q ∧ q < s.floors.length → q ∉ met → 0 ≤ c ∧ c ≤ 999 → ∃ v, m_laurelref01_least n s q (met ++ [q]) c to sl pl = some v ∧ LOK s sl pl to (met ++ [q]) q c v := fun q c hq hqm hc => by
      have h1 := hm.snoc hq hqm
      have h2 := h1.len
      simp only [List.length_append, List.length_singleton] at h2
      exact least_ok hG hsl hpl (d - 1) n (by omega) q (met ++ [q]) c h1 (by simp only [List.length_append, List.length_singleton]; omega) hc
    show ∃ v, m_laurelref01_least_B (m_laurelref01_least n) s a met crest to sl pl = some v ∧ _
    unfold m_laurelref01_least_B
    by_cases hat : a = to
    · rw [if_pos hat]
      subst hat
      exact ⟨_, rfl, .inr ⟨⟨Int.le_refl _, hcr.2⟩, .done⟩, fun h hc _ => hc⟩
    · rw [if_neg hat]
      obtain ⟨v, hv, hL⟩ := iterM_inv (f := m_laurelref01_least_L0 s a met sl pl (m_laurelref01_least n) crest to) (fun x => ∃ i : Nat, x.i16 = (i : Int) ∧ i ≤ s.sills.length ∧ LIn s sl pl to met a crest x.out15 i) (fun x => s.sills.length - x.i16.toNat) (fun v => LIn s sl pl to met a crest v s.sills.length)
        (fun x ⟨i, hi, hil, hL⟩ => by
          obtain ⟨out, i'⟩ := x
          simp only at hi hL
          subst hi
          by_cases hlt : i < s.sills.length
          · left
            obtain ⟨o, ho, hL'⟩ := least_step hG hsl hpl hm hcr hlt hL hrec
            exact ⟨_, ho, ⟨i + 1, rfl, by omega, hL'⟩, by simp only; omega⟩
          · right
            unfold m_laurelref01_least_L0
            dsimp only
            rw [if_neg (by omega)]
            have : i = s.sills.length := by omega
            subst this
            exact ⟨_, rfl, hL⟩) FU ⟨5000, 0⟩ (FU_lt (by have := hG.sl; simp only; omega)) ⟨0, rfl, by omega, .inl rfl, fun h k q _ hk => by omega⟩
      rw [hv, Option.bind_some]
      refine ⟨v, rfl, hL.snd, fun h hc hp => ?_⟩
      cases hp with
      | done => exact absurd rfl hat
      | step hst hq hp => exact hL.cmp h _ _ hc hst.kl hst hq hp
/-- the reference's least crest of all ways to a place -/
theorem least_spec {s : Sands} (hG : Good s) {sl pl : List Int} (hsl : sl.length ≤ 1000) (hpl : pl.length ≤ 1000) {p : Int} : ∃ v, m_laurelref01_least FU s (-1) [] 0 p sl pl = some v ∧ (v = 5000 ∨ ((0 ≤ v ∧ v ≤ 999) ∧ Rch s sl pl v p)) ∧ ∀ h, 0 ≤ h → Rch s sl pl h p → v ≤ h := by
  have hfl := hG.fl
  obtain ⟨v, hv, hok⟩ := least_ok hG hsl hpl (to := p) 8 FU (FU_lt (by omega)) (-1) [] 0 ⟨List.nodup_nil, fun x hx => by simp at hx⟩ (by simp; omega) (by omega)
  refine ⟨v, hv, ?_, fun h h0 hr => hok.cmp h h0 hr.path⟩
  rcases hok.snd with h | ⟨h1, h2⟩
  · exact .inl h
  · exact .inr ⟨h1, h2.rch .sea⟩
theorem rch_reach {s : Sands} {h p : Int} (r : Rch s [] [] h p) : Go.Pl.Reach s h p := by
  induction r with
  | sea => exact .sea
  | step _ hs ih => exact .step ih (mem_getD (d := (default : Sill)) hs.kl) hs.jn (by have := hs.qn; omega) hs.hh hs.ff
theorem reach_rch {s : Sands} (hG : Good s) {h p : Int} (r : Go.Pl.Reach s h p) : Rch s [] [] h p := by
  induction r with
  | sea => exact .sea
  | @step p q x hp hx hj hq h1 h2 ih =>
    obtain ⟨k, hk, rfl⟩ := List.mem_iff_getElem.1 hx
    have e : s.sills.getD k default = s.sills[k] := by simp [List.getD_eq_getElem?_getD, hk]
    have ha := hG.sa k hk
    have hb := hG.sb k hk
    rw [e] at ha hb
    exact .step ih (k := k) ⟨hk, by rw [e]; exact hj, by rcases hj with ⟨h3, h4⟩ | ⟨h3, h4⟩ <;> omega, rfl, rfl, by rw [e]; exact h1, h2⟩
/-- the reference's gate, by ours -/
def refGate (g : Int) : Int := if g = 1000 then 5000 else g
theorem refgate_eq {s : Sands} (hG : Good s) {p : Int} (hp : isPlace s p = true) : m_laurelref01_Gate s p = some (refGate ((gatesOf s).getD p.toNat 0)) := by
  have hpl := isPlace_iff.1 hp
  have hfl := hG.fl
  obtain ⟨v, hv, h1, h2⟩ := least_spec hG (sl := []) (pl := []) (by simp) (by simp) (p := p)
  unfold m_laurelref01_Gate
  rw [hv, Option.bind_some]
  congr 1
  have hgo := gates_ok (s := s)
  have k0 := hgo.lo p.toNat
  have k1 := hgo.hi p.toNat
  have e : ((p.toNat : Nat) : Int) = p := by omega
  unfold refGate
  by_cases hg : (gatesOf s).getD p.toNat 0 = 1000
  · rw [if_pos hg]
    rcases h1 with h1 | ⟨h1, h3⟩
    · exact h1
    · rcases gates_le hG h1.1 (rch_reach h3) with h4 | h4 <;> omega
  · rw [if_neg hg]
    have h5 := gates_snd hG p.toNat (by omega) (by omega)
    rw [e] at h5
    have h6 := h2 _ k0 (reach_rch hG h5)
    rcases h1 with h1 | ⟨h1, h3⟩
    · omega
    · rcases gates_le hG h1.1 (rch_reach h3) with h4 | h4
      · omega
      · have := h4.2; omega
end Go.Proofs.Wk

namespace Go.Proofs.Wk
open Go Go.Gx Go.Pl
set_option linter.unusedVariables false
theorem theirs_eq {s : Sands} (h : Short s) : m_laurellaw01_theirs s = some s := by
  have h1 := h.t
  have h2 := h.f
  have h3 := h.s
  unfold m_laurellaw01_theirs
  rw [dup_int (by omega)]
  simp only [Option.bind_some]
  have e1 : iterM FU (m_laurellaw01_theirs_L0 s) ⟨0, []⟩ = some s.table := by
    refine iterM_run (fun k => (⟨(k : Int), s.table.take k⟩ : m_laurellaw01_theirs_S0)) s.table.length (fun k hk => ?_) ?_ FU (FU_lt (by omega))
    · unfold m_laurellaw01_theirs_L0
      simp only
      rw [if_pos (by omega), ix_nat default hk, Option.bind_some, appc_eq (by simp; omega), Option.bind_some, addc_eq (by omega), Option.bind_some, take_snoc default hk]
      simp
    · unfold m_laurellaw01_theirs_L0
      simp
  have e2 : iterM FU (m_laurellaw01_theirs_L1 s) ⟨0, []⟩ = some s.sills := by
    refine iterM_run (fun k => (⟨(k : Int), s.sills.take k⟩ : m_laurellaw01_theirs_S1)) s.sills.length (fun k hk => ?_) ?_ FU (FU_lt (by omega))
    · unfold m_laurellaw01_theirs_L1
      simp only
      rw [if_pos (by omega), ix_nat default hk, Option.bind_some, appc_eq (by simp; omega), Option.bind_some, addc_eq (by omega), Option.bind_some, take_snoc default hk]
      simp
    · unfold m_laurellaw01_theirs_L1
      simp
  rw [e1, e2]
  rfl
/-! ### comparisons -/
theorem equal_water (a : List Water) (ha : a.length ≤ 1000) : m_slices_Equal_tideWatertideWater a a = some true := by
  unfold m_slices_Equal_tideWatertideWater
  rw [if_pos rfl, iterM_any0 a.length (fun _ => false) false (fun k hk => ?_) (by unfold m_slices_Equal_tideWatertideWater_L0; simp) (FU_lt (by omega))]
  · simp
  · unfold m_slices_Equal_tideWatertideWater_L0
    rw [if_pos (by omega), ix_nat default hk, Option.bind_some, Option.bind_some, if_pos rfl, addc_eq (by omega)]
    simp
theorem equal_int (a : List Int) (ha : a.length ≤ 1000) : m_slices_Equal_intint a a = some true := by
  unfold m_slices_Equal_intint
  rw [if_pos rfl, iterM_any0 a.length (fun _ => false) false (fun k hk => ?_) (by unfold m_slices_Equal_intint_L0; simp) (FU_lt (by omega))]
  · simp
  · unfold m_slices_Equal_intint_L0
    rw [if_pos (by omega), ix_nat default hk, Option.bind_some, Option.bind_some, if_pos rfl, addc_eq (by omega)]
    simp
theorem equal_sill (a : List Sill) (ha : a.length ≤ 1000) : m_slices_Equal_tideSilltideSill a a = some true := by
  unfold m_slices_Equal_tideSilltideSill
  rw [if_pos rfl, iterM_any0 a.length (fun _ => false) false (fun k hk => ?_) (by unfold m_slices_Equal_tideSilltideSill_L0; simp) (FU_lt (by omega))]
  · simp
  · unfold m_slices_Equal_tideSilltideSill_L0
    rw [if_pos (by omega), ix_nat default hk, Option.bind_some, Option.bind_some, if_pos rfl, addc_eq (by omega)]
    simp
theorem same_eq {s : Sands} (h : Short s) : m_laurellaw01_same s s = some true := by
  have h1 := h.t
  have h2 := h.f
  have h3 := h.s
  unfold m_laurellaw01_same m_laurelkit_Eq_tideWater m_laurelkit_Eq_int m_laurelkit_Eq_tideSill
  rw [equal_water _ (by omega), equal_int _ (by omega), equal_sill _ (by omega)]
  simp
/-! ### the reference's errors -/
theorem off_eq {n lo hi : Int} : m_laurelref01_off n lo hi = some (!inr n lo hi) := by
  unfold m_laurelref01_off inr
  by_cases h : n < lo
  · have h2 : decide (lo ≤ n) = false := decide_eq_false (by omega)
    simp [h, h2]
  · have h2 : decide (lo ≤ n) = true := decide_eq_true (by omega)
    have h3 : (!decide (n ≤ hi)) = decide (hi < n) := by
      by_cases h4 : n ≤ hi
      · simp [h4]
      · have h5 : hi < n := by omega
        simp [h4, h5]
    simp [h, h2, h3]
theorem or_some {a b : Bool} : ((if a = true then some true else some b) : Option Bool) = some (a || b) := by cases a <;> rfl
theorem ite_bool {α : Type} {b : Bool} {x y : α} : (if b = true then some x else some y) = some (if b = true then x else y) := by cases b <;> rfl
theorem ite_dec {α : Type} {p : Prop} [Decidable p] {x y : α} : (if p then some x else some y) = some (if decide p = true then x else y) := by by_cases h : p <;> simp [h]
theorem check_L0 {s : Sands} (h : Short s) : iterM FU (m_laurelref01_Check_L0 s) 0 = some (if s.table.all bigW then .inl () else .inr 3) := by
  have h1 := h.t
  rw [iterM_any0 s.table.length (fun k => !bigW (s.table.getD k default)) 3 (fun k hk => ?_) (by unfold m_laurelref01_Check_L0; simp) (FU_lt (by omega))]
  · rw [any_range (p := fun x => !bigW x) (d := default)]
    have := all_not_any (p := fun x => bigW x) (l := s.table)
    cases h2 : s.table.any (fun x => !bigW x) <;> simp_all
  · unfold m_laurelref01_Check_L0
    rw [if_pos (by omega), ix_nat default hk]
    simp only [Option.bind_some, off_eq, or_some]
    rw [addc_eq (by omega)]
    simp only [Option.bind_some, bigW, Bool.not_and, ite_bool]
theorem check_L1 {s : Sands} (h : Short s) : iterM FU (m_laurelref01_Check_L1 s) 0 = some (if s.floors.all hgt then .inl () else .inr 3) := by
  have h1 := h.f
  rw [iterM_any0 s.floors.length (fun k => !hgt (s.floors.getD k default)) 3 (fun k hk => ?_) (by unfold m_laurelref01_Check_L1; simp) (FU_lt (by omega))]
  · rw [any_range (p := fun x => !hgt x) (d := default)]
    have := all_not_any (p := fun x => hgt x) (l := s.floors)
    cases h2 : s.floors.any (fun x => !hgt x) <;> simp_all
  · unfold m_laurelref01_Check_L1
    rw [if_pos (by omega), ix_nat default hk]
    simp only [Option.bind_some, off_eq]
    rw [addc_eq (by omega)]
    simp only [Option.bind_some, hgt, ite_bool]
    rfl
theorem check_L2 {s : Sands} (h : Short s) : iterM FU (m_laurelref01_Check_L2 s) 0 = some (if s.sills.all (fun x => hgt x.h) then .inl () else .inr 3) := by
  have h1 := h.s
  rw [iterM_any0 s.sills.length (fun k => !hgt (s.sills.getD k default).h) 3 (fun k hk => ?_) (by unfold m_laurelref01_Check_L2; simp) (FU_lt (by omega))]
  · rw [any_range (p := fun x : Sill => !hgt x.h) (d := default)]
    have := all_not_any (p := fun x : Sill => hgt x.h) (l := s.sills)
    cases h2 : s.sills.any (fun x => !hgt x.h) <;> simp_all
  · unfold m_laurelref01_Check_L2
    rw [if_pos (by omega), ix_nat default hk]
    simp only [Option.bind_some, off_eq]
    rw [addc_eq (by omega)]
    simp only [Option.bind_some, hgt, ite_bool]
    rfl
theorem check_L3 {s : Sands} (h : Short s) : iterM FU (m_laurelref01_Check_L3 s) 1 = some (if (List.range (s.table.length - 1)).all (fun i => decide ((s.table.getD i default).min < (s.table.getD (i + 1) default).min)) then .inl () else .inr 4) ∨ s.table.length = 0 := by
  have h1 := h.t
  by_cases h0 : s.table.length = 0
  · exact .inr h0
  left
  have := iterM_any (f := m_laurelref01_Check_L3 s) 1 (s.table.length - 1) (fun k => decide ((s.table.getD (k + 1) default).min ≤ (s.table.getD k default).min)) (fun _ => 4) (fun k hk => ?_) (by unfold m_laurelref01_Check_L3; rw [if_neg (by omega)]) (N := FU) (FU_lt (by omega))
  · rw [this]
    cases hf : (List.range (s.table.length - 1)).find? (fun k => decide ((s.table.getD (k + 1) default).min ≤ (s.table.getD k default).min)) with
    | none =>
      have h2 : (List.range (s.table.length - 1)).all (fun i => decide ((s.table.getD i default).min < (s.table.getD (i + 1) default).min)) = true := by
        rw [List.all_eq_true]
        intro x hx
        have := List.find?_eq_none.1 hf x hx
        simp only [decide_eq_true_eq] at this ⊢
        omega
      rw [h2]; rfl
    | some k =>
      have h3 := List.find?_some hf
      have h4 := List.mem_of_find?_eq_some hf
      have h2 : (List.range (s.table.length - 1)).all (fun i => decide ((s.table.getD i default).min < (s.table.getD (i + 1) default).min)) = false := by
        rw [List.all_eq_false]
        refine ⟨k, h4, ?_⟩
        simp only [decide_eq_true_eq] at h3 ⊢
        omega
      rw [h2]; rfl
  · unfold m_laurelref01_Check_L3
    rw [if_pos (by omega), show (1 : Int) + (k : Int) = ((k + 1 : Nat) : Int) by omega, ix_nat default (by omega), subc_eq (by omega)]
    simp only [Option.bind_some]
    rw [show ((k + 1 : Nat) : Int) - 1 = (k : Int) by omega, ix_nat default (by omega), addc_eq (by omega)]
    simp only [Option.bind_some]
    rw [ite_dec, show ((k + 1 : Nat) : Int) + 1 = (1 : Int) + (k : Int) + 1 by omega]
theorem check_L4 {s : Sands} (h : Short s) : iterM FU (m_laurelref01_Check_L4 s) 0 = some (if s.sills.all (fun x => inr x.a (-1) ((s.floors.length : Int) - 1) && inr x.b (-1) ((s.floors.length : Int) - 1)) then .inl () else .inr 1) := by
  have h1 := h.s
  have h2 := h.f
  rw [iterM_any0 s.sills.length (fun k => !((fun x : Sill => inr x.a (-1) ((s.floors.length : Int) - 1) && inr x.b (-1) ((s.floors.length : Int) - 1)) (s.sills.getD k default))) 1 (fun k hk => ?_) (by unfold m_laurelref01_Check_L4; simp) (FU_lt (by omega))]
  · rw [any_range (p := fun x : Sill => !((fun x : Sill => inr x.a (-1) ((s.floors.length : Int) - 1) && inr x.b (-1) ((s.floors.length : Int) - 1)) x)) (d := default)]
    have := all_not_any (p := fun x : Sill => inr x.a (-1) ((s.floors.length : Int) - 1) && inr x.b (-1) ((s.floors.length : Int) - 1)) (l := s.sills)
    rw [← this]
    generalize s.sills.any _ = b
    cases b <;> rfl
  · unfold m_laurelref01_Check_L4
    rw [if_pos (by omega), ix_nat default hk, subc_eq (by omega)]
    simp only [Option.bind_some, off_eq, or_some]
    rw [addc_eq (by omega)]
    simp only [Option.bind_some, Bool.not_and, ite_bool]
theorem check_L5 {s : Sands} (h : Short s) : iterM FU (m_laurelref01_Check_L5 s) 0 = some (if s.sills.all (fun x => !decide (x.a = x.b)) then .inl () else .inr 8) := by
  have h1 := h.s
  rw [iterM_any0 s.sills.length (fun k => !((fun x : Sill => !decide (x.a = x.b)) (s.sills.getD k default))) 8 (fun k hk => ?_) (by unfold m_laurelref01_Check_L5; simp) (FU_lt (by omega))]
  · rw [any_range (p := fun x : Sill => !((fun x : Sill => !decide (x.a = x.b)) x)) (d := default)]
    have := all_not_any (p := fun x : Sill => !decide (x.a = x.b)) (l := s.sills)
    rw [← this]
    generalize s.sills.any _ = b
    cases b <;> rfl
  · unfold m_laurelref01_Check_L5
    rw [if_pos (by omega), ix_nat default hk, addc_eq (by omega)]
    simp only [Option.bind_some]
    rw [ite_dec, Bool.not_not]
theorem isEnd_inr {s : Sands} {p : Int} : isEnd s p = inr p (-1) ((s.floors.length : Int) - 1) ∨ s.floors.length = 0 := by
  by_cases h0 : s.floors.length = 0
  · exact .inr h0
  left
  rw [Bool.eq_iff_iff, isEnd_iff, inr_iff]
  omega
theorem refcheck_eq {s : Sands} (h : Short s) : m_laurelref01_Check s = some (check s) := by
  unfold m_laurelref01_Check check
  simp only [off_eq, Option.bind_some, or_some]
  cases h1 : (!inr (s.table.length : Int) 2 12 || (!inr (s.floors.length : Int) 1 8 || decide (16 < (s.sills.length : Int)))) with
  | true => simp only [Bool.or_assoc, h1, if_true]
  | false =>
    simp only [Bool.or_assoc, h1, Bool.false_eq_true, if_false]
    simp only [Bool.or_eq_false_iff, Bool.not_eq_false', inr_iff] at h1
    rw [check_L0 h]
    cases h2 : s.table.all bigW with
    | false => simp
    | true =>
      simp only [if_true, Option.bind_some, oc_inl, Bool.not_true, Bool.false_eq_true, if_false]
      rw [check_L1 h, check_L2 h]
      cases h3 : (!inr s.wind.lo (-50) 50 || !inr s.wind.hi (-50) 50) with
      | true => simp [← Bool.or_assoc, h3]
      | false =>
        simp only [Bool.false_eq_true, if_false, ← Bool.or_assoc, h3, Bool.false_or]
        cases h4 : s.floors.all hgt with
        | false => simp
        | true =>
          simp only [if_true, Option.bind_some, oc_inl, Bool.not_true, Bool.false_eq_true, if_false]
          cases h5 : s.sills.all (fun x => hgt x.h) with
          | false => simp
          | true =>
            simp only [if_true, Option.bind_some, oc_inl, Bool.not_true, Bool.false_eq_true, if_false]
            rcases check_L3 h with h6 | h6
            · rw [h6]
              unfold ordered
              cases h7 : (List.range (s.table.length - 1)).all (fun i => decide ((s.table.getD i default).min < (s.table.getD (i + 1) default).min)) with
              | false => simp
              | true =>
                simp only [if_true, Option.bind_some, oc_inl, Bool.true_and]
                by_cases h8 : s.wind.hi < s.wind.lo
                · have h9 : decide (s.wind.lo ≤ s.wind.hi) = false := decide_eq_false (by omega)
                  rw [if_pos h8]; simp [h9]
                · have h9 : decide (s.wind.lo ≤ s.wind.hi) = true := decide_eq_true (by omega)
                  rw [if_neg h8, h9]
                  simp only [Bool.not_true, Bool.false_eq_true, if_false]
                  rw [check_L4 h, check_L5 h]
                  have hend : (fun x : Sill => isEnd s x.a && isEnd s x.b) = (fun x : Sill => inr x.a (-1) ((s.floors.length : Int) - 1) && inr x.b (-1) ((s.floors.length : Int) - 1)) := by
                    funext x
                    rcases isEnd_inr (s := s) (p := x.a) with e1 | e1
                    · rcases isEnd_inr (s := s) (p := x.b) with e2 | e2
                      · rw [e1, e2]
                      · omega
                    · omega
                  rw [hend]
                  cases s.sills.all (fun x : Sill => inr x.a (-1) ((s.floors.length : Int) - 1) && inr x.b (-1) ((s.floors.length : Int) - 1)) with
                  | false => simp
                  | true =>
                    cases s.sills.all (fun x => !decide (x.a = x.b)) <;> simp
            · omega
end Go.Proofs.Wk

namespace Go.Proofs.Wk
open Go Go.Gx Go.Pl
set_option linter.unusedVariables false
theorem reffirst_eq {s : Sands} (h : 0 < s.table.length) : m_laurelref01_First s = some (firstM s) := by
  unfold m_laurelref01_First
  rw [show (0 : Int) = ((0 : Nat) : Int) from rfl, ix_nat default h]
  rfl
theorem reflast_eq {s : Sands} (hs : Short s) (h : 0 < s.table.length) : m_laurelref01_Last s = some (lastM s) := by
  have h1 := hs.t
  unfold m_laurelref01_Last
  rw [subc_eq (by omega), Option.bind_some, show (s.table.length : Int) - 1 = ((s.table.length - 1 : Nat) : Int) by omega, ix_nat default (by omega)]
  rfl
theorem minute_eq {s : Sands} (hs : Short s) (h : 0 < s.table.length) {m : Int} : m_laurelref01_Minute s m = some (if dayF s m = true then 0 else 3) := by
  unfold m_laurelref01_Minute
  rw [reffirst_eq h, reflast_eq hs h]
  simp only [Option.bind_some, off_eq]
  have : dayF s m = inr m (firstM s) (lastM s) := rfl
  rw [this]
  cases inr m (firstM s) (lastM s) <;> rfl
/-- the line, rounded down -/
theorem line_floor {a b : Water} {m : Int} (hab : a.min < m ∧ m < b.min) (ha : 0 ≤ a.h ∧ a.h ≤ 999) (hb : 0 ≤ b.h ∧ b.h ≤ 999) : lineAt a b m = a.h + (b.h - a.h) * (m - a.min) / (b.min - a.min) := by
  unfold lineAt
  have hn : 0 < b.min - a.min := by omega
  have h1 : (-999) * (m - a.min) ≤ (b.h - a.h) * (m - a.min) := Int.mul_le_mul_of_nonneg_right (by omega) (by omega)
  have h2 : 0 ≤ a.h * (b.min - a.min) := Int.mul_nonneg ha.1 (by omega)
  rw [Int.tdiv_eq_ediv_of_nonneg (by omega)]
  have h3 : a.h * (b.min - a.min) + (b.h - a.h) * (m - a.min) + 1000 * (b.min - a.min) = (b.h - a.h) * (m - a.min) + (a.h + 1000) * (b.min - a.min) := by
    rw [Int.add_mul]; omega
  rw [h3, Int.add_mul_ediv_right _ _ (by omega)]
  omega
theorem refheight_L2 {a b : Water} {m : Int} (hab : a.min < m ∧ m < b.min) (hm : 0 ≤ a.min ∧ b.min ≤ 1440) (ha : 0 ≤ a.h ∧ a.h ≤ 999) (hb : 0 ≤ b.h ∧ b.h ≤ 999) : iterM FU (m_laurelref01_Height_L2 ⟨a, b⟩ m) (min a.h b.h) = some (lineAt a b m) := by
  have hl := line_tight hab ha hb
  have hf := line_floor hab ha hb
  generalize hN : b.min - a.min = N at *
  generalize hT : m - a.min = t at *
  have ht : 0 < t ∧ t < N := by omega
  have hNN : N ≤ 1440 := by omega
  have hr1 : (b.h - a.h) * t ≤ 999 * 1440 := Int.le_trans (Int.mul_le_mul_of_nonneg_right (show b.h - a.h ≤ 999 by omega) (by omega)) (Int.mul_le_mul_of_nonneg_left (by omega) (by omega))
  have hr2 : -(999 * 1440) ≤ (b.h - a.h) * t := by
    have h1 : (-999) * t ≤ (b.h - a.h) * t := Int.mul_le_mul_of_nonneg_right (by omega) (by omega)
    omega
  generalize hr : (b.h - a.h) * t = r at *
  have hd := Int.mul_ediv_add_emod r N
  have hd1 := Int.emod_nonneg r (show N ≠ 0 by omega)
  have hd2 := Int.emod_lt_of_pos r (show 0 < N by omega)
  obtain ⟨o, h1, h2⟩ := iterM_inv (f := m_laurelref01_Height_L2 ⟨a, b⟩ m) (fun n => 0 ≤ n ∧ n ≤ 999 ∧ (n - a.h) * N ≤ r) (fun n => (1000 - n).toNat) (fun o => o = lineAt a b m) (fun n hn => by
    obtain ⟨hn0, hn1, hn2⟩ := hn
    have hb1 : (n + 1 - a.h) * N ≤ 1000 * 1440 := Int.le_trans (Int.mul_le_mul_of_nonneg_right (show n + 1 - a.h ≤ 1000 by omega) (by omega)) (Int.mul_le_mul_of_nonneg_left (by omega) (by omega))
    have hb2 : (-1000) * 1440 ≤ (n + 1 - a.h) * N := by
      have h1 : (-1000) * N ≤ (n + 1 - a.h) * N := Int.mul_le_mul_of_nonneg_right (by omega) (by omega)
      omega
    have e1 : addc n 1 = some (n + 1) := addc_eq (by omega)
    have e2 : subc (n + 1) a.h = some (n + 1 - a.h) := subc_eq (by omega)
    have e3 : subc b.min a.min = some N := by rw [subc_eq (by omega), hN]
    have e4 : mulc (n + 1 - a.h) N = some ((n + 1 - a.h) * N) := mulc_eq (by omega)
    have e5 : subc b.h a.h = some (b.h - a.h) := subc_eq (by omega)
    have e6 : subc m a.min = some t := by rw [subc_eq (by omega), hT]
    have e7 : mulc (b.h - a.h) t = some r := by rw [mulc_eq (by rw [hr]; omega), hr]
    unfold m_laurelref01_Height_L2
    simp only [e1, e2, e3, e4, e5, e6, e7, Option.bind_some]
    by_cases hc : (n + 1 - a.h) * N ≤ r
    · left
      rw [if_pos hc]
      refine ⟨n + 1, rfl, ⟨by omega, ?_, hc⟩, by omega⟩
      -- n + 1 is not above the line
      have h3 : n + 1 - a.h ≤ r / N := (Int.le_ediv_iff_mul_le (by omega)).2 hc
      omega
    · right
      rw [if_neg hc]
      refine ⟨n, rfl, ?_⟩
      have h3 : n - a.h ≤ r / N := (Int.le_ediv_iff_mul_le (by omega)).2 hn2
      have h4 : r / N < n + 1 - a.h := (Int.ediv_lt_iff_lt_mul (by omega)).2 (by omega)
      omega) FU (min a.h b.h) (FU_lt (by omega)) ⟨by omega, by omega, by
        by_cases hab2 : a.h ≤ b.h
        · rw [Int.min_eq_left hab2]
          have : 0 ≤ (b.h - a.h) * t := Int.mul_nonneg (by omega) (by omega)
          rw [show a.h - a.h = 0 by omega, Int.zero_mul]
          omega
        · rw [Int.min_eq_right (by omega)]
          have h5 : (a.h - b.h) * t ≤ (a.h - b.h) * N := Int.mul_le_mul_of_nonneg_left (by omega) (by omega)
          have h6 : (b.h - a.h) * t = -((a.h - b.h) * t) := by rw [← Int.neg_mul]; congr 1; omega
          have h7 : (b.h - a.h) * N = -((a.h - b.h) * N) := by rw [← Int.neg_mul]; congr 1; omega
          omega⟩
  rw [h1, h2]
theorem refheight_eq {s : Sands} (hG : Good s) {m : Int} (hd : dayF s m = true) : m_laurelref01_Height s m = some (heightF s m) := by
  have hs := Good.short hG
  have h1 := hs.t
  have htl := hG.tl
  obtain ⟨j, ej, hj, hm, hl, hj0⟩ := day_idx hG hd
  have mono := fun {i k : Nat} (hik : i < k) (hk : k < s.table.length) => min_mono hG hik hk
  unfold m_laurelref01_Height
  have hL0 := iterM_any (f := m_laurelref01_Height_L0 s m) 0 s.table.length (fun k => decide ((s.table.getD k default).min = m)) (fun k => (s.table.getD k default).h) (fun k hk => by
    unfold m_laurelref01_Height_L0
    rw [Int.zero_add, if_pos (by omega), ix_nat default hk]
    simp only [Option.bind_some]
    rw [addc_eq (by omega)]
    simp only [Option.bind_some]
    rw [ite_dec]) (by unfold m_laurelref01_Height_L0; rw [if_neg (by omega)]) (N := FU) (FU_lt (by omega))
  rw [hL0]
  by_cases he : (s.table.getD j default).min = m
  · -- a minute of the table
    have hf : (List.range s.table.length).find? (fun k => decide ((s.table.getD k default).min = m)) = some j := by
      rw [List.find?_range_eq_some]
      refine ⟨by simpa using he, by simpa using hj, fun i hi => ?_⟩
      have := hl i hi
      simp only [Bool.not_eq_true', decide_eq_false_iff_not]
      omega
    rw [hf]
    simp only [Option.bind_some, oc_inr]
    rw [height_eq hj hl he]
  · have hj1 : j ≠ 0 := fun h => he (hj0 h)
    have hf : (List.range s.table.length).find? (fun k => decide ((s.table.getD k default).min = m)) = none := by
      rw [List.find?_eq_none]
      intro k hk
      have hk' : k < s.table.length := by simpa using hk
      simp only [decide_eq_true_eq]
      by_cases hkj : k < j
      · have := hl k hkj; omega
      · by_cases hkj2 : k = j
        · subst hkj2; exact he
        · have := mono (show j < k by omega) hk'; omega
    rw [hf]
    simp only [Option.bind_some, oc_inl]
    have h2 := hl (j - 1) (by omega)
    have ha := hG.tab (j - 1) (by omega)
    have hb := hG.tab j hj
    have hL1 : iterM FU (m_laurelref01_Height_L1 s m) 0 = some ((j - 1 : Nat) : Int) := by
      refine iterM_run (fun k => (k : Int)) (j - 1) (fun k hk => ?_) ?_ FU (FU_lt (by omega))
      · unfold m_laurelref01_Height_L1
        rw [addc_eq (by omega), Option.bind_some, show (k : Int) + 1 = ((k + 1 : Nat) : Int) by omega, ix_nat default (by omega), Option.bind_some, if_pos (hl (k + 1) (by omega)), Option.bind_some]
      · unfold m_laurelref01_Height_L1
        rw [addc_eq (by omega), Option.bind_some, show ((j - 1 : Nat) : Int) + 1 = ((j : Nat) : Int) by omega, ix_nat default hj, Option.bind_some, if_neg (by omega)]
    rw [hL1]
    simp only [Option.bind_some]
    rw [ix_nat default (by omega), addc_eq (by omega)]
    simp only [Option.bind_some]
    rw [show ((j - 1 : Nat) : Int) + 1 = ((j : Nat) : Int) by omega, ix_nat default hj]
    simp only [Option.bind_some]
    rw [refheight_L2 ⟨h2, by omega⟩ ⟨by omega, by omega⟩ ha.2 hb.2, height_line hG hj hl (by omega) hj1]
    rfl
end Go.Proofs.Wk

namespace Go.Proofs.Wk
open Go Go.Gx Go.Pl
set_option linter.unusedVariables false
/-! ### the reference's states and spans -/
theorem refstate_eq {s : Sands} (hw : -50 ≤ s.wind.lo ∧ s.wind.lo ≤ s.wind.hi ∧ s.wind.hi ≤ 50) {h g : Int} (hh : 0 ≤ h ∧ h ≤ 999) (hg : 0 ≤ g ∧ g ≤ 5000) :
    m_laurelref01_State s h g = some (if h + s.wind.hi ≤ g then 0 else if g < h + s.wind.lo then 2 else 1) := by
  unfold m_laurelref01_State
  obtain ⟨b, hb, hQ⟩ := iterM_inv (f := m_laurelref01_State_L0 s h g) (fun x => (s.wind.lo ≤ x.w9 ∧ x.w9 ≤ s.wind.hi + 1) ∧ x.dry7 = max 0 (min (x.w9 - 1) (g - h) - s.wind.lo + 1) ∧ x.wet8 = x.w9 - s.wind.lo - x.dry7) (fun x => (s.wind.hi + 1 - x.w9).toNat) (fun b => b.dry7 = max 0 (min s.wind.hi (g - h) - s.wind.lo + 1) ∧ b.wet8 = s.wind.hi + 1 - s.wind.lo - b.dry7)
    (fun x hx => by
      obtain ⟨d, t, w⟩ := x
      simp only at hx
      obtain ⟨hw9, hd, ht⟩ := hx
      unfold m_laurelref01_State_L0
      dsimp only
      by_cases hlt : w ≤ s.wind.hi
      · left
        rw [if_pos hlt, addc_eq (by omega), Option.bind_some]
        by_cases hgt : g < h + w
        · rw [if_pos hgt, addc_eq (by omega), Option.bind_some, Option.bind_some, addc_eq (by omega), Option.bind_some]
          exact ⟨_, rfl, ⟨by simp only; omega, by simp only; omega, by simp only; omega⟩, by simp only; omega⟩
        · rw [if_neg hgt, addc_eq (by omega), Option.bind_some, Option.bind_some, addc_eq (by omega), Option.bind_some]
          exact ⟨_, rfl, ⟨by simp only; omega, by simp only; omega, by simp only; omega⟩, by simp only; omega⟩
      · right
        rw [if_neg hlt]
        refine ⟨_, rfl, ?_, ?_⟩
        · simp only; rw [hd]; congr 1; omega
        · simp only; omega) FU ⟨0, 0, s.wind.lo⟩ (FU_lt (by simp only; omega)) ⟨by simp only; omega, by simp only; omega, by simp only; omega⟩
  rw [hb, Option.bind_some]
  obtain ⟨h1, h2⟩ := hQ
  by_cases hdry : h + s.wind.hi ≤ g
  · rw [if_pos (by omega), if_pos hdry]
  · rw [if_neg (by omega), if_neg hdry]
    by_cases hwet : g < h + s.wind.lo
    · rw [if_pos (by omega), if_pos hwet]
    · rw [if_neg (by omega), if_neg hwet]
theorem refstate_gate {s : Sands} (hG : Good s) {m g : Int} (hd : dayF s m = true) (hg : 0 ≤ g ∧ g ≤ 1000) : m_laurelref01_State s (heightF s m) (refGate g) = some (stateG s g m) := by
  have hlo := hG.lo
  have hhi := hG.hi
  have hw := hG.wind
  have hh := height_tight hG hd
  have hr : 0 ≤ refGate g ∧ refGate g ≤ 5000 := by unfold refGate; split <;> omega
  rw [refstate_eq ⟨hlo.1, hw, hhi.2⟩ hh hr]
  congr 1
  unfold refGate stateG levelF
  simp only
  by_cases h : g = 1000
  · rw [if_pos h, if_pos (by omega), if_pos (.inl h)]
  · rw [if_neg h]
    by_cases h2 : heightF s m + s.wind.hi ≤ g
    · rw [if_pos h2, if_pos (.inr h2)]
    · rw [if_neg h2, if_neg (show ¬ (g = 1000 ∨ heightF s m + s.wind.hi ≤ g) by omega)]
/-- a list over the day's minutes -/
def dayL {α : Type} (s : Sands) (f : Int → α) (k : Nat) : List α := (List.range k).map (fun i : Nat => f (firstM s + (i : Int)))
theorem dayL_len {α : Type} {s : Sands} {f : Int → α} {k : Nat} : (dayL s f k).length = k := by simp [dayL]
theorem dayL_succ {α : Type} {s : Sands} {f : Int → α} {k : Nat} : dayL s f (k + 1) = dayL s f k ++ [f (firstM s + (k : Int))] := by simp [dayL, List.range_succ]
theorem dayL_ix {α : Type} {s : Sands} {f : Int → α} {k : Nat} {i : Int} (h0 : 0 ≤ i) (h1 : i < k) : ix (dayL s f k) i = some (f (firstM s + i)) := by
  rw [ix_eq (f (firstM s)) h0 (by rw [dayL_len]; exact h1)]
  congr 1
  have hlt : i.toNat < k := by omega
  simp [dayL, List.getD_eq_getElem?_getD, hlt]
  congr 1
  omega
theorem dayN_eq {s : Sands} (hG : Good s) : ((dayN s : Nat) : Int) = lastM s - firstM s + 1 := by
  have := day_span hG
  unfold dayN; omega
theorem refheights_eq {s : Sands} (hG : Good s) : m_laurelref01_Heights s = some (dayL s (heightF s) (dayN s)) := by
  have htl := hG.tl
  have hds := day_span hG
  have hn := dayN_eq hG
  unfold m_laurelref01_Heights
  rw [reffirst_eq (by omega), Option.bind_some]
  have key : iterM FU (m_laurelref01_Heights_L0 s) ⟨firstM s, []⟩ = some (dayL s (heightF s) (dayN s)) := by
    have hz : (⟨firstM s, []⟩ : m_laurelref01_Heights_S0) = (fun k : Nat => (⟨firstM s + (k : Int), dayL s (heightF s) k⟩ : m_laurelref01_Heights_S0)) 0 := by simp [dayL]
    rw [hz]
    refine iterM_run (fun k : Nat => (⟨firstM s + (k : Int), dayL s (heightF s) k⟩ : m_laurelref01_Heights_S0)) (dayN s) (fun k hk => ?_) ?_ FU (FU_lt (by omega))
    · unfold m_laurelref01_Heights_L0
      dsimp only
      rw [reflast_eq (Good.short hG) (by omega), Option.bind_some, if_pos (by omega), refheight_eq hG (by simp only [dayF, inr_iff]; omega), Option.bind_some, appc_eq (by rw [dayL_len, List.length_singleton]; omega), Option.bind_some, addc_eq (by omega), Option.bind_some, dayL_succ]
      exact congrArg (fun z => some (Sum.inl (⟨z, _⟩ : m_laurelref01_Heights_S0))) (by omega)
    · unfold m_laurelref01_Heights_L0
      dsimp only
      rw [reflast_eq (Good.short hG) (by omega), Option.bind_some, if_neg (by omega)]
  rw [key, Option.bind_some]
theorem refsays_eq {s : Sands} (hG : Good s) {p st : Int} (hp : isPlace s p = true) : m_laurelref01_Says s (refGate ((gatesOf s).getD p.toNat 0)) st = some (dayL s (isState s p st) (dayN s)) := by
  have htl := hG.tl
  have hds := day_span hG
  have hn := dayN_eq hG
  have hgo := gates_ok (s := s)
  unfold m_laurelref01_Says
  rw [refheights_eq hG, Option.bind_some]
  have key : iterM FU (m_laurelref01_Says_L0 (dayL s (heightF s) (dayN s)) s (refGate ((gatesOf s).getD p.toNat 0)) st) ⟨0, []⟩ = some (dayL s (isState s p st) (dayN s)) := by
    have hz : (⟨0, []⟩ : m_laurelref01_Says_S0) = (fun k : Nat => (⟨(k : Int), dayL s (isState s p st) k⟩ : m_laurelref01_Says_S0)) 0 := by simp [dayL]
    rw [hz]
    refine iterM_run (fun k : Nat => (⟨(k : Int), dayL s (isState s p st) k⟩ : m_laurelref01_Says_S0)) (dayN s) (fun k hk => ?_) ?_ FU (FU_lt (by omega))
    · unfold m_laurelref01_Says_L0
      dsimp only
      rw [dayL_len, if_pos (by omega), dayL_ix (by omega) (by omega), Option.bind_some, refstate_gate hG (by simp only [dayF, inr_iff]; omega) ⟨hgo.lo _, hgo.hi _⟩, Option.bind_some, appc_eq (by rw [dayL_len, List.length_singleton]; omega), Option.bind_some, addc_eq (by omega), Option.bind_some, dayL_succ]
      rfl
    · unfold m_laurelref01_Says_L0
      dsimp only
      rw [dayL_len, if_neg (by omega)]
  rw [key, Option.bind_some]
/-- the longest run around a minute -/
structure RunOf (s : Sands) (p : Int → Bool) (m : Int) (y : Span) : Prop where
  lo : firstM s ≤ y.lo ∧ y.lo ≤ m
  hi : m ≤ y.hi ∧ y.hi ≤ lastM s
  al : ∀ i, y.lo ≤ i → i ≤ y.hi → p i = true
  lm : y.lo = firstM s ∨ p (y.lo - 1) = false
  hm : y.hi = lastM s ∨ p (y.hi + 1) = false
theorem run_ok {s : Sands} (hG : Good s) {p : Int → Bool} {m : Int} (hd : dayF s m = true) :
    (p m = false → m_laurelref01_Run s (dayL s p (dayN s)) m = some ⟨⟨0, 0⟩, false⟩) ∧ (p m = true → ∃ y, m_laurelref01_Run s (dayL s p (dayN s)) m = some ⟨y, true⟩ ∧ RunOf s p m y) := by
  have htl := hG.tl
  have hds := day_span hG
  have hn := dayN_eq hG
  have hd' := hd
  simp only [dayF, inr_iff] at hd'
  have hix : ix (dayL s p (dayN s)) (m - firstM s) = some (p m) := by
    rw [dayL_ix (by omega) (by omega)]
    congr 2
    omega
  unfold m_laurelref01_Run
  rw [reffirst_eq (by omega), Option.bind_some, subc_eq (by omega), Option.bind_some, hix, Option.bind_some]
  refine ⟨fun hp => by rw [hp, if_pos (by decide)], fun hp => ?_⟩
  rw [hp, if_neg (by decide)]
  obtain ⟨a, ha, hQa⟩ := iterM_inv (f := m_laurelref01_Run_L0 (dayL s p (dayN s))) (fun j => (0 ≤ j ∧ j ≤ m - firstM s) ∧ ∀ i, firstM s + j ≤ i → i ≤ m → p i = true) (fun j => j.toNat) (fun b => ((0 ≤ b ∧ b ≤ m - firstM s) ∧ ∀ i, firstM s + b ≤ i → i ≤ m → p i = true) ∧ (b = 0 ∨ p (firstM s + b - 1) = false))
    (fun j ⟨hj, hall⟩ => by
      unfold m_laurelref01_Run_L0
      by_cases h0 : 0 < j
      · rw [if_pos h0, subc_eq (by omega), Option.bind_some, dayL_ix (by omega) (by omega), Option.bind_some, Option.bind_some]
        cases hpj : p (firstM s + (j - 1)) with
        | true =>
          left
          rw [if_pos rfl, Option.bind_some]
          refine ⟨_, rfl, ⟨by omega, fun i h1 h2 => ?_⟩, by omega⟩
          by_cases hi : i = firstM s + (j - 1)
          · rw [hi, hpj]
          · exact hall i (by omega) h2
        | false =>
          right
          rw [if_neg (by decide)]
          exact ⟨_, rfl, ⟨hj, hall⟩, .inr (by rw [← hpj]; congr 1; omega)⟩
      · right
        rw [if_neg h0, Option.bind_some, if_neg (by decide)]
        exact ⟨_, rfl, ⟨hj, hall⟩, .inl (by omega)⟩) FU (m - firstM s) (FU_lt (by omega)) ⟨by omega, fun i h1 h2 => by rw [show i = m by omega]; exact hp⟩
  obtain ⟨b, hb, hQb⟩ := iterM_inv (f := m_laurelref01_Run_L1 (dayL s p (dayN s))) (fun j => (m - firstM s ≤ j ∧ j ≤ lastM s - firstM s) ∧ ∀ i, m ≤ i → i ≤ firstM s + j → p i = true) (fun j => (lastM s - firstM s - j).toNat) (fun b => ((m - firstM s ≤ b ∧ b ≤ lastM s - firstM s) ∧ ∀ i, m ≤ i → i ≤ firstM s + b → p i = true) ∧ (b = lastM s - firstM s ∨ p (firstM s + b + 1) = false))
    (fun j ⟨hj, hall⟩ => by
      unfold m_laurelref01_Run_L1
      rw [dayL_len, subc_eq (by omega), Option.bind_some]
      by_cases h0 : j < ((dayN s : Nat) : Int) - 1
      · rw [if_pos h0, addc_eq (by omega), Option.bind_some, dayL_ix (by omega) (by omega), Option.bind_some, Option.bind_some]
        cases hpj : p (firstM s + (j + 1)) with
        | true =>
          left
          rw [if_pos rfl, Option.bind_some]
          refine ⟨_, rfl, ⟨by omega, fun i h1 h2 => ?_⟩, by omega⟩
          by_cases hi : i = firstM s + (j + 1)
          · rw [hi, hpj]
          · exact hall i h1 (by omega)
        | false =>
          right
          rw [if_neg (by decide)]
          exact ⟨_, rfl, ⟨hj, hall⟩, .inr (by rw [← hpj]; congr 1; omega)⟩
      · right
        rw [if_neg h0, Option.bind_some, if_neg (by decide)]
        exact ⟨_, rfl, ⟨hj, hall⟩, .inl (by omega)⟩) FU (m - firstM s) (FU_lt (by omega)) ⟨by omega, fun i h1 h2 => by rw [show i = m by omega]; exact hp⟩
  rw [ha, Option.bind_some, hb, Option.bind_some, Option.bind_some, addc_eq (by omega), Option.bind_some, Option.bind_some, addc_eq (by omega), Option.bind_some]
  obtain ⟨⟨a1, a2⟩, a3⟩ := hQa
  obtain ⟨⟨b1, b2⟩, b3⟩ := hQb
  refine ⟨_, rfl, by simp only; omega, by simp only; omega, fun i h1 h2 => ?_, ?_, ?_⟩
  · simp only at h1 h2
    by_cases hi : i ≤ m
    · exact a2 i h1 hi
    · exact b2 i (by omega) h2
  · rcases a3 with h | h
    · left; simp only; omega
    · right; simp only; exact h
  · rcases b3 with h | h
    · left; simp only; omega
    · right; simp only; exact h
/-- all runs, as the reference lists them -/
theorem refspans_eq {s : Sands} (hG : Good s) {p : Int → Bool} : m_laurelref01_Spans s (dayL s p (dayN s)) = some (spansF s p) := by
  have htl := hG.tl
  have hds := day_span hG
  have hn := dayN_eq hG
  unfold m_laurelref01_Spans
  rw [reffirst_eq (by omega), Option.bind_some]
  obtain ⟨b, hb, hQ⟩ := iterM_inv (f := m_laurelref01_Spans_L0 s (dayL s p (dayN s)))
    (fun x => ∃ k : Nat, x.minute6 = firstM s + (k : Int) ∧ k ≤ dayN s ∧ ((spansN p (firstM s) k).op = false → x.out5 = (spansN p (firstM s) k).acc) ∧ ((spansN p (firstM s) k).op = true → ∃ E, x.out5 = (spansN p (firstM s) k).acc ++ [⟨(spansN p (firstM s) k).fr, E⟩] ∧ (firstM s + (k : Int) - 1 ≤ E ∧ E ≤ lastM s) ∧ (∀ i, firstM s + (k : Int) - 1 ≤ i → i ≤ E → p i = true) ∧ (E = lastM s ∨ p (E + 1) = false)))
    (fun x => (lastM s + 1 - x.minute6).toNat) (fun b => b = spansF s p)
    (fun x ⟨k, hm, hk, h0, h1⟩ => by
      obtain ⟨m, out⟩ := x
      simp only at hm h0 h1
      have hsi := si_n (p := p) (a := firstM s) k
      have hsl := spansN_len (p := p) (a := firstM s) (k := k)
      have hlen : out.length ≤ 2000 := by
        cases ho : (spansN p (firstM s) k).op with
        | false => rw [h0 ho]; omega
        | true =>
          obtain ⟨E, h2, _⟩ := h1 ho
          rw [h2]
          simp only [List.length_append, List.length_singleton]
          omega
      unfold m_laurelref01_Spans_L0
      dsimp only
      rw [reflast_eq (Good.short hG) (by omega), Option.bind_some]
      by_cases hlt : m ≤ lastM s
      · left
        have hd : dayF s m = true := by simp only [dayF, inr_iff]; omega
        obtain ⟨r0, r1⟩ := run_ok hG (p := p) hd
        have hsucc := spansN_succ (p := p) (a := firstM s) (k := k)
        rw [if_pos hlt]
        cases hp : p m with
        | false =>
          rw [r0 hp, Option.bind_some, if_neg (fun h => absurd (show false = true from h) (by decide)), Option.bind_some, if_neg (by decide), Option.bind_some, addc_eq (by omega), Option.bind_some]
          refine ⟨_, rfl, ⟨k + 1, by simp only; omega, by omega, ?_⟩, by simp only; omega⟩
          simp only
          rw [hsucc, ← hm]
          generalize spansN p (firstM s) k = X at h0 h1 hsi
          have e : spanStep p X m = shutF X m := stepF hp
          rw [e]
          unfold shutF
          cases ho : X.op with
          | false => exact ⟨fun _ => h0 ho, fun h => by simp at h⟩
          | true =>
            refine ⟨fun _ => ?_, fun h => by simp at h⟩
            obtain ⟨E, h2, h3, h4, h5⟩ := h1 ho
            have hE : E = m - 1 := by
              refine Classical.byContradiction fun hc => ?_
              have := h4 m (by omega) (by omega)
              rw [hp] at this
              exact absurd this (by decide)
            subst hE
            exact h2
        | true =>
          obtain ⟨y, hy, hr⟩ := r1 hp
          rw [hy, Option.bind_some, if_pos (show (⟨y, true⟩ : m_laurelref01_Run_R).r1 = true from rfl), Option.bind_some]
          generalize hX : spansN p (firstM s) k = X at h0 h1 hsi hsucc
          have e : spanStep p X m = match X.op with | false => ⟨X.acc, m, true⟩ | true => X := by unfold spanStep; rw [hp]; rfl
          cases ho : X.op with
          | false =>
            have hlo : y.lo = m := by
              refine Classical.byContradiction fun hc => ?_
              have h6 := hr.lo
              rcases hsi.shut ho with h7 | h7
              · omega
              · have := hr.al (m - 1) (by omega) (by have := hr.hi; omega)
                rw [← hm] at h7
                rw [h7] at this
                exact absurd this (by decide)
            rw [decide_eq_true (show (⟨y, true⟩ : m_laurelref01_Run_R).r0.lo = m from hlo), if_pos rfl, appc_eq (by simp only [List.length_singleton]; omega), Option.bind_some, Option.bind_some, addc_eq (by omega), Option.bind_some]
            refine ⟨_, rfl, ⟨k + 1, by simp only; omega, by omega, ?_⟩, by simp only; omega⟩
            simp only
            rw [hsucc, ← hm, e, ho]
            refine ⟨fun h => by simp at h, fun _ => ⟨y.hi, ?_, ?_, ?_, hr.hm⟩⟩
            · simp only
              rw [h0 ho, ← hlo]
            · have := hr.hi; omega
            · intro i h6 h7
              exact hr.al i (by omega) h7
          | true =>
            have hop := hsi.op ho
            have hlo : y.lo ≠ m := by
              intro hc
              have h6 := hop.2.2.1 (m - 1) (by omega) (by omega)
              rcases hr.lm with h7 | h7
              · omega
              · rw [hc, h6] at h7
                exact absurd h7 (by decide)
            rw [decide_eq_false (show ¬ ((⟨y, true⟩ : m_laurelref01_Run_R).r0.lo = m) from hlo), if_neg (by decide), Option.bind_some, addc_eq (by omega), Option.bind_some]
            refine ⟨_, rfl, ⟨k + 1, by simp only; omega, by omega, ?_⟩, by simp only; omega⟩
            simp only
            rw [hsucc, ← hm, e, ho]
            refine ⟨fun h => by rw [ho] at h; simp at h, fun _ => ?_⟩
            obtain ⟨E, h2, h3, h4, h5⟩ := h1 ho
            have hE : m ≤ E := by
              refine Classical.byContradiction fun hc => ?_
              have hE' : E + 1 = m := by omega
              rcases h5 with h5 | h5
              · omega
              · rw [hE', hp] at h5
                exact absurd h5 (by decide)
            exact ⟨E, h2, ⟨by omega, h3.2⟩, fun i h6 h7 => h4 i (by omega) h7, h5⟩
      · right
        rw [if_neg hlt]
        refine ⟨_, rfl, ?_⟩
        have hkn : k = dayN s := by omega
        subst hkn
        unfold spansF
        generalize spansN p (firstM s) (dayN s) = X at h0 h1 hsi
        unfold shutF
        cases ho : X.op with
        | false => exact h0 ho
        | true =>
          obtain ⟨E, h2, h3, h4, h5⟩ := h1 ho
          rw [h2]
          have : E = lastM s + 1 - 1 := by omega
          rw [this]) FU ⟨firstM s, []⟩ (FU_lt (by simp only; omega)) ⟨0, by simp, by omega, fun _ => rfl, fun h => by simp [spansN] at h⟩
  rw [hb, Option.bind_some, hQ]
end Go.Proofs.Wk

namespace Go.Proofs.Wk
open Go Go.Gx Go.Pl
set_option linter.unusedVariables false
theorem place_eq {s : Sands} (hs : Short s) {p : Int} : m_laurelref01_Place s p = some (if isPlace s p = true then 0 else 1) := by
  have h2 := hs.f
  unfold m_laurelref01_Place
  rw [subc_eq (by omega), Option.bind_some, off_eq, Option.bind_some]
  unfold isPlace
  cases inr p 0 ((s.floors.length : Int) - 1) <;> rfl
theorem wide_ok {s : Sands} : ∃ b, m_laurellaw01_wide s = some b ∧ (b = false → s.table.length ≤ 20 ∧ s.floors.length ≤ 20 ∧ s.sills.length ≤ 30) := by
  unfold m_laurellaw01_wide
  by_cases h1 : 20 < (s.table.length : Int)
  · rw [if_pos h1, Option.bind_some]; exact ⟨_, rfl, by simp⟩
  rw [if_neg h1]
  by_cases h2 : 20 < (s.floors.length : Int)
  · rw [if_pos h2, Option.bind_some]; exact ⟨_, rfl, by simp⟩
  rw [if_neg h2]
  by_cases h3 : 30 < (s.sills.length : Int)
  · rw [if_pos h3, Option.bind_some]; exact ⟨_, rfl, by simp⟩
  rw [if_neg h3]
  by_cases h4 : 8 < (s.sills.length : Int)
  · rw [if_pos h4, Option.bind_some]; exact ⟨_, rfl, fun _ => by omega⟩
  · rw [if_neg h4, Option.bind_some]; exact ⟨_, rfl, fun _ => by omega⟩
theorem large_ok {s : Sands} : ∃ b, m_laurellaw01_large s = some b ∧ (b = false → Short s) := by
  obtain ⟨b, hb, hw⟩ := wide_ok (s := s)
  unfold m_laurellaw01_large
  rw [hb, Option.bind_some, Option.bind_some]
  cases b with
  | true =>
    rw [if_pos rfl, Option.bind_some, if_pos rfl]
    exact ⟨_, rfl, by simp⟩
  | false =>
    obtain ⟨h1, h2, h3⟩ := hw rfl
    have hS : Short s := ⟨by omega, by omega, by omega⟩
    rw [if_neg (by decide), Option.bind_some]
    by_cases h : (s.table.length : Int) = 0
    · rw [decide_eq_true h, if_pos rfl]
      exact ⟨_, rfl, fun _ => hS⟩
    · rw [decide_eq_false h, if_neg (by decide), ix_eq default (by omega) (by omega), Option.bind_some, Go.Fw.wrap_i64 (by omega), ix_eq default (by omega) (by omega), Option.bind_some]
      by_cases h4 : 0 ≤ (s.table.getD (0 : Int).toNat default).min
      · rw [if_pos h4]
        by_cases h5 : (s.table.getD ((s.table.length : Int) - 1).toNat default).min ≤ 1440
        · rw [if_pos h5, Option.bind_some]
          exact ⟨_, rfl, fun _ => hS⟩
        · rw [if_neg h5, Option.bind_some]
          exact ⟨_, rfl, fun _ => hS⟩
      · rw [if_neg h4, Option.bind_some]
        exact ⟨_, rfl, fun _ => hS⟩
theorem refgates_eq {s : Sands} (hG : Good s) : m_laurelref01_Gates s = some ((List.range s.floors.length).map (fun p : Nat => refGate ((gatesOf s).getD p 0))) := by
  have hfl := hG.fl
  unfold m_laurelref01_Gates
  have key : iterM FU (m_laurelref01_Gates_L0 s) ⟨0, []⟩ = some ((List.range s.floors.length).map (fun p : Nat => refGate ((gatesOf s).getD p 0))) := by
    have hz : (⟨0, []⟩ : m_laurelref01_Gates_S0) = (fun k : Nat => (⟨(k : Int), (List.range k).map (fun p : Nat => refGate ((gatesOf s).getD p 0))⟩ : m_laurelref01_Gates_S0)) 0 := by simp
    rw [hz]
    refine iterM_run (fun k : Nat => (⟨(k : Int), (List.range k).map (fun p : Nat => refGate ((gatesOf s).getD p 0))⟩ : m_laurelref01_Gates_S0)) s.floors.length (fun k hk => ?_) ?_ FU (FU_lt (by omega))
    · unfold m_laurelref01_Gates_L0
      dsimp only
      rw [if_pos (by omega), refgate_eq hG (isPlace_iff.2 ⟨by omega, by omega⟩), Option.bind_some, appc_eq (by simp only [List.length_map, List.length_range, List.length_singleton]; omega), Option.bind_some, addc_eq (by omega), Option.bind_some, List.range_succ, List.map_append]
      rfl
    · unfold m_laurelref01_Gates_L0
      dsimp only
      rw [if_neg (by omega)]
  rw [key, Option.bind_some]
theorem gates_ix {s : Sands} {p : Int} (hp : isPlace s p = true) : ix ((List.range s.floors.length).map (fun p : Nat => refGate ((gatesOf s).getD p 0))) p = some (refGate ((gatesOf s).getD p.toNat 0)) := by
  have h := isPlace_iff.1 hp
  rw [ix_eq 0 h.1 (by simp; omega)]
  congr 1
  have hlt : p.toNat < s.floors.length := by omega
  simp [List.getD_eq_getElem?_getD, hlt]
end Go.Proofs.Wk

namespace Go.Proofs.Wk
open Go Go.Gx Go.Pl
set_option linter.unusedVariables false
/-! ### the look that settles most -/
def mostF (s : Sands) (m : Int) (p : Nat) : Int := if (gatesOf s).getD p 0 = 1000 then 50 else (gatesOf s).getD p 0 - heightF s m
def yesF (s : Sands) (m : Int) (p : Nat) : Int := max 0 (s.wind.hi - max s.wind.lo (mostF s m p + 1) + 1)
def allW (s : Sands) : Int := s.wind.hi - s.wind.lo + 1
def nF (s : Sands) (m : Int) (p : Nat) : Int := max (yesF s m p) (allW s - yesF s m p)
def askStep (s : Sands) (m : Int) (st : Int × Look) (p : Nat) : Int × Look := if nF s m p < st.1 then (nF s m p, ⟨m, (p : Int), true⟩) else st
theorem x_day_eq {s : Sands} (hG : Good s) {m : Int} : x_day s m = some (dayF s m) := by
  have hs := Good.short hG
  have h1 := hs.t
  have h2 := hs.f
  have h3 := hs.s
  unfold x_day
  rw [if_pos ⟨⟨by omega, by omega, by omega⟩, check_of_good hG⟩]
end Go.Proofs.Wk

namespace Go.Proofs.Wk
open Go Go.Gx Go.Pl
set_option linter.unusedVariables false
theorem n_bd {s : Sands} (hG : Good s) {m : Int} {p : Nat} : 0 ≤ nF s m p ∧ nF s m p ≤ allW s := by
  have := hG.lo
  have := hG.hi
  have := hG.wind
  unfold nF yesF allW
  omega
/-- the search so far -/
def AskInv (s : Sands) (st : Int × Look) (D : Int → Nat → Prop) : Prop :=
  ((∀ m p, ¬ D m p) ∧ st = (allW s + 1, ⟨0, 0, false⟩)) ∨ ∃ (m : Int) (p : Nat), D m p ∧ st = (nF s m p, ⟨m, (p : Int), true⟩) ∧ ∀ m' p', D m' p' → nF s m p ≤ nF s m' p' ∧ (nF s m' p' = nF s m p → m < m' ∨ (m = m' ∧ p ≤ p'))
theorem AskInv.step {s : Sands} (hG : Good s) {st : Int × Look} {D : Int → Nat → Prop} (h : AskInv s st D) {m : Int} {p : Nat} (hlt : ∀ m' p', D m' p' → m' < m ∨ (m' = m ∧ p' < p)) : AskInv s (askStep s m st p) (fun m' p' => D m' p' ∨ (m' = m ∧ p' = p)) := by
  have hb := n_bd hG (m := m) (p := p)
  right
  unfold askStep
  rcases h with ⟨h1, rfl⟩ | ⟨a, b, hD, rfl, hmin⟩
  · rw [if_pos (show nF s m p < allW s + 1 by omega)]
    refine ⟨m, p, .inr ⟨rfl, rfl⟩, rfl, fun m' p' h => ?_⟩
    rcases h with h | ⟨rfl, rfl⟩
    · exact (h1 _ _ h).elim
    · exact ⟨Int.le_refl _, fun _ => .inr ⟨rfl, Nat.le_refl _⟩⟩
  · by_cases hc : nF s m p < nF s a b
    · rw [if_pos hc]
      refine ⟨m, p, .inr ⟨rfl, rfl⟩, rfl, fun m' p' h => ?_⟩
      rcases h with h | ⟨rfl, rfl⟩
      · have := (hmin m' p' h).1
        exact ⟨by omega, fun he => by omega⟩
      · exact ⟨Int.le_refl _, fun _ => .inr ⟨rfl, Nat.le_refl _⟩⟩
    · rw [if_neg hc]
      refine ⟨a, b, .inl hD, rfl, fun m' p' h => ?_⟩
      rcases h with h | ⟨rfl, rfl⟩
      · exact hmin m' p' h
      · refine ⟨by omega, fun _ => ?_⟩
        rcases hlt a b hD with h2 | ⟨h2, h3⟩
        · exact .inl h2
        · exact .inr ⟨h2, by omega⟩
theorem AskInv.congr {s : Sands} {st : Int × Look} {D E : Int → Nat → Prop} (h : AskInv s st D) (he : ∀ m p, D m p ↔ E m p) : AskInv s st E := by
  have : D = E := by funext m p; exact propext (he m p)
  rw [← this]; exact h
end Go.Proofs.Wk

namespace Go.Proofs.Wk
open Go Go.Gx Go.Pl
set_option linter.unusedVariables false
theorem eq_int (a : List Int) (ha : a.length ≤ 1000) : m_laurelkit_Eq_int a a = some true := by
  unfold m_laurelkit_Eq_int
  rw [equal_int a ha, Option.bind_some]
end Go.Proofs.Wk

namespace Go.Proofs.Wk
open Go Go.Gx Go.Pl
set_option linter.unusedVariables false
theorem drop_cons {l : List Int} {k : Nat} (h : k < l.length) : l.drop k = l.getD k 0 :: l.drop (k + 1) := by
  rw [List.drop_eq_getElem_cons h, List.getD_eq_getElem?_getD, List.getElem?_eq_getElem h]
  rfl
end Go.Proofs.Wk

namespace Go.Proofs.Wk
open Go Go.Gx Go.Pl
set_option linter.unusedVariables false
theorem Rch.mono {s : Sands} {sl pl : List Int} {h h' p : Int} (hh : h ≤ h') (r : Rch s sl pl h p) : Rch s sl pl h' p := by
  induction r with
  | sea => exact .sea
  | step _ hs ih => exact .step ih ⟨hs.kl, hs.jn, hs.qn, hs.sn, hs.pn, by have := hs.hh; omega, by have := hs.ff; omega⟩
theorem take_fold {α β : Type} {f : β → α → β} {z : β} {l : List α} {k : Nat} (d : α) (h : k < l.length) : (l.take (k + 1)).foldl f z = f ((l.take k).foldl f z) (l.getD k d) := by
  rw [← take_snoc d h, List.foldl_append]
  rfl
end Go.Proofs.Wk

