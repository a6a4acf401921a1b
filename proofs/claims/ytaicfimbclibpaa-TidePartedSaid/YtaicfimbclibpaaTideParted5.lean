/- What the functions that the law TideParted reaches come to, and why it holds: part 5. -/
import Derived.Test.YtaicfimbclibpaaTideParted4
namespace Go.Proofs.Wk
open Go Go.Fw Go.Gx Go.Pl
set_option linter.unusedVariables false
theorem gxinf43 : (Try.prog.info? 43).map (fun i => (i.zero, i.size, i.bytes)) = some (some (.slice none 0 0), 1, 24) := by kernel_rfl
theorem gxinf46 : (Try.prog.info? 46).map (fun i => (i.zero, i.size, i.bytes)) = some (some (.int .i64 0), 1, 8) := by kernel_rfl
def m_laurellaw01_TideParted_1 (p0 : Int) (a11 : (List (List Int))) (a22 : Int) : Option Bool :=
 (ix a11 p0).bind fun t7 =>
 (ix t7 a22).bind fun t10 =>
 some (!decide (t10 = 0))
set_option maxRecDepth 100000 in
set_option maxHeartbeats 4000000 in
theorem c_laurellaw01_TideParted_1 (p0 : Int) (a11 : (List (List Int))) (a22 : Int) (pb : Nat) (qa0 : Option Addr) (na0 ca0 : Nat) (ar0 : List AL) (pb_1 : Nat) (w : World) (hw : HV w (keys [(pb, .cells #[.slice qa0 na0 ca0] 127 (0, 0)), (pb_1, .cells #[.int .i64 a22] 3 (0, 0))] []) [(pb, .cells #[.slice qa0 na0 ca0] 127 (0, 0)), (pb_1, .cells #[.int .i64 a22] 3 (0, 0))] [] [(aB qa0, aO qa0, RwA.enc ar0)] w) (hna0 : a11.length = na0) (hqa0 : AOK na0 qa0) (hla0 : na0 ≤ ca0) (hda0 : DRO a11 ar0) (hTa0 : ∀ t, t ∈ rsg RI a11 ar0 → segOK w t ∧ (t.2.2 ≠ [] → t.1 ∉ keys [(pb, .cells #[.slice qa0 na0 ca0] 127 (0, 0)), (pb_1, .cells #[.int .i64 a22] 3 (0, 0))] [])) {res : Bool} (hm : m_laurellaw01_TideParted_1 p0 a11 a22 = some res) :
    Calls Try.prog 79 #[.int .i64 p0, ptr pb 0, ptr pb_1 0] w (fun en w' => ∃ l : Unit, en = .returned (.bool res) ∧ (True) ∧ HV w (keys [(pb, .cells #[.slice qa0 na0 ca0] 127 (0, 0)), (pb_1, .cells #[.int .i64 a22] 3 (0, 0))] []) [(pb, .cells #[.slice qa0 na0 ca0] 127 (0, 0)), (pb_1, .cells #[.int .i64 a22] 3 (0, 0))] [] [] w') := by
  unfold m_laurellaw01_TideParted_1 at hm
  refine g_enter (args := [.int .i64 p0, ptr pb 0, ptr pb_1 0]) Try.func79 rfl Try.ntmps79 rfl (e := [(0, _), (1, _), (2, _)]) rfl (H := HV w (keys [(pb, .cells #[.slice qa0 na0 ca0] 127 (0, 0)), (pb_1, .cells #[.int .i64 a22] 3 (0, 0))] []) [(pb, .cells #[.slice qa0 na0 ca0] 127 (0, 0)), (pb_1, .cells #[.int .i64 a22] 3 (0, 0))] [] [(aB qa0, aO qa0, RwA.enc ar0)]) hw ?_
  refine g_seq ?_
  refine g_region ?_
  refine g_val rfl rfl rfl (fun _ _ => v_assign rfl) ?_
  refine g_nil ?_
  refine g_n_then ?_
  refine g_seq ?_
  refine g_draw none (.hoist 0 (.free 1 (.free 2 (.hoist 3 (.hoist 4 (.free 5 (.hoist 6 (.free 7 (.free 8 .done))))))))) _ rfl (by decide +kernel) (fun w k hh => hh.draw k) (fun w hh => hh) ?_
  refine p_hoist rfl rfl rfl rfl (fun w hh => v_load (Try.isAgg127 w) rfl (hh.cell 0 rfl rfl)) ?_
  refine p_free rfl rfl rfl rfl (fun _ _ => v_move rfl) ?_
  obtain ⟨t7, h1, hm⟩ := bindO hm
  obtain ⟨A, h2, h3, h4, h5⟩ := (hda0).row h1
  refine p_free rfl rfl rfl rfl (fun w _ => v_ixR h2 (Try.runUnderlying127 w) (Try.sizeOf43 w) rfl rfl (Eq.trans (hda0).len.symm hna0) hqa0) ?_
  refine p_hoist rfl rfl rfl rfl (fun w hh => v_ldE RwA 0 h2 (Try.isAgg43 w) rfl (hh.seg 0 rfl) rfl (Nat.add_zero _).symm) ?_
  refine p_hoist rfl rfl rfl rfl (fun w hh => v_load (Try.isAgg3 w) rfl (hh.cell 1 rfl rfl)) ?_
  obtain ⟨t10, h6, hm⟩ := bindO hm
  refine p_free rfl rfl rfl rfl (fun w _ => v_ixR h6 (Try.runUnderlying43 w) (Try.sizeOf46 w) rfl rfl h3 h4) ?_
  refine p_hoist rfl rfl rfl rfl (fun w hh => v_ldE RI 0 h6 (Try.isAgg46 w) rfl (hh.oldseg (hTa0 _ (rsg_ix h1 h2))) rfl (Nat.add_zero _).symm) ?_
  refine p_free rfl rfl rfl rfl (fun _ _ => v_neq rfl rfl) ?_
  refine p_free rfl rfl rfl rfl (fun _ _ => v_assign rfl) ?_
  refine p_done ?_
  refine g_n_then ?_
  refine g_ret ?_
  obtain rfl := Option.some.inj hm
  refine g_done rfl (fun w hh => (.tmp rfl .nil)) (fun w hh => ⟨(), rfl, trivial, hh.sel [0, 1] [] 1 (by decide) (by decide) rfl rfl rfl⟩)
def m_slices_IndexFunc_intint_4_L0 (s0 : (List Int)) (f1_c0 : (List (List Int))) (f1_c1 : Int) (s : Int) : Option (Int ⊕ (Unit ⊕ Int)) :=
 if s < (s0.length : Int) then
 ((ix s0 s).bind fun t14 =>
 (m_laurellaw01_TideParted_1 t14 f1_c0 f1_c1).bind fun t16 =>
 if t16 = true then
 (some (.inr (.inr s))) else
 ((addc s 1).bind fun t18 =>
 some (.inl t18))) else
 (some (.inr (.inl ())))
def m_slices_IndexFunc_intint_4 (s0 : (List Int)) (f1_c0 : (List (List Int))) (f1_c1 : Int) : Option Int :=
 (iterM FU (m_slices_IndexFunc_intint_4_L0 s0 f1_c0 f1_c1) 0).bind fun o =>
 oc o (fun j => some (-1)) (fun r_1 => some r_1)
set_option maxRecDepth 100000 in
set_option maxHeartbeats 4000000 in
theorem c_slices_IndexFunc_intint_4 (s0 : (List Int)) (f1_c0 : (List (List Int))) (f1_c1 : Int) (qa0 : Option (Nat × Nat)) (na0 ca0 : Nat) (pb : Nat) (qa1 : Option Addr) (na1 ca1 : Nat) (ar1 : List AL) (pb_1 : Nat) (w : World) (hw : HV w (keys [(pb, .cells #[.slice qa1 na1 ca1] 127 (0, 0)), (pb_1, .cells #[.int .i64 f1_c1] 3 (0, 0))] []) [(pb, .cells #[.slice qa1 na1 ca1] 127 (0, 0)), (pb_1, .cells #[.int .i64 f1_c1] 3 (0, 0))] [] [(bk qa0, off qa0, RI.enc s0), (aB qa1, aO qa1, RwA.enc ar1)] w) (hna0 : s0.length = na0) (hqa0 : 0 < na0 → qa0 ≠ none) (hla0 : na0 ≤ ca0) (hna1 : f1_c0.length = na1) (hqa1 : AOK na1 qa1) (hla1 : na1 ≤ ca1) (hda1 : DRO f1_c0 ar1) (hTa1 : ∀ t, t ∈ rsg RI f1_c0 ar1 → segOK w t ∧ (t.2.2 ≠ [] → t.1 ∉ keys [(pb, .cells #[.slice qa1 na1 ca1] 127 (0, 0)), (pb_1, .cells #[.int .i64 f1_c1] 3 (0, 0))] [])) {res : Int} (hm : m_slices_IndexFunc_intint_4 s0 f1_c0 f1_c1 = some res) :
    Calls Try.prog 143 #[slv qa0 na0 ca0, .func (.func 79) #[] #[ptr pb 0, ptr pb_1 0]] w (fun en w' => ∃ l : Unit, en = .returned (.int .i64 res) ∧ (True) ∧ HV w (keys [(pb, .cells #[.slice qa1 na1 ca1] 127 (0, 0)), (pb_1, .cells #[.int .i64 f1_c1] 3 (0, 0))] []) [(pb, .cells #[.slice qa1 na1 ca1] 127 (0, 0)), (pb_1, .cells #[.int .i64 f1_c1] 3 (0, 0))] [] [] w') := by
  unfold m_slices_IndexFunc_intint_4 at hm
  refine g_enter (args := [slv qa0 na0 ca0, .func (.func 79) #[] #[ptr pb 0, ptr pb_1 0]]) Try.func143 rfl Try.ntmps143 rfl (e := [(0, _), (1, _)]) rfl (H := HV w (keys [(pb, .cells #[.slice qa1 na1 ca1] 127 (0, 0)), (pb_1, .cells #[.int .i64 f1_c1] 3 (0, 0))] []) [(pb, .cells #[.slice qa1 na1 ca1] 127 (0, 0)), (pb_1, .cells #[.int .i64 f1_c1] 3 (0, 0))] [] [(bk qa0, off qa0, RI.enc s0), (aB qa1, aO qa1, RwA.enc ar1)]) hw ?_
  refine g_seq ?_
  refine g_region ?_
  refine g_val rfl rfl rfl (fun _ _ => v_assign rfl) ?_
  refine g_nil ?_
  refine g_n_then ?_
  refine g_seq ?_
  refine g_seq ?_
  refine g_region ?_
  refine g_val rfl rfl rfl (fun _ _ => v_move rfl) ?_
  refine g_val rfl rfl rfl (fun w _ => v_lenN hna0 (Try.runUnderlying26 w) rfl) ?_
  refine g_val rfl rfl rfl (fun _ _ => v_move rfl) ?_
  refine g_nil ?_
  refine g_n_then ?_
  obtain ⟨o, h1, h2⟩ := bindO hm
  refine g_cut (ι := Unit) (fun j => o = .inl j) (fun j => []) (fun j => [(pb, .cells #[.slice qa1 na1 ca1] 127 (0, 0)), (pb_1, .cells #[.int .i64 f1_c1] 3 (0, 0))]) (fun j => []) ?_ ?_
  ·replace hm := h1
   refine g_block ?_
   refine g_loopF (ι := Unit) hm (fun s l => True) (fun s l => [(0, slv qa0 na0 ca0), (1, .func (.func 79) #[] #[ptr pb 0, ptr pb_1 0]), (7, .int .i64 (s0.length : Int)), (8, .int .i64 s)]) (fun s l => [(pb, .cells #[.slice qa1 na1 ca1] 127 (0, 0)), (pb_1, .cells #[.int .i64 f1_c1] 3 (0, 0))]) (fun s l => []) () (trivial) ((.cons rfl (.cons rfl (.cons rfl (.cons rfl .nil))))) (fun w hh => hh) (fun s l r hpl hm h3 => ?_)
   unfold m_slices_IndexFunc_intint_4_L0 at hm
   refine g_seq ?_
   refine g_region ?_
   refine g_val rfl rfl rfl (fun _ _ => v_lss rfl rfl) ?_
   refine g_nil ?_
   refine g_n_then ?_
   refine g_seq ?_
   refine g_cond rfl (fun h4 => ?_) (fun h4 => ?_)
   ·replace hm := ifT (of_decide_eq_true h4) hm
    refine g_skip ?_
    refine g_n_then ?_
    refine g_seq ?_
    refine g_block ?_
    refine g_seq ?_
    refine g_region ?_
    refine g_val rfl rfl rfl (fun _ _ => v_move rfl) ?_
    refine g_val rfl rfl rfl (fun _ _ => v_assign rfl) ?_
    refine g_nil ?_
    refine g_n_then ?_
    refine g_seq ?_
    refine g_region ?_
    refine g_val rfl rfl rfl (fun _ _ => v_move rfl) ?_
    refine g_val rfl rfl rfl (fun _ _ => v_move rfl) ?_
    refine g_val rfl rfl rfl (fun _ _ => v_move rfl) ?_
    obtain ⟨t14, h5, hm⟩ := bindO hm
    refine g_val rfl rfl rfl (fun w _ => v_ixA h5 (Try.runUnderlying26 w) (Try.sizeOf3 w) rfl rfl hna0 hqa0) ?_
    refine g_val rfl rfl rfl (fun w hh => v_ldE RI 0 h5 (Try.isAgg3 w) rfl (hh.seg 0 rfl) rfl (Nat.add_zero _).symm) ?_
    obtain ⟨t16, h6, hm⟩ := bindO hm
    refine g_callH [_, _] [] rfl rfl rfl rfl rfl rfl rfl (fun a w => Try.call79 a w) (fun w hh => c_laurellaw01_TideParted_1 t14 f1_c0 f1_c1 pb qa1 na1 ca1 ar1 pb_1 w (HV.callee (S0 := [_, _]) (vs0 := []) hh (roC (hh.rsep (S0 := [_, _]) (vs0 := []) 1 rfl) roN)) hna1 hqa1 hla1 hda1 (hh.oldT (S0 := [_, _]) (vs0 := []) hTa1) h6) (fun l_1 h7 => ?_)
    refine g_sel (S' := [_, _]) (vs' := []) [0, 1] [] 0 (by decide) (by decide) rfl rfl rfl ?_
    refine g_nil ?_
    refine g_n_then ?_
    refine g_cond rfl (fun h8 => ?_) (fun h8 => ?_)
    ·replace hm := ifT (h8) hm
     refine g_seq ?_
     refine g_region ?_
     refine g_val rfl rfl rfl (fun _ _ => v_move rfl) ?_
     refine g_val rfl rfl rfl (fun _ _ => v_assign rfl) ?_
     refine g_nil ?_
     refine g_n_then ?_
     refine g_ret ?_
     refine g_r_blk ?_
     refine g_r_then ?_
     refine g_r_then ?_
     refine g_r_blk ?_
     obtain rfl := Option.some.inj hm
     have hbo := h3 _ rfl
     subst hbo
     refine g_r_then ?_
     replace hm := ocR h2
     refine g_r_then ?_
     obtain rfl := Option.some.inj hm
     refine g_done rfl (fun w hh => (.tmp rfl .nil)) (fun w hh => ⟨(), rfl, trivial, hh.sel [0, 1] [] 2 (by decide) (by decide) rfl rfl rfl⟩)
    ·replace hm := ifF ((fun hh => Bool.noConfusion ((h8).symm.trans hh))) hm
     refine g_skip ?_
     refine g_n_blk ?_
     refine g_n_then ?_
     refine g_region ?_
     obtain ⟨t18, h9, hm⟩ := bindO hm
     refine g_val rfl rfl rfl (fun _ _ => v_addc h9 rfl rfl) ?_
     refine g_val rfl rfl rfl (fun _ _ => v_move rfl) ?_
     refine g_nil ?_
     obtain rfl := Option.some.inj hm
     refine g_n_then ?_
     exact g_again' _ () rfl (trivial) ((.cons rfl (.cons rfl (.cons rfl (.cons rfl .nil))))) (fun w hh => hh)
   ·replace hm := ifF (of_decide_eq_false h4) hm
    refine g_exit ?_
    refine g_x_then ?_
    refine g_x_then ?_
    refine g_x_blk ?_
    obtain rfl := Option.some.inj hm
    have hbo := h3 _ rfl
    subst hbo
    exact g_leaf () (rfl) (.nil) (fun w hh => hh)
  ·intro j hj
   have h10 := hj
   subst h10
   replace hm := ocL h2
   refine g_n_then ?_
   refine g_seq ?_
   refine g_region ?_
   refine g_val rfl rfl rfl (fun _ _ => v_assign rfl) ?_
   refine g_nil ?_
   refine g_n_then ?_
   refine g_ret ?_
   obtain rfl := Option.some.inj hm
   refine g_done rfl (fun w hh => (.tmp rfl .nil)) (fun w hh => ⟨(), rfl, trivial, hh.sel [0, 1] [] 2 (by decide) (by decide) rfl rfl rfl⟩)
def m_slices_ContainsFunc_intint_4 (s0 : (List Int)) (f1_c0 : (List (List Int))) (f1_c1 : Int) : Option Bool :=
 (m_slices_IndexFunc_intint_4 s0 f1_c0 f1_c1).bind fun t7 =>
 some (decide (0 ≤ t7))
set_option maxRecDepth 100000 in
set_option maxHeartbeats 4000000 in
theorem c_slices_ContainsFunc_intint_4 (s0 : (List Int)) (f1_c0 : (List (List Int))) (f1_c1 : Int) (qa0 : Option (Nat × Nat)) (na0 ca0 : Nat) (pb : Nat) (qa1 : Option Addr) (na1 ca1 : Nat) (ar1 : List AL) (pb_1 : Nat) (w : World) (hw : HV w (keys [(pb, .cells #[.slice qa1 na1 ca1] 127 (0, 0)), (pb_1, .cells #[.int .i64 f1_c1] 3 (0, 0))] []) [(pb, .cells #[.slice qa1 na1 ca1] 127 (0, 0)), (pb_1, .cells #[.int .i64 f1_c1] 3 (0, 0))] [] [(bk qa0, off qa0, RI.enc s0), (aB qa1, aO qa1, RwA.enc ar1)] w) (hna0 : s0.length = na0) (hqa0 : 0 < na0 → qa0 ≠ none) (hla0 : na0 ≤ ca0) (hna1 : f1_c0.length = na1) (hqa1 : AOK na1 qa1) (hla1 : na1 ≤ ca1) (hda1 : DRO f1_c0 ar1) (hTa1 : ∀ t, t ∈ rsg RI f1_c0 ar1 → segOK w t ∧ (t.2.2 ≠ [] → t.1 ∉ keys [(pb, .cells #[.slice qa1 na1 ca1] 127 (0, 0)), (pb_1, .cells #[.int .i64 f1_c1] 3 (0, 0))] [])) {res : Bool} (hm : m_slices_ContainsFunc_intint_4 s0 f1_c0 f1_c1 = some res) :
    Calls Try.prog 78 #[slv qa0 na0 ca0, .func (.func 79) #[] #[ptr pb 0, ptr pb_1 0]] w (fun en w' => ∃ l : Unit, en = .returned (.bool res) ∧ (True) ∧ HV w (keys [(pb, .cells #[.slice qa1 na1 ca1] 127 (0, 0)), (pb_1, .cells #[.int .i64 f1_c1] 3 (0, 0))] []) [(pb, .cells #[.slice qa1 na1 ca1] 127 (0, 0)), (pb_1, .cells #[.int .i64 f1_c1] 3 (0, 0))] [] [] w') := by
  unfold m_slices_ContainsFunc_intint_4 at hm
  refine g_enter (args := [slv qa0 na0 ca0, .func (.func 79) #[] #[ptr pb 0, ptr pb_1 0]]) Try.func78 rfl Try.ntmps78 rfl (e := [(0, _), (1, _)]) rfl (H := HV w (keys [(pb, .cells #[.slice qa1 na1 ca1] 127 (0, 0)), (pb_1, .cells #[.int .i64 f1_c1] 3 (0, 0))] []) [(pb, .cells #[.slice qa1 na1 ca1] 127 (0, 0)), (pb_1, .cells #[.int .i64 f1_c1] 3 (0, 0))] [] [(bk qa0, off qa0, RI.enc s0), (aB qa1, aO qa1, RwA.enc ar1)]) hw ?_
  refine g_seq ?_
  refine g_region ?_
  refine g_val rfl rfl rfl (fun _ _ => v_assign rfl) ?_
  refine g_nil ?_
  refine g_n_then ?_
  refine g_seq ?_
  refine g_region ?_
  refine g_val rfl rfl rfl (fun _ _ => v_move rfl) ?_
  refine g_val rfl rfl rfl (fun _ _ => v_move rfl) ?_
  obtain ⟨t7, h1, hm⟩ := bindO hm
  refine g_callH [_, _] [] rfl rfl rfl rfl rfl rfl rfl (fun a w => Try.call143 a w) (fun w hh => c_slices_IndexFunc_intint_4 s0 f1_c0 f1_c1 qa0 na0 ca0 pb qa1 na1 ca1 ar1 pb_1 w (HV.callee (S0 := [_, _]) (vs0 := []) hh (roC (hh.rsep (S0 := [_, _]) (vs0 := []) 0 rfl) (roC (hh.rsep (S0 := [_, _]) (vs0 := []) 1 rfl) roN))) hna0 hqa0 hla0 hna1 hqa1 hla1 hda1 (hh.oldT (S0 := [_, _]) (vs0 := []) hTa1) h1) (fun l h2 => ?_)
  refine g_sel (S' := [_, _]) (vs' := []) [0, 1] [] 0 (by decide) (by decide) rfl rfl rfl ?_
  refine g_val rfl rfl rfl (fun _ _ => v_geq rfl rfl) ?_
  refine g_val rfl rfl rfl (fun _ _ => v_assign rfl) ?_
  refine g_nil ?_
  refine g_n_then ?_
  refine g_ret ?_
  obtain rfl := Option.some.inj hm
  refine g_done rfl (fun w hh => (.tmp rfl .nil)) (fun w hh => ⟨(), rfl, trivial, hh.sel [0, 1] [] 2 (by decide) (by decide) rfl rfl rfl⟩)
def m_laurellaw01_TideParted_2 (p0 : Int) (a11 : (List (List Int))) (a22 : Int) (a33_table : (List Water)) (a33_wind_lo : Int) (a33_wind_hi : Int) (a33_floors : (List Int)) (a33_sills : (List Sill)) : Option Bool :=
 (ix a11 p0).bind fun t8 =>
 (m_laurellaw01_first (⟨a33_table, (⟨a33_wind_lo, a33_wind_hi⟩ : Span), a33_floors, a33_sills⟩ : Sands)).bind fun t12 =>
 (subc a22 t12).bind fun t13 =>
 (ix t8 t13).bind fun t14 =>
 some (!decide (t14 = 0))
set_option maxRecDepth 100000 in
set_option maxHeartbeats 4000000 in
theorem c_laurellaw01_TideParted_2 (p0 : Int) (a11 : (List (List Int))) (a22 : Int) (a33_table : (List Water)) (a33_wind_lo : Int) (a33_wind_hi : Int) (a33_floors : (List Int)) (a33_sills : (List Sill)) (pb : Nat) (qa0 : Option Addr) (na0 ca0 : Nat) (ar0 : List AL) (pb_1 : Nat) (pb_2 : Nat) (qa1 : Option Addr) (na1 ca1 : Nat) (qa2 : Option Addr) (na2 ca2 : Nat) (qa3 : Option Addr) (na3 ca3 : Nat) (w : World) (hw : HV w (keys [(pb, .cells #[.slice qa0 na0 ca0] 127 (0, 0)), (pb_1, .cells #[.int .i64 a22] 3 (0, 0)), (pb_2, .cells #[.slice qa1 na1 ca1, .int .i64 a33_wind_lo, .int .i64 a33_wind_hi, .slice qa2 na2 ca2, .slice qa3 na3 ca3] 29 (0, 0))] []) [(pb, .cells #[.slice qa0 na0 ca0] 127 (0, 0)), (pb_1, .cells #[.int .i64 a22] 3 (0, 0)), (pb_2, .cells #[.slice qa1 na1 ca1, .int .i64 a33_wind_lo, .int .i64 a33_wind_hi, .slice qa2 na2 ca2, .slice qa3 na3 ca3] 29 (0, 0))] [] [(aB qa0, aO qa0, RwA.enc ar0), (aB qa1, aO qa1, RW.enc a33_table), (aB qa2, aO qa2, RI.enc a33_floors), (aB qa3, aO qa3, RS.enc a33_sills)] w) (hna0 : a11.length = na0) (hqa0 : AOK na0 qa0) (hla0 : na0 ≤ ca0) (hda0 : DRO a11 ar0) (hTa0 : ∀ t, t ∈ rsg RI a11 ar0 → segOK w t ∧ (t.2.2 ≠ [] → t.1 ∉ keys [(pb, .cells #[.slice qa0 na0 ca0] 127 (0, 0)), (pb_1, .cells #[.int .i64 a22] 3 (0, 0)), (pb_2, .cells #[.slice qa1 na1 ca1, .int .i64 a33_wind_lo, .int .i64 a33_wind_hi, .slice qa2 na2 ca2, .slice qa3 na3 ca3] 29 (0, 0))] [])) (hna1 : a33_table.length = na1) (hqa1 : AOK na1 qa1) (hla1 : na1 ≤ ca1) (hna2 : a33_floors.length = na2) (hqa2 : AOK na2 qa2) (hla2 : na2 ≤ ca2) (hna3 : a33_sills.length = na3) (hqa3 : AOK na3 qa3) (hla3 : na3 ≤ ca3) {res : Bool} (hm : m_laurellaw01_TideParted_2 p0 a11 a22 a33_table a33_wind_lo a33_wind_hi a33_floors a33_sills = some res) :
    Calls Try.prog 80 #[.int .i64 p0, ptr pb 0, ptr pb_1 0, ptr pb_2 0] w (fun en w' => ∃ l : Unit, en = .returned (.bool res) ∧ (True) ∧ HV w (keys [(pb, .cells #[.slice qa0 na0 ca0] 127 (0, 0)), (pb_1, .cells #[.int .i64 a22] 3 (0, 0)), (pb_2, .cells #[.slice qa1 na1 ca1, .int .i64 a33_wind_lo, .int .i64 a33_wind_hi, .slice qa2 na2 ca2, .slice qa3 na3 ca3] 29 (0, 0))] []) [(pb, .cells #[.slice qa0 na0 ca0] 127 (0, 0)), (pb_1, .cells #[.int .i64 a22] 3 (0, 0)), (pb_2, .cells #[.slice qa1 na1 ca1, .int .i64 a33_wind_lo, .int .i64 a33_wind_hi, .slice qa2 na2 ca2, .slice qa3 na3 ca3] 29 (0, 0))] [] [] w') := by
  unfold m_laurellaw01_TideParted_2 at hm
  refine g_enter (args := [.int .i64 p0, ptr pb 0, ptr pb_1 0, ptr pb_2 0]) Try.func80 rfl Try.ntmps80 rfl (e := [(0, _), (1, _), (2, _), (3, _)]) rfl (H := HV w (keys [(pb, .cells #[.slice qa0 na0 ca0] 127 (0, 0)), (pb_1, .cells #[.int .i64 a22] 3 (0, 0)), (pb_2, .cells #[.slice qa1 na1 ca1, .int .i64 a33_wind_lo, .int .i64 a33_wind_hi, .slice qa2 na2 ca2, .slice qa3 na3 ca3] 29 (0, 0))] []) [(pb, .cells #[.slice qa0 na0 ca0] 127 (0, 0)), (pb_1, .cells #[.int .i64 a22] 3 (0, 0)), (pb_2, .cells #[.slice qa1 na1 ca1, .int .i64 a33_wind_lo, .int .i64 a33_wind_hi, .slice qa2 na2 ca2, .slice qa3 na3 ca3] 29 (0, 0))] [] [(aB qa0, aO qa0, RwA.enc ar0), (aB qa1, aO qa1, RW.enc a33_table), (aB qa2, aO qa2, RI.enc a33_floors), (aB qa3, aO qa3, RS.enc a33_sills)]) hw ?_
  refine g_seq ?_
  refine g_region ?_
  refine g_val rfl rfl rfl (fun _ _ => v_assign rfl) ?_
  refine g_nil ?_
  refine g_n_then ?_
  refine g_seq ?_
  refine g_draw none (.hoist 0 (.free 1 (.free 2 (.hoist 3 (.hoist 4 (.hoist 5 (.one 6 (.free 7 (.free 8 (.hoist 9 (.free 10 (.free 11 .done)))))))))))) _ rfl (by decide +kernel) (fun w k hh => hh.draw k) (fun w hh => hh) ?_
  refine p_hoist rfl rfl rfl rfl (fun w hh => v_load (Try.isAgg127 w) rfl (hh.cell 0 rfl rfl)) ?_
  refine p_free rfl rfl rfl rfl (fun _ _ => v_move rfl) ?_
  obtain ⟨t8, h1, hm⟩ := bindO hm
  obtain ⟨A, h2, h3, h4, h5⟩ := (hda0).row h1
  refine p_free rfl rfl rfl rfl (fun w _ => v_ixR h2 (Try.runUnderlying127 w) (Try.sizeOf43 w) rfl rfl (Eq.trans (hda0).len.symm hna0) hqa0) ?_
  refine p_hoist rfl rfl rfl rfl (fun w hh => v_ldE RwA 0 h2 (Try.isAgg43 w) rfl (hh.seg 0 rfl) rfl (Nat.add_zero _).symm) ?_
  refine p_hoist rfl rfl rfl rfl (fun w hh => v_load (Try.isAgg3 w) rfl (hh.cell 1 rfl rfl)) ?_
  refine p_hoist rfl rfl rfl rfl (fun w hh => v_loadAgg (vs := [_, _, _, _, _]) (Try.isAgg29 w) (Try.sizeOf29 w) rfl (hh.cells 2 rfl rfl)) ?_
  refine p_one rfl ?_
  obtain ⟨t12, h6, hm⟩ := bindO hm
  refine g_callH [] [] rfl rfl rfl rfl rfl rfl rfl (fun a w => Try.call26 a w) (fun w hh => c_laurellaw01_first (⟨a33_table, (⟨a33_wind_lo, a33_wind_hi⟩ : Span), a33_floors, a33_sills⟩ : Sands) qa1 na1 ca1 qa2 na2 ca2 qa3 na3 ca3 w (HV.callee (S0 := []) (vs0 := []) hh (roC (hh.rsep (S0 := []) (vs0 := []) 1 rfl) (roC (hh.rsep (S0 := []) (vs0 := []) 2 rfl) (roC (hh.rsep (S0 := []) (vs0 := []) 3 rfl) roN)))) hna1 hqa1 hla1 hna2 hqa2 hla2 hna3 hqa3 hla3 h6) (fun l h7 => ?_)
  refine p_next (fun w hh => hh) ?_
  obtain ⟨t13, h8, hm⟩ := bindO hm
  refine p_free rfl rfl rfl rfl (fun _ _ => v_subc h8 rfl rfl) ?_
  obtain ⟨t14, h9, hm⟩ := bindO hm
  refine p_free rfl rfl rfl rfl (fun w _ => v_ixR h9 (Try.runUnderlying43 w) (Try.sizeOf46 w) rfl rfl h3 h4) ?_
  refine p_hoist rfl rfl rfl rfl (fun w hh => v_ldE RI 0 h9 (Try.isAgg46 w) rfl (hh.oldseg (hTa0 _ (rsg_ix h1 h2))) rfl (Nat.add_zero _).symm) ?_
  refine p_free rfl rfl rfl rfl (fun _ _ => v_neq rfl rfl) ?_
  refine p_free rfl rfl rfl rfl (fun _ _ => v_assign rfl) ?_
  refine p_done ?_
  refine g_n_then ?_
  refine g_ret ?_
  obtain rfl := Option.some.inj hm
  refine g_done rfl (fun w hh => (.tmp rfl .nil)) (fun w hh => ⟨(), rfl, trivial, hh.sel [0, 1, 2] [] 4 (by decide) (by decide) rfl rfl rfl⟩)
def m_slices_IndexFunc_intint_5_L0 (s0 : (List Int)) (f1_c0 : (List (List Int))) (f1_c1 : Int) (f1_c2_table : (List Water)) (f1_c2_wind_lo : Int) (f1_c2_wind_hi : Int) (f1_c2_floors : (List Int)) (f1_c2_sills : (List Sill)) (s : Int) : Option (Int ⊕ (Unit ⊕ Int)) :=
 if s < (s0.length : Int) then
 ((ix s0 s).bind fun t14 =>
 (m_laurellaw01_TideParted_2 t14 f1_c0 f1_c1 f1_c2_table f1_c2_wind_lo f1_c2_wind_hi f1_c2_floors f1_c2_sills).bind fun t16 =>
 if t16 = true then
 (some (.inr (.inr s))) else
 ((addc s 1).bind fun t18 =>
 some (.inl t18))) else
 (some (.inr (.inl ())))
def m_slices_IndexFunc_intint_5 (s0 : (List Int)) (f1_c0 : (List (List Int))) (f1_c1 : Int) (f1_c2_table : (List Water)) (f1_c2_wind_lo : Int) (f1_c2_wind_hi : Int) (f1_c2_floors : (List Int)) (f1_c2_sills : (List Sill)) : Option Int :=
 (iterM FU (m_slices_IndexFunc_intint_5_L0 s0 f1_c0 f1_c1 f1_c2_table f1_c2_wind_lo f1_c2_wind_hi f1_c2_floors f1_c2_sills) 0).bind fun o =>
 oc o (fun j => some (-1)) (fun r_1 => some r_1)
set_option maxRecDepth 100000 in
set_option maxHeartbeats 4000000 in
theorem c_slices_IndexFunc_intint_5 (s0 : (List Int)) (f1_c0 : (List (List Int))) (f1_c1 : Int) (f1_c2_table : (List Water)) (f1_c2_wind_lo : Int) (f1_c2_wind_hi : Int) (f1_c2_floors : (List Int)) (f1_c2_sills : (List Sill)) (qa0 : Option (Nat × Nat)) (na0 ca0 : Nat) (pb : Nat) (qa1 : Option Addr) (na1 ca1 : Nat) (ar1 : List AL) (pb_1 : Nat) (pb_2 : Nat) (qa2 : Option (Nat × Nat)) (na2 ca2 : Nat) (qa3 : Option (Nat × Nat)) (na3 ca3 : Nat) (qa4 : Option (Nat × Nat)) (na4 ca4 : Nat) (w : World) (hw : HV w (keys [(pb, .cells #[.slice qa1 na1 ca1] 127 (0, 0)), (pb_1, .cells #[.int .i64 f1_c1] 3 (0, 0)), (pb_2, .cells #[slv qa2 na2 ca2, .int .i64 f1_c2_wind_lo, .int .i64 f1_c2_wind_hi, slv qa3 na3 ca3, slv qa4 na4 ca4] 29 (0, 0))] []) [(pb, .cells #[.slice qa1 na1 ca1] 127 (0, 0)), (pb_1, .cells #[.int .i64 f1_c1] 3 (0, 0)), (pb_2, .cells #[slv qa2 na2 ca2, .int .i64 f1_c2_wind_lo, .int .i64 f1_c2_wind_hi, slv qa3 na3 ca3, slv qa4 na4 ca4] 29 (0, 0))] [] [(bk qa0, off qa0, RI.enc s0), (aB qa1, aO qa1, RwA.enc ar1), (bk qa2, off qa2, RW.enc f1_c2_table), (bk qa3, off qa3, RI.enc f1_c2_floors), (bk qa4, off qa4, RS.enc f1_c2_sills)] w) (hna0 : s0.length = na0) (hqa0 : 0 < na0 → qa0 ≠ none) (hla0 : na0 ≤ ca0) (hna1 : f1_c0.length = na1) (hqa1 : AOK na1 qa1) (hla1 : na1 ≤ ca1) (hda1 : DRO f1_c0 ar1) (hTa1 : ∀ t, t ∈ rsg RI f1_c0 ar1 → segOK w t ∧ (t.2.2 ≠ [] → t.1 ∉ keys [(pb, .cells #[.slice qa1 na1 ca1] 127 (0, 0)), (pb_1, .cells #[.int .i64 f1_c1] 3 (0, 0)), (pb_2, .cells #[slv qa2 na2 ca2, .int .i64 f1_c2_wind_lo, .int .i64 f1_c2_wind_hi, slv qa3 na3 ca3, slv qa4 na4 ca4] 29 (0, 0))] [])) (hna2 : f1_c2_table.length = na2) (hqa2 : 0 < na2 → qa2 ≠ none) (hla2 : na2 ≤ ca2) (hna3 : f1_c2_floors.length = na3) (hqa3 : 0 < na3 → qa3 ≠ none) (hla3 : na3 ≤ ca3) (hna4 : f1_c2_sills.length = na4) (hqa4 : 0 < na4 → qa4 ≠ none) (hla4 : na4 ≤ ca4) {res : Int} (hm : m_slices_IndexFunc_intint_5 s0 f1_c0 f1_c1 f1_c2_table f1_c2_wind_lo f1_c2_wind_hi f1_c2_floors f1_c2_sills = some res) :
    Calls Try.prog 143 #[slv qa0 na0 ca0, .func (.func 80) #[] #[ptr pb 0, ptr pb_1 0, ptr pb_2 0]] w (fun en w' => ∃ l : Unit, en = .returned (.int .i64 res) ∧ (True) ∧ HV w (keys [(pb, .cells #[.slice qa1 na1 ca1] 127 (0, 0)), (pb_1, .cells #[.int .i64 f1_c1] 3 (0, 0)), (pb_2, .cells #[slv qa2 na2 ca2, .int .i64 f1_c2_wind_lo, .int .i64 f1_c2_wind_hi, slv qa3 na3 ca3, slv qa4 na4 ca4] 29 (0, 0))] []) [(pb, .cells #[.slice qa1 na1 ca1] 127 (0, 0)), (pb_1, .cells #[.int .i64 f1_c1] 3 (0, 0)), (pb_2, .cells #[slv qa2 na2 ca2, .int .i64 f1_c2_wind_lo, .int .i64 f1_c2_wind_hi, slv qa3 na3 ca3, slv qa4 na4 ca4] 29 (0, 0))] [] [] w') := by
  unfold m_slices_IndexFunc_intint_5 at hm
  refine g_enter (args := [slv qa0 na0 ca0, .func (.func 80) #[] #[ptr pb 0, ptr pb_1 0, ptr pb_2 0]]) Try.func143 rfl Try.ntmps143 rfl (e := [(0, _), (1, _)]) rfl (H := HV w (keys [(pb, .cells #[.slice qa1 na1 ca1] 127 (0, 0)), (pb_1, .cells #[.int .i64 f1_c1] 3 (0, 0)), (pb_2, .cells #[slv qa2 na2 ca2, .int .i64 f1_c2_wind_lo, .int .i64 f1_c2_wind_hi, slv qa3 na3 ca3, slv qa4 na4 ca4] 29 (0, 0))] []) [(pb, .cells #[.slice qa1 na1 ca1] 127 (0, 0)), (pb_1, .cells #[.int .i64 f1_c1] 3 (0, 0)), (pb_2, .cells #[slv qa2 na2 ca2, .int .i64 f1_c2_wind_lo, .int .i64 f1_c2_wind_hi, slv qa3 na3 ca3, slv qa4 na4 ca4] 29 (0, 0))] [] [(bk qa0, off qa0, RI.enc s0), (aB qa1, aO qa1, RwA.enc ar1), (bk qa2, off qa2, RW.enc f1_c2_table), (bk qa3, off qa3, RI.enc f1_c2_floors), (bk qa4, off qa4, RS.enc f1_c2_sills)]) hw ?_
  refine g_seq ?_
  refine g_region ?_
  refine g_val rfl rfl rfl (fun _ _ => v_assign rfl) ?_
  refine g_nil ?_
  refine g_n_then ?_
  refine g_seq ?_
  refine g_seq ?_
  refine g_region ?_
  refine g_val rfl rfl rfl (fun _ _ => v_move rfl) ?_
  refine g_val rfl rfl rfl (fun w _ => v_lenN hna0 (Try.runUnderlying26 w) rfl) ?_
  refine g_val rfl rfl rfl (fun _ _ => v_move rfl) ?_
  refine g_nil ?_
  refine g_n_then ?_
  obtain ⟨o, h1, h2⟩ := bindO hm
  refine g_cut (ι := Unit) (fun j => o = .inl j) (fun j => []) (fun j => [(pb, .cells #[.slice qa1 na1 ca1] 127 (0, 0)), (pb_1, .cells #[.int .i64 f1_c1] 3 (0, 0)), (pb_2, .cells #[slv qa2 na2 ca2, .int .i64 f1_c2_wind_lo, .int .i64 f1_c2_wind_hi, slv qa3 na3 ca3, slv qa4 na4 ca4] 29 (0, 0))]) (fun j => []) ?_ ?_
  ·replace hm := h1
   refine g_block ?_
   refine g_loopF (ι := Unit) hm (fun s l => True) (fun s l => [(0, slv qa0 na0 ca0), (1, .func (.func 80) #[] #[ptr pb 0, ptr pb_1 0, ptr pb_2 0]), (7, .int .i64 (s0.length : Int)), (8, .int .i64 s)]) (fun s l => [(pb, .cells #[.slice qa1 na1 ca1] 127 (0, 0)), (pb_1, .cells #[.int .i64 f1_c1] 3 (0, 0)), (pb_2, .cells #[slv qa2 na2 ca2, .int .i64 f1_c2_wind_lo, .int .i64 f1_c2_wind_hi, slv qa3 na3 ca3, slv qa4 na4 ca4] 29 (0, 0))]) (fun s l => []) () (trivial) ((.cons rfl (.cons rfl (.cons rfl (.cons rfl .nil))))) (fun w hh => hh) (fun s l r hpl hm h3 => ?_)
   unfold m_slices_IndexFunc_intint_5_L0 at hm
   refine g_seq ?_
   refine g_region ?_
   refine g_val rfl rfl rfl (fun _ _ => v_lss rfl rfl) ?_
   refine g_nil ?_
   refine g_n_then ?_
   refine g_seq ?_
   refine g_cond rfl (fun h4 => ?_) (fun h4 => ?_)
   ·replace hm := ifT (of_decide_eq_true h4) hm
    refine g_skip ?_
    refine g_n_then ?_
    refine g_seq ?_
    refine g_block ?_
    refine g_seq ?_
    refine g_region ?_
    refine g_val rfl rfl rfl (fun _ _ => v_move rfl) ?_
    refine g_val rfl rfl rfl (fun _ _ => v_assign rfl) ?_
    refine g_nil ?_
    refine g_n_then ?_
    refine g_seq ?_
    refine g_region ?_
    refine g_val rfl rfl rfl (fun _ _ => v_move rfl) ?_
    refine g_val rfl rfl rfl (fun _ _ => v_move rfl) ?_
    refine g_val rfl rfl rfl (fun _ _ => v_move rfl) ?_
    obtain ⟨t14, h5, hm⟩ := bindO hm
    refine g_val rfl rfl rfl (fun w _ => v_ixA h5 (Try.runUnderlying26 w) (Try.sizeOf3 w) rfl rfl hna0 hqa0) ?_
    refine g_val rfl rfl rfl (fun w hh => v_ldE RI 0 h5 (Try.isAgg3 w) rfl (hh.seg 0 rfl) rfl (Nat.add_zero _).symm) ?_
    obtain ⟨t16, h6, hm⟩ := bindO hm
    refine g_callH [_, _, _] [] rfl rfl rfl rfl rfl rfl rfl (fun a w => Try.call80 a w) (fun w hh => c_laurellaw01_TideParted_2 t14 f1_c0 f1_c1 f1_c2_table f1_c2_wind_lo f1_c2_wind_hi f1_c2_floors f1_c2_sills pb qa1 na1 ca1 ar1 pb_1 pb_2 (qA qa2) na2 ca2 (qA qa3) na3 ca3 (qA qa4) na4 ca4 w (HV.callee (S0 := [_, _, _]) (vs0 := []) hh (roC (hh.rsep (S0 := [_, _, _]) (vs0 := []) 1 rfl) (roC (sepA (hh.rsep (S0 := [_, _, _]) (vs0 := []) 2 rfl)) (roC (sepA (hh.rsep (S0 := [_, _, _]) (vs0 := []) 3 rfl)) (roC (sepA (hh.rsep (S0 := [_, _, _]) (vs0 := []) 4 rfl)) roN))))) hna1 hqa1 hla1 hda1 (hh.oldT (S0 := [_, _, _]) (vs0 := []) hTa1) hna2 (AOK.q hqa2) hla2 hna3 (AOK.q hqa3) hla3 hna4 (AOK.q hqa4) hla4 h6) (fun l_1 h7 => ?_)
    refine g_sel (S' := [_, _, _]) (vs' := []) [0, 1, 2] [] 0 (by decide) (by decide) rfl rfl rfl ?_
    refine g_nil ?_
    refine g_n_then ?_
    refine g_cond rfl (fun h8 => ?_) (fun h8 => ?_)
    ·replace hm := ifT (h8) hm
     refine g_seq ?_
     refine g_region ?_
     refine g_val rfl rfl rfl (fun _ _ => v_move rfl) ?_
     refine g_val rfl rfl rfl (fun _ _ => v_assign rfl) ?_
     refine g_nil ?_
     refine g_n_then ?_
     refine g_ret ?_
     refine g_r_blk ?_
     refine g_r_then ?_
     refine g_r_then ?_
     refine g_r_blk ?_
     obtain rfl := Option.some.inj hm
     have hbo := h3 _ rfl
     subst hbo
     refine g_r_then ?_
     replace hm := ocR h2
     refine g_r_then ?_
     obtain rfl := Option.some.inj hm
     refine g_done rfl (fun w hh => (.tmp rfl .nil)) (fun w hh => ⟨(), rfl, trivial, hh.sel [0, 1, 2] [] 5 (by decide) (by decide) rfl rfl rfl⟩)
    ·replace hm := ifF ((fun hh => Bool.noConfusion ((h8).symm.trans hh))) hm
     refine g_skip ?_
     refine g_n_blk ?_
     refine g_n_then ?_
     refine g_region ?_
     obtain ⟨t18, h9, hm⟩ := bindO hm
     refine g_val rfl rfl rfl (fun _ _ => v_addc h9 rfl rfl) ?_
     refine g_val rfl rfl rfl (fun _ _ => v_move rfl) ?_
     refine g_nil ?_
     obtain rfl := Option.some.inj hm
     refine g_n_then ?_
     exact g_again' _ () rfl (trivial) ((.cons rfl (.cons rfl (.cons rfl (.cons rfl .nil))))) (fun w hh => hh)
   ·replace hm := ifF (of_decide_eq_false h4) hm
    refine g_exit ?_
    refine g_x_then ?_
    refine g_x_then ?_
    refine g_x_blk ?_
    obtain rfl := Option.some.inj hm
    have hbo := h3 _ rfl
    subst hbo
    exact g_leaf () (rfl) (.nil) (fun w hh => hh)
  ·intro j hj
   have h10 := hj
   subst h10
   replace hm := ocL h2
   refine g_n_then ?_
   refine g_seq ?_
   refine g_region ?_
   refine g_val rfl rfl rfl (fun _ _ => v_assign rfl) ?_
   refine g_nil ?_
   refine g_n_then ?_
   refine g_ret ?_
   obtain rfl := Option.some.inj hm
   refine g_done rfl (fun w hh => (.tmp rfl .nil)) (fun w hh => ⟨(), rfl, trivial, hh.sel [0, 1, 2] [] 5 (by decide) (by decide) rfl rfl rfl⟩)
def m_slices_ContainsFunc_intint_5 (s0 : (List Int)) (f1_c0 : (List (List Int))) (f1_c1 : Int) (f1_c2_table : (List Water)) (f1_c2_wind_lo : Int) (f1_c2_wind_hi : Int) (f1_c2_floors : (List Int)) (f1_c2_sills : (List Sill)) : Option Bool :=
 (m_slices_IndexFunc_intint_5 s0 f1_c0 f1_c1 f1_c2_table f1_c2_wind_lo f1_c2_wind_hi f1_c2_floors f1_c2_sills).bind fun t7 =>
 some (decide (0 ≤ t7))
set_option maxRecDepth 100000 in
set_option maxHeartbeats 4000000 in
theorem c_slices_ContainsFunc_intint_5 (s0 : (List Int)) (f1_c0 : (List (List Int))) (f1_c1 : Int) (f1_c2_table : (List Water)) (f1_c2_wind_lo : Int) (f1_c2_wind_hi : Int) (f1_c2_floors : (List Int)) (f1_c2_sills : (List Sill)) (qa0 : Option (Nat × Nat)) (na0 ca0 : Nat) (pb : Nat) (qa1 : Option Addr) (na1 ca1 : Nat) (ar1 : List AL) (pb_1 : Nat) (pb_2 : Nat) (qa2 : Option (Nat × Nat)) (na2 ca2 : Nat) (qa3 : Option (Nat × Nat)) (na3 ca3 : Nat) (qa4 : Option (Nat × Nat)) (na4 ca4 : Nat) (w : World) (hw : HV w (keys [(pb, .cells #[.slice qa1 na1 ca1] 127 (0, 0)), (pb_1, .cells #[.int .i64 f1_c1] 3 (0, 0)), (pb_2, .cells #[slv qa2 na2 ca2, .int .i64 f1_c2_wind_lo, .int .i64 f1_c2_wind_hi, slv qa3 na3 ca3, slv qa4 na4 ca4] 29 (0, 0))] []) [(pb, .cells #[.slice qa1 na1 ca1] 127 (0, 0)), (pb_1, .cells #[.int .i64 f1_c1] 3 (0, 0)), (pb_2, .cells #[slv qa2 na2 ca2, .int .i64 f1_c2_wind_lo, .int .i64 f1_c2_wind_hi, slv qa3 na3 ca3, slv qa4 na4 ca4] 29 (0, 0))] [] [(bk qa0, off qa0, RI.enc s0), (aB qa1, aO qa1, RwA.enc ar1), (bk qa2, off qa2, RW.enc f1_c2_table), (bk qa3, off qa3, RI.enc f1_c2_floors), (bk qa4, off qa4, RS.enc f1_c2_sills)] w) (hna0 : s0.length = na0) (hqa0 : 0 < na0 → qa0 ≠ none) (hla0 : na0 ≤ ca0) (hna1 : f1_c0.length = na1) (hqa1 : AOK na1 qa1) (hla1 : na1 ≤ ca1) (hda1 : DRO f1_c0 ar1) (hTa1 : ∀ t, t ∈ rsg RI f1_c0 ar1 → segOK w t ∧ (t.2.2 ≠ [] → t.1 ∉ keys [(pb, .cells #[.slice qa1 na1 ca1] 127 (0, 0)), (pb_1, .cells #[.int .i64 f1_c1] 3 (0, 0)), (pb_2, .cells #[slv qa2 na2 ca2, .int .i64 f1_c2_wind_lo, .int .i64 f1_c2_wind_hi, slv qa3 na3 ca3, slv qa4 na4 ca4] 29 (0, 0))] [])) (hna2 : f1_c2_table.length = na2) (hqa2 : 0 < na2 → qa2 ≠ none) (hla2 : na2 ≤ ca2) (hna3 : f1_c2_floors.length = na3) (hqa3 : 0 < na3 → qa3 ≠ none) (hla3 : na3 ≤ ca3) (hna4 : f1_c2_sills.length = na4) (hqa4 : 0 < na4 → qa4 ≠ none) (hla4 : na4 ≤ ca4) {res : Bool} (hm : m_slices_ContainsFunc_intint_5 s0 f1_c0 f1_c1 f1_c2_table f1_c2_wind_lo f1_c2_wind_hi f1_c2_floors f1_c2_sills = some res) :
    Calls Try.prog 78 #[slv qa0 na0 ca0, .func (.func 80) #[] #[ptr pb 0, ptr pb_1 0, ptr pb_2 0]] w (fun en w' => ∃ l : Unit, en = .returned (.bool res) ∧ (True) ∧ HV w (keys [(pb, .cells #[.slice qa1 na1 ca1] 127 (0, 0)), (pb_1, .cells #[.int .i64 f1_c1] 3 (0, 0)), (pb_2, .cells #[slv qa2 na2 ca2, .int .i64 f1_c2_wind_lo, .int .i64 f1_c2_wind_hi, slv qa3 na3 ca3, slv qa4 na4 ca4] 29 (0, 0))] []) [(pb, .cells #[.slice qa1 na1 ca1] 127 (0, 0)), (pb_1, .cells #[.int .i64 f1_c1] 3 (0, 0)), (pb_2, .cells #[slv qa2 na2 ca2, .int .i64 f1_c2_wind_lo, .int .i64 f1_c2_wind_hi, slv qa3 na3 ca3, slv qa4 na4 ca4] 29 (0, 0))] [] [] w') := by
  unfold m_slices_ContainsFunc_intint_5 at hm
  refine g_enter (args := [slv qa0 na0 ca0, .func (.func 80) #[] #[ptr pb 0, ptr pb_1 0, ptr pb_2 0]]) Try.func78 rfl Try.ntmps78 rfl (e := [(0, _), (1, _)]) rfl (H := HV w (keys [(pb, .cells #[.slice qa1 na1 ca1] 127 (0, 0)), (pb_1, .cells #[.int .i64 f1_c1] 3 (0, 0)), (pb_2, .cells #[slv qa2 na2 ca2, .int .i64 f1_c2_wind_lo, .int .i64 f1_c2_wind_hi, slv qa3 na3 ca3, slv qa4 na4 ca4] 29 (0, 0))] []) [(pb, .cells #[.slice qa1 na1 ca1] 127 (0, 0)), (pb_1, .cells #[.int .i64 f1_c1] 3 (0, 0)), (pb_2, .cells #[slv qa2 na2 ca2, .int .i64 f1_c2_wind_lo, .int .i64 f1_c2_wind_hi, slv qa3 na3 ca3, slv qa4 na4 ca4] 29 (0, 0))] [] [(bk qa0, off qa0, RI.enc s0), (aB qa1, aO qa1, RwA.enc ar1), (bk qa2, off qa2, RW.enc f1_c2_table), (bk qa3, off qa3, RI.enc f1_c2_floors), (bk qa4, off qa4, RS.enc f1_c2_sills)]) hw ?_
  refine g_seq ?_
  refine g_region ?_
  refine g_val rfl rfl rfl (fun _ _ => v_assign rfl) ?_
  refine g_nil ?_
  refine g_n_then ?_
  refine g_seq ?_
  refine g_region ?_
  refine g_val rfl rfl rfl (fun _ _ => v_move rfl) ?_
  refine g_val rfl rfl rfl (fun _ _ => v_move rfl) ?_
  obtain ⟨t7, h1, hm⟩ := bindO hm
  refine g_callH [_, _, _] [] rfl rfl rfl rfl rfl rfl rfl (fun a w => Try.call143 a w) (fun w hh => c_slices_IndexFunc_intint_5 s0 f1_c0 f1_c1 f1_c2_table f1_c2_wind_lo f1_c2_wind_hi f1_c2_floors f1_c2_sills qa0 na0 ca0 pb qa1 na1 ca1 ar1 pb_1 pb_2 qa2 na2 ca2 qa3 na3 ca3 qa4 na4 ca4 w (HV.callee (S0 := [_, _, _]) (vs0 := []) hh (roC (hh.rsep (S0 := [_, _, _]) (vs0 := []) 0 rfl) (roC (hh.rsep (S0 := [_, _, _]) (vs0 := []) 1 rfl) (roC (hh.rsep (S0 := [_, _, _]) (vs0 := []) 2 rfl) (roC (hh.rsep (S0 := [_, _, _]) (vs0 := []) 3 rfl) (roC (hh.rsep (S0 := [_, _, _]) (vs0 := []) 4 rfl) roN)))))) hna0 hqa0 hla0 hna1 hqa1 hla1 hda1 (hh.oldT (S0 := [_, _, _]) (vs0 := []) hTa1) hna2 hqa2 hla2 hna3 hqa3 hla3 hna4 hqa4 hla4 h1) (fun l h2 => ?_)
  refine g_sel (S' := [_, _, _]) (vs' := []) [0, 1, 2] [] 0 (by decide) (by decide) rfl rfl rfl ?_
  refine g_val rfl rfl rfl (fun _ _ => v_geq rfl rfl) ?_
  refine g_val rfl rfl rfl (fun _ _ => v_assign rfl) ?_
  refine g_nil ?_
  refine g_n_then ?_
  refine g_ret ?_
  obtain rfl := Option.some.inj hm
  refine g_done rfl (fun w hh => (.tmp rfl .nil)) (fun w hh => ⟨(), rfl, trivial, hh.sel [0, 1, 2] [] 5 (by decide) (by decide) rfl rfl rfl⟩)
end Go.Proofs.Wk

namespace Go.Proofs.Wk
open Go Go.Fw Go.Gx Go.Pl
set_option linter.unusedVariables false
structure m_laurellaw01_TideParted_C0 where
  soonest10 : Int
  some9 : (List Int)
  floods11 : (List Int)
  states12 : (List (List Int))
structure m_laurellaw01_TideParted_S0 where
  soonest10 : Int
  t62 : Int
  some9 : (List Int)
  floods11 : (List Int)
  states12 : (List (List Int))
structure m_laurellaw01_TideParted_C1 where
  soonest10 : Int
  some9 : (List Int)
  floods11 : (List Int)
  states12 : (List (List Int))
structure m_laurellaw01_TideParted_C3 where
  many14 : Int
  states12 : (List (List Int))
structure m_laurellaw01_TideParted_S1 where
  many14 : Int
  t86 : Int
  states12 : (List (List Int))
structure m_laurellaw01_TideParted_C4 where
  many14 : Int
  states12 : (List (List Int))
structure m_laurellaw01_TideParted_S2 where
  many14 : Int
  t101 : Int
  states12 : (List (List Int))
structure m_laurellaw01_TideParted_C6 where
  many14 : Int
  states12 : (List (List Int))
structure m_laurellaw01_TideParted_S3 where
  many14 : Int
  at21 : Int
  states12 : (List (List Int))
def m_laurellaw01_TideParted_L3 (t104 : Span) (s : m_laurellaw01_TideParted_S0) (t39 : m_laurellaw01_Made_R) (t88 : Int) (s_3 : m_laurellaw01_TideParted_S3) : Option (m_laurellaw01_TideParted_S3 ⊕ m_laurellaw01_TideParted_C6) :=
 if s_3.at21 ≤ t104.hi then
 ((ix s_3.states12 s.t62).bind fun t151 =>
 (m_laurellaw01_first t39.r0).bind fun t155 =>
 (subc s_3.at21 t155).bind fun t156 =>
 (ix t151 t156).bind fun t158 =>
 (some (t151.set (Int.toNat t156) t88)).bind fun row =>
 (some (s_3.states12.set (Int.toNat s.t62) row)).bind fun states12_1 =>
 (addc s_3.many14 1).bind fun t160 =>
 (addc s_3.at21 1).bind fun t148 =>
 some (.inl (⟨t160, t148, states12_1⟩ : m_laurellaw01_TideParted_S3))) else
 (some (.inr (⟨s_3.many14, s_3.states12⟩ : m_laurellaw01_TideParted_C6)))
def m_laurellaw01_TideParted_L2 (t94 : ((List Span) × Int)) (t39 : m_laurellaw01_Made_R) (s : m_laurellaw01_TideParted_S0) (t88 : Int) (s_2 : m_laurellaw01_TideParted_S2) : Option (m_laurellaw01_TideParted_S2 ⊕ (m_laurellaw01_TideParted_C4 ⊕ Bool)) :=
 if s_2.t101 < (t94.1.length : Int) then
 ((ix t94.1 s_2.t101).bind fun t104 =>
 ((m_laurellaw01_first t39.r0).bind fun t109 =>
 if t104.lo < t109 then
 (some true) else
 ((m_laurellaw01_last t39.r0).bind fun t115 =>
 if t115 < t104.hi then
 (some true) else
 (if t104.hi < t104.lo then
 (some true) else
 (if 0 < s_2.t101 then
 ((subc s_2.t101 1).bind fun t133 =>
 (ix t94.1 t133).bind fun t134 =>
 (addc t134.hi 1).bind fun t137 =>
 some (decide (t104.lo ≤ t137))) else
 (some false))))).bind fun o_5 =>
 if o_5 = true then
 (some (.inr (.inr false))) else
 ((iterM FU (m_laurellaw01_TideParted_L3 t104 s t39 t88) (⟨s_2.many14, t104.lo, s_2.states12⟩ : m_laurellaw01_TideParted_S3)).bind fun o_6 =>
 (addc s_2.t101 1).bind fun t161 =>
 some (.inl (⟨o_6.many14, t161, o_6.states12⟩ : m_laurellaw01_TideParted_S2)))) else
 (some (.inr (.inl (⟨s_2.many14, s_2.states12⟩ : m_laurellaw01_TideParted_C4))))
def m_laurellaw01_TideParted_L1 (t39 : m_laurellaw01_Made_R) (s : m_laurellaw01_TideParted_S0) (s_1 : m_laurellaw01_TideParted_S1) : Option (m_laurellaw01_TideParted_S1 ⊕ (m_laurellaw01_TideParted_C3 ⊕ Bool)) :=
 if s_1.t86 < ([0, 1, 2].length : Int) then
 ((ix [0, 1, 2] s_1.t86).bind fun t88 =>
 (x_Spans t39.r0 s.t62 t88).bind fun t94 =>
 if t94.2 = 0 then
 ((iterM FU (m_laurellaw01_TideParted_L2 t94 t39 s t88) (⟨s_1.many14, 0, s_1.states12⟩ : m_laurellaw01_TideParted_S2)).bind fun o_4 =>
 oc o_4 (fun j_3 => (addc s_1.t86 1).bind fun t162 =>
 some (.inl (⟨j_3.many14, t162, j_3.states12⟩ : m_laurellaw01_TideParted_S1))) (fun r_4 => some (.inr (.inr r_4)))) else
 (some (.inr (.inr false)))) else
 (some (.inr (.inl (⟨s_1.many14, s_1.states12⟩ : m_laurellaw01_TideParted_C3))))
def m_laurellaw01_TideParted_L4 (t172 : (List Int)) (t39 : m_laurellaw01_Made_R) (s : m_laurellaw01_TideParted_S0) (s_4 : Int) : Option (Int ⊕ (Unit ⊕ Bool)) :=
 if s_4 < (t172.length : Int) then
 ((ix t172 s_4).bind fun t178 =>
 (m_laurellaw01_first t39.r0).bind fun t183 =>
 (addc t183 s_4).bind fun t185 =>
 (x_At t39.r0 t185 s.t62).bind fun t187 =>
 (if t187.2 = 0 then
 (some (!decide (t187.1 = t178))) else
 (some true)).bind fun o_8 =>
 if o_8 = true then
 (some (.inr (.inr false))) else
 ((addc s_4 1).bind fun t197 =>
 some (.inl t197))) else
 (some (.inr (.inl ())))
def m_laurellaw01_TideParted_L5 (t202 : (Int × Int)) (j_2 : m_laurellaw01_TideParted_C3) (s : m_laurellaw01_TideParted_S0) (t39 : m_laurellaw01_Made_R) (s_5 : Int) : Option (Int ⊕ (Unit ⊕ Bool)) :=
 if s_5 ≤ t202.1 then
 ((ix j_2.states12 s.t62).bind fun t259 =>
 (m_laurellaw01_first t39.r0).bind fun t263 =>
 (subc s_5 t263).bind fun t264 =>
 (ix t259 t264).bind fun t265 =>
 if t265 = 0 then
 ((addc s_5 1).bind fun t256 =>
 some (.inl t256)) else
 (some (.inr (.inr false)))) else
 (some (.inr (.inl ())))
structure m_laurellaw01_TideParted_C11 where
  soonest10 : Int
  floods11 : (List Int)
def m_laurellaw01_TideParted_L0 (t39 : m_laurellaw01_Made_R) (which2 : Int) (t51 : Int) (s : m_laurellaw01_TideParted_S0) : Option (m_laurellaw01_TideParted_S0 ⊕ (m_laurellaw01_TideParted_C0 ⊕ Bool)) :=
 if s.t62 < (t39.r0.floors.length : Int) then
 (((if (0 : Int) ≤ s.t62 then (if (IntKind.u8.wrap (BitVec.ofInt IntKind.u8.bits (Int.fdiv which2 (2 ^ min (Int.toNat s.t62) IntKind.u8.bits)) &&& BitVec.ofInt IntKind.u8.bits 1).toNat) = 1 then
 ((appc 8 s.some9 [s.t62]).bind fun t73 =>
 some t73) else
 (some s.some9)) else none).bind fun o_2 =>
 (m_laurellaw01_last t39.r0).bind fun t77 =>
 (m_laurellaw01_first t39.r0).bind fun t79 =>
 (subc t77 t79).bind fun t80 =>
 (addc t80 1).bind fun t81 =>
 (makec 8 0 t81 t81).bind fun t82 =>
 (ix s.states12 s.t62).bind fun t83 =>
 (some (s.states12.set (Int.toNat s.t62) t82)).bind fun states12 =>
 (iterM FU (m_laurellaw01_TideParted_L1 t39 s) (⟨0, 0, states12⟩ : m_laurellaw01_TideParted_S1)).bind fun o_3 =>
 oc o_3 (fun j_2 => (ix j_2.states12 s.t62).bind fun t166 =>
 if j_2.many14 = (t166.length : Int) then
 ((ix j_2.states12 s.t62).bind fun t172 =>
 (iterM FU (m_laurellaw01_TideParted_L4 t172 t39 s) 0).bind fun o_7 =>
 oc o_7 (fun j_4 => (x_Turn t39.r0 s.t62 t51).bind fun t202 =>
 (ix j_2.states12 s.t62).bind fun t207 =>
 (m_laurellaw01_first t39.r0).bind fun t211 =>
 (subc t51 t211).bind fun t212 =>
 (ix t207 t212).bind fun t213 =>
 if t213 = 0 then
 ((if t202.2 = 0 then
 (if t202.1 < t51 then
 (some true) else
 ((m_laurellaw01_last t39.r0).bind fun t228 =>
 if t228 < t202.1 then
 (some true) else
 ((m_laurellaw01_last t39.r0).bind fun t234 =>
 if t202.1 < t234 then
 ((ix j_2.states12 s.t62).bind fun t239 =>
 (addc t202.1 1).bind fun t242 =>
 (m_laurellaw01_first t39.r0).bind fun t244 =>
 (subc t242 t244).bind fun t245 =>
 (ix t239 t245).bind fun t246 =>
 some (decide (t246 = 0))) else
 (some false)))) else
 (some true)).bind fun o_9 =>
 if o_9 = true then
 (some (.inr false)) else
 ((iterM FU (m_laurellaw01_TideParted_L5 t202 j_2 s t39) t51).bind fun o_10 =>
 oc o_10 (fun j_5 => ((addc t202.1 1).bind fun t269 =>
 if t269 < s.soonest10 then
 ((addc t202.1 1).bind fun t273 =>
 some (⟨t273, []⟩ : m_laurellaw01_TideParted_C11)) else
 (some (⟨s.soonest10, s.floods11⟩ : m_laurellaw01_TideParted_C11))).bind fun o_11 =>
 ((addc t202.1 1).bind fun t275 =>
 if t275 = o_11.soonest10 then
 ((m_laurellaw01_last t39.r0).bind fun t281 =>
 some (decide (t202.1 < t281))) else
 (some false)).bind fun o_12 =>
 if o_12 = true then
 ((appc 8 o_11.floods11 [s.t62]).bind fun t287 =>
 some (.inl (⟨o_11.soonest10, o_2, t287, j_2.states12⟩ : m_laurellaw01_TideParted_C1))) else
 (some (.inl (⟨o_11.soonest10, o_2, o_11.floods11, j_2.states12⟩ : m_laurellaw01_TideParted_C1)))) (fun r_7 => some (.inr r_7)))) else
 (if t202.2 = 6 then
 (some (.inl (⟨s.soonest10, o_2, s.floods11, j_2.states12⟩ : m_laurellaw01_TideParted_C1))) else
 (some (.inr false)))) (fun r_8 => some (.inr r_8))) else
 (some (.inr false))) (fun r_9 => some (.inr r_9))).bind fun o_1 =>
 oc o_1 (fun j_6 => (addc s.t62 1).bind fun t288 =>
 some (.inl (⟨j_6.soonest10, t288, j_6.some9, j_6.floods11, j_6.states12⟩ : m_laurellaw01_TideParted_S0))) (fun r_10 => some (.inr (.inr r_10)))) else
 (some (.inr (.inl (⟨s.soonest10, s.some9, s.floods11, s.states12⟩ : m_laurellaw01_TideParted_C0))))
structure m_laurellaw01_TideParted_S6 where
  long33 : Int
  now34 : Int
  t337 : Int
def m_laurellaw01_TideParted_L6 (t336 : Int) (j_7 : m_laurellaw01_TideParted_C0) (s_6 : m_laurellaw01_TideParted_S6) : Option (m_laurellaw01_TideParted_S6 ⊕ Int) :=
 if s_6.t337 < t336 then
 (((addc s_6.now34 1).bind fun t341 =>
 (m_slices_ContainsFunc_intint_4 j_7.some9 j_7.states12 s_6.t337).bind fun t344 =>
 if t344 = true then
 (some 0) else
 (some t341)).bind fun o_15 =>
 (addc s_6.t337 1).bind fun t348 =>
 some (.inl (⟨(max s_6.long33 o_15), o_15, t348⟩ : m_laurellaw01_TideParted_S6))) else
 (some (.inr s_6.long33))
def m_laurellaw01_TideParted_L7 (t328 : m_tide_Longest_1_R) (j_7 : m_laurellaw01_TideParted_C0) (t39 : m_laurellaw01_Made_R) (s_7 : Int) : Option (Int ⊕ (Unit ⊕ Bool)) :=
 if s_7 ≤ t328.r0.hi then
 ((m_slices_ContainsFunc_intint_5 j_7.some9 j_7.states12 s_7 t39.r0.table t39.r0.wind.lo t39.r0.wind.hi t39.r0.floors t39.r0.sills).bind fun t392 =>
 if t392 = true then
 (some (.inr (.inr false))) else
 ((addc s_7 1).bind fun t389 =>
 some (.inl t389))) else
 (some (.inr (.inl ())))
def m_laurellaw01_TideParted (numbers0 : (List Int)) (when1 : Int) (which2 : Int) : Option Bool :=
 (m_laurelkit_Pile numbers0).bind fun t38 =>
 (m_laurellaw01_Made numbers0 t38.t5_1 t38.t5_2 6 9).bind fun t39 =>
 (m_laurellaw01_first t39.r0).bind fun t41 =>
 (m_laurellaw01_last t39.r0).bind fun t45 =>
 (m_laurellaw01_first t39.r0).bind fun t47 =>
 (subc t45 t47).bind fun t48 =>
 (addc t48 1).bind fun t49 =>
 (remc (IntKind.i64.wrap when1) t49).bind fun t50 =>
 (addc t41 t50).bind fun t51 =>
 (m_laurellaw01_last t39.r0).bind fun t53 =>
 (addc t53 1).bind fun t54 =>
 (makec 24 ([] : (List Int)) (t39.r0.floors.length : Int) (t39.r0.floors.length : Int)).bind fun t58 =>
 (iterM FU (m_laurellaw01_TideParted_L0 t39 which2 t51) (⟨t54, 0, [], [], t58⟩ : m_laurellaw01_TideParted_S0)).bind fun o =>
 oc o (fun j_7 => (m_tide_Flood_1 t39.r0 t51).bind fun t292 =>
 (if (!((decide (t292.r2 = 0)) == (decide (0 < (j_7.floods11.length : Int))))) = true then
 (some true) else
 (if t292.r2 = 0 then
 (if t292.r0 = j_7.soonest10 then
 ((m_laurelkit_Eq_int t292.r1 j_7.floods11).bind fun t312 =>
 if (!t312) = true then
 (some true) else
 (if t292.r2 = 0 then
 (some false) else
 (some (!decide (t292.r2 = 6))))) else
 (some true)) else
 (if t292.r2 = 0 then
 (some false) else
 (some (!decide (t292.r2 = 6)))))).bind fun o_13 =>
 if o_13 = true then
 (some false) else
 ((m_tide_Longest_1 t39.r0 j_7.some9).bind fun t328 =>
 (m_laurellaw01_last t39.r0).bind fun t332 =>
 (m_laurellaw01_first t39.r0).bind fun t334 =>
 (subc t332 t334).bind fun t335 =>
 (addc t335 1).bind fun t336 =>
 (iterM FU (m_laurellaw01_TideParted_L6 t336 j_7) (⟨0, 0, 0⟩ : m_laurellaw01_TideParted_S6)).bind fun o_14 =>
 if o_14 = 0 then
 ((if t328.r1 = 6 then
 ((x_awake).bind fun t354 =>
 some t354) else
 (some false)).bind fun o_16 =>
 some o_16) else
 ((if t328.r1 = 0 then
 ((subc t328.r0.hi t328.r0.lo).bind fun t363 =>
 (addc t363 1).bind fun t364 =>
 if t364 = o_14 then
 ((m_laurellaw01_first t39.r0).bind fun t372 =>
 if t328.r0.lo < t372 then
 (some true) else
 ((m_laurellaw01_last t39.r0).bind fun t379 =>
 some (decide (t379 < t328.r0.hi)))) else
 (some true)) else
 (some true)).bind fun o_17 =>
 if o_17 = true then
 (some false) else
 ((iterM FU (m_laurellaw01_TideParted_L7 t328 j_7 t39) t328.r0.lo).bind fun o_18 =>
 oc o_18 (fun j_8 => (x_awake).bind fun t394 =>
 some t394) (fun r_13 => some r_13))))) (fun r_14 => some r_14)
set_option maxRecDepth 100000 in
set_option maxHeartbeats 4000000 in
theorem c_laurellaw01_TideParted (numbers0 : (List Int)) (when1 : Int) (which2 : Int) (qa0 : Option Addr) (na0 ca0 : Nat) (w : World) (hw : HV w (keys [] []) [] [] [(aB qa0, aO qa0, RU8.enc numbers0)] w) (hna0 : numbers0.length = na0) (hqa0 : AOK na0 qa0) (hla0 : na0 ≤ ca0) {res : Bool} (hm : m_laurellaw01_TideParted numbers0 when1 which2 = some res) :
    Calls Try.prog 16 #[.slice qa0 na0 ca0, .int .u8 when1, .int .u8 which2] w (fun en w' => ∃ l : Unit, en = .returned (.bool res) ∧ (True) ∧ HV w (keys [] []) [] [] [] w') := by
  unfold m_laurellaw01_TideParted at hm
  refine g_enter (args := [.slice qa0 na0 ca0, .int .u8 when1, .int .u8 which2]) Try.func16 rfl Try.ntmps16 rfl (e := [(0, _), (1, _), (2, _)]) rfl (H := HV w (keys [] []) [] [] [(aB qa0, aO qa0, RU8.enc numbers0)]) hw ?_
  refine g_seq ?_
  refine g_region ?_
  refine g_val rfl rfl rfl (fun _ _ => v_assign rfl) ?_
  refine g_nil ?_
  refine g_n_then ?_
  refine g_seq ?_
  refine g_region ?_
  refine g_val rfl rfl rfl (fun _ _ => v_move rfl) ?_
  obtain ⟨t38, h1, hm⟩ := bindO hm
  refine g_callH [] [] rfl rfl rfl rfl rfl rfl rfl (fun a w => Try.call19 a w) (fun w hh => c_laurelkit_Pile numbers0 qa0 na0 ca0 w (HV.callee (S0 := []) (vs0 := []) hh (roC (hh.rsep (S0 := []) (vs0 := []) 0 rfl) roN)) hna0 hqa0 hla0 h1) (fun l h2 => ?_)
  refine g_sel (S' := [_]) (vs' := []) [0] [] 0 (by decide) (by decide) rfl rfl rfl ?_
  obtain ⟨t39, h3, hm⟩ := bindO hm
  refine g_callH [_] [] rfl rfl rfl rfl rfl rfl rfl (fun a w => Try.call18 a w) (fun w hh => c_laurellaw01_Made numbers0 t38.t5_1 t38.t5_2 6 9 l qa0 na0 ca0 w (HV.callee (S0 := [_]) (vs0 := []) hh (roC (hh.rsep (S0 := [_]) (vs0 := []) 0 rfl) roN)) hna0 hqa0 hla0 h3) (fun l_1 h4 => ?_)
  obtain ⟨h5, h6, h7⟩ := h4
  refine g_sel (S' := [_]) (vs' := [_, _, _]) [0] [0, 1, 2] 0 (by decide) (by decide) rfl rfl rfl ?_
  refine g_allocV (fun w => Try.zeroValue29 w) rfl (fun b h8 => ?_)
  refine g_stSA (us := #[_, _, _, _, _]) (cs' := [_, _, _, _, _]) (S' := [_, _]) 0 (fun w => Try.sizeOf29 w) rfl rfl rfl rfl rfl rfl rfl ?_
  refine g_nil ?_
  refine g_n_then ?_
  refine g_seq ?_
  refine g_draw none (.hoist 0 (.free 2 (.free 3 (.hoist 4 (.hoist 6 (.one 1 (.one 5 (.one 7 (.free 8 (.free 9 (.free 10 (.free 11 (.free 12 .done))))))))))))) _ rfl (by decide +kernel) (fun w k hh => hh.draw k) (fun w hh => hh) ?_
  refine p_hoist rfl rfl rfl rfl (fun w hh => v_loadAgg (vs := [_, _, _, _, _]) (Try.isAgg29 w) (Try.sizeOf29 w) rfl (hh.cells 0 rfl rfl)) ?_
  refine p_free rfl rfl rfl rfl (fun _ _ => v_move rfl) ?_
  refine p_free rfl rfl rfl rfl (fun w _ => v_conv (Try.runUnderlying5 w) (Try.runUnderlying3 w) rfl) ?_
  refine p_hoist rfl rfl rfl rfl (fun w hh => v_loadAgg (vs := [_, _, _, _, _]) (Try.isAgg29 w) (Try.sizeOf29 w) rfl (hh.cells 0 rfl rfl)) ?_
  refine p_hoist rfl rfl rfl rfl (fun w hh => v_loadAgg (vs := [_, _, _, _, _]) (Try.isAgg29 w) (Try.sizeOf29 w) rfl (hh.cells 0 rfl rfl)) ?_
  refine p_one rfl ?_
  obtain ⟨t41, h9, hm⟩ := bindO hm
  refine g_callH [] [] rfl rfl rfl rfl rfl rfl rfl (fun a w => Try.call26 a w) (fun w hh => c_laurellaw01_first t39.r0 (qA l_1.1.q) l_1.1.n l_1.1.cap (qA l_1.2.1.q) l_1.2.1.n l_1.2.1.cap (qA l_1.2.2.q) l_1.2.2.n l_1.2.2.cap w (HV.callee (S0 := []) (vs0 := []) hh (roC (hh.vsepA (S0 := []) (vs0 := []) 0 rfl h5) (roC (hh.vsepA (S0 := []) (vs0 := []) 1 rfl h6) (roC (hh.vsepA (S0 := []) (vs0 := []) 2 rfl h7) roN)))) (vlen RW h5 rfl) (AOK.q (vne h5)) (h5).hle (vlen RI h6 rfl) (AOK.q (vne h6)) (h6).hle (vlen RS h7 rfl) (AOK.q (vne h7)) (h7).hle h9) (fun l_2 h10 => ?_)
  refine p_next (fun w hh => hh) ?_
  refine p_one rfl ?_
  obtain ⟨t45, h11, hm⟩ := bindO hm
  refine g_callH [] [] rfl rfl rfl rfl rfl rfl rfl (fun a w => Try.call27 a w) (fun w hh => c_laurellaw01_last t39.r0 (qA l_1.1.q) l_1.1.n l_1.1.cap (qA l_1.2.1.q) l_1.2.1.n l_1.2.1.cap (qA l_1.2.2.q) l_1.2.2.n l_1.2.2.cap w (HV.callee (S0 := []) (vs0 := []) hh (roC (hh.vsepA (S0 := []) (vs0 := []) 0 rfl h5) (roC (hh.vsepA (S0 := []) (vs0 := []) 1 rfl h6) (roC (hh.vsepA (S0 := []) (vs0 := []) 2 rfl h7) roN)))) (vlen RW h5 rfl) (AOK.q (vne h5)) (h5).hle (vlen RI h6 rfl) (AOK.q (vne h6)) (h6).hle (vlen RS h7 rfl) (AOK.q (vne h7)) (h7).hle h11) (fun l_3 h12 => ?_)
  refine p_next (fun w hh => hh) ?_
  refine p_one rfl ?_
  obtain ⟨t47, h13, hm⟩ := bindO hm
  refine g_callH [] [] rfl rfl rfl rfl rfl rfl rfl (fun a w => Try.call26 a w) (fun w hh => c_laurellaw01_first t39.r0 (qA l_1.1.q) l_1.1.n l_1.1.cap (qA l_1.2.1.q) l_1.2.1.n l_1.2.1.cap (qA l_1.2.2.q) l_1.2.2.n l_1.2.2.cap w (HV.callee (S0 := []) (vs0 := []) hh (roC (hh.vsepA (S0 := []) (vs0 := []) 0 rfl h5) (roC (hh.vsepA (S0 := []) (vs0 := []) 1 rfl h6) (roC (hh.vsepA (S0 := []) (vs0 := []) 2 rfl h7) roN)))) (vlen RW h5 rfl) (AOK.q (vne h5)) (h5).hle (vlen RI h6 rfl) (AOK.q (vne h6)) (h6).hle (vlen RS h7 rfl) (AOK.q (vne h7)) (h7).hle h13) (fun l_4 h14 => ?_)
  refine p_next (fun w hh => hh) ?_
  obtain ⟨t48, h15, hm⟩ := bindO hm
  refine p_free rfl rfl rfl rfl (fun _ _ => v_subc h15 rfl rfl) ?_
  obtain ⟨t49, h16, hm⟩ := bindO hm
  refine p_free rfl rfl rfl rfl (fun _ _ => v_addc h16 rfl rfl) ?_
  obtain ⟨t50, h17, hm⟩ := bindO hm
  refine p_free rfl rfl rfl rfl (fun _ _ => v_remc h17 rfl rfl) ?_
  obtain ⟨t51, h18, hm⟩ := bindO hm
  refine p_free rfl rfl rfl rfl (fun _ _ => v_addc h18 rfl rfl) ?_
  refine p_free rfl rfl rfl rfl (fun _ _ => v_assign rfl) ?_
  refine p_done ?_
  refine g_n_then ?_
  refine g_seq ?_
  refine g_region ?_
  refine g_val rfl rfl rfl (fun _ _ => v_nilS rfl) ?_
  refine g_nil ?_
  refine g_n_then ?_
  refine g_seq ?_
  refine g_region ?_
  refine g_val rfl rfl rfl (fun w hh => v_loadAgg (vs := [_, _, _, _, _]) (Try.isAgg29 w) (Try.sizeOf29 w) rfl (hh.cells 0 rfl rfl)) ?_
  obtain ⟨t53, h19, hm⟩ := bindO hm
  refine g_callH [] [] rfl rfl rfl rfl rfl rfl rfl (fun a w => Try.call27 a w) (fun w hh => c_laurellaw01_last t39.r0 (qA l_1.1.q) l_1.1.n l_1.1.cap (qA l_1.2.1.q) l_1.2.1.n l_1.2.1.cap (qA l_1.2.2.q) l_1.2.2.n l_1.2.2.cap w (HV.callee (S0 := []) (vs0 := []) hh (roC (hh.vsepA (S0 := []) (vs0 := []) 0 rfl h5) (roC (hh.vsepA (S0 := []) (vs0 := []) 1 rfl h6) (roC (hh.vsepA (S0 := []) (vs0 := []) 2 rfl h7) roN)))) (vlen RW h5 rfl) (AOK.q (vne h5)) (h5).hle (vlen RI h6 rfl) (AOK.q (vne h6)) (h6).hle (vlen RS h7 rfl) (AOK.q (vne h7)) (h7).hle h19) (fun l_5 h20 => ?_)
  obtain ⟨t54, h21, hm⟩ := bindO hm
  refine g_val rfl rfl rfl (fun _ _ => v_addc h21 rfl rfl) ?_
  refine g_val rfl rfl rfl (fun _ _ => v_assign rfl) ?_
  refine g_val rfl rfl rfl (fun _ _ => v_nilS rfl) ?_
  refine g_nil ?_
  refine g_n_then ?_
  refine g_seq ?_
  refine g_region ?_
  refine g_val rfl rfl rfl (fun w _ => v_fieldAddr 3 (Try.runUnderlying29 w) rfl (Try.sizeOf26 w) rfl) ?_
  refine g_val rfl rfl rfl (fun w hh => v_load (Try.isAgg26 w) rfl (hh.cell 0 rfl rfl)) ?_
  refine g_val rfl rfl rfl (fun w _ => v_lenN (vlen RI h6 rfl) (Try.runUnderlying26 w) rfl) ?_
  obtain ⟨t58, h22, hm⟩ := bindO hm
  refine g_vmake RwH vl0 (makecL vl0 h22) Try.underlying127 gxinf43 rfl rfl rfl rfl rfl (fun L h23 => ?_)
  refine g_drep (E2 := 46) RI (Int.toNat (t39.r0.floors.length : Int)) (makecO h22).1.symm (fun h24 => ?_)
  refine g_allocV (fun w => Try.zeroValue127 w) rfl (fun b_1 h25 => ?_)
  refine g_stS (cs' := #[_]) (S' := [_, _, _]) 0 (fun w => Try.sizeOf127 w) rfl rfl rfl rfl rfl rfl rfl ?_
  refine g_nil ?_
  refine g_n_then ?_
  refine g_seq ?_
  refine g_seq ?_
  refine g_region ?_
  refine g_val rfl rfl rfl (fun w _ => v_fieldAddr 3 (Try.runUnderlying29 w) rfl (Try.sizeOf26 w) rfl) ?_
  refine g_val rfl rfl rfl (fun w hh => v_load (Try.isAgg26 w) rfl (hh.cell 1 rfl rfl)) ?_
  refine g_val rfl rfl rfl (fun w _ => v_lenN (vlen RI h6 rfl) (Try.runUnderlying26 w) rfl) ?_
  refine g_val rfl rfl rfl (fun _ _ => v_move rfl) ?_
  refine g_nil ?_
  refine g_n_then ?_
  refine g_vnil 3 ?_
  refine g_vnil 3 ?_
  obtain ⟨o, h26, h27⟩ := bindO hm
  refine g_cut (ι := m_laurellaw01_TideParted_C0 × VL × VL × DL) (fun j => o = .inl j.1 ∧ VOK 1 j.2.1.n j.2.1.cap (RI.enc j.1.some9) j.2.1.sp j.2.1.q ∧ VOK 1 j.2.2.1.n j.2.2.1.cap (RI.enc j.1.floods11) j.2.2.1.sp j.2.2.1.q ∧ VOK 1 j.2.2.2.v.n j.2.2.2.v.cap (RwH.enc j.2.2.2.rs) j.2.2.2.v.sp j.2.2.2.v.q ∧ DOK RI j.1.states12 j.2.2.2.rs) (fun j => [(7, ptr b 0), (8, .int .i64 t51), (9, slv j.2.1.q j.2.1.n j.2.1.cap), (10, .int .i64 j.1.soonest10), (11, slv j.2.2.1.q j.2.2.1.n j.2.2.1.cap), (12, ptr b_1 0)]) (fun j => [(b_1, .cells #[slv j.2.2.2.v.q j.2.2.2.v.n j.2.2.2.v.cap] 127 (0, 0)), (b, .cells #[slv l_1.1.q l_1.1.n l_1.1.cap, .int .i64 t39.r0.wind.lo, .int .i64 t39.r0.wind.hi, slv l_1.2.1.q l_1.2.1.n l_1.2.1.cap, slv l_1.2.2.q l_1.2.2.n l_1.2.2.cap] 29 (0, 0)), (l, .cells #[.slice qa0 na0 ca0, .int .i64 t39.b0_1, .int .u32 t39.b0_2] 138 (0, 0))]) (fun j => [⟨3, RI.enc j.1.some9, j.2.1.sp, j.2.1.q, []⟩, ⟨3, RI.enc j.1.floods11, j.2.2.1.sp, j.2.2.1.q, []⟩, ⟨43, RwH.enc j.2.2.2.rs, j.2.2.2.v.sp, j.2.2.2.v.q, dbl 46 RI j.1.states12 j.2.2.2.rs⟩, ⟨68, RW.enc t39.r0.table, l_1.1.sp, l_1.1.q, []⟩, ⟨3, RI.enc t39.r0.floors, l_1.2.1.sp, l_1.2.1.q, []⟩, ⟨51, RS.enc t39.r0.sills, l_1.2.2.sp, l_1.2.2.q, []⟩]) ?_ ?_
  ·replace hm := h26
   refine g_block ?_
   refine g_loopF (ι := VL × VL × DL) hm (fun s l_6 => VOK 1 l_6.1.n l_6.1.cap (RI.enc s.some9) l_6.1.sp l_6.1.q ∧ VOK 1 l_6.2.1.n l_6.2.1.cap (RI.enc s.floods11) l_6.2.1.sp l_6.2.1.q ∧ VOK 1 l_6.2.2.v.n l_6.2.2.v.cap (RwH.enc l_6.2.2.rs) l_6.2.2.v.sp l_6.2.2.v.q ∧ DOK RI s.states12 l_6.2.2.rs) (fun s l_6 => [(2, .int .u8 which2), (7, ptr b 0), (8, .int .i64 t51), (9, slv l_6.1.q l_6.1.n l_6.1.cap), (10, .int .i64 s.soonest10), (11, slv l_6.2.1.q l_6.2.1.n l_6.2.1.cap), (12, ptr b_1 0), (61, .int .i64 (t39.r0.floors.length : Int)), (62, .int .i64 s.t62)]) (fun s l_6 => [(b_1, .cells #[slv l_6.2.2.v.q l_6.2.2.v.n l_6.2.2.v.cap] 127 (0, 0)), (b, .cells #[slv l_1.1.q l_1.1.n l_1.1.cap, .int .i64 t39.r0.wind.lo, .int .i64 t39.r0.wind.hi, slv l_1.2.1.q l_1.2.1.n l_1.2.1.cap, slv l_1.2.2.q l_1.2.2.n l_1.2.2.cap] 29 (0, 0)), (l, .cells #[.slice qa0 na0 ca0, .int .i64 t39.b0_1, .int .u32 t39.b0_2] 138 (0, 0))]) (fun s l_6 => [⟨3, RI.enc s.some9, l_6.1.sp, l_6.1.q, []⟩, ⟨3, RI.enc s.floods11, l_6.2.1.sp, l_6.2.1.q, []⟩, ⟨43, RwH.enc l_6.2.2.rs, l_6.2.2.v.sp, l_6.2.2.v.q, dbl 46 RI s.states12 l_6.2.2.rs⟩, ⟨68, RW.enc t39.r0.table, l_1.1.sp, l_1.1.q, []⟩, ⟨3, RI.enc t39.r0.floors, l_1.2.1.sp, l_1.2.1.q, []⟩, ⟨51, RS.enc t39.r0.sills, l_1.2.2.sp, l_1.2.2.q, []⟩]) (⟨none, 0, 0, []⟩, ⟨none, 0, 0, []⟩, ⟨⟨L.q, L.n, L.cap, L.sp⟩, (List.replicate (Int.toNat (t39.r0.floors.length : Int)) vl0)⟩) (⟨VOK.nil, VOK.nil, h23, h24⟩) ((.cons rfl (.cons rfl (.cons rfl (.cons rfl (.cons rfl (.cons rfl (.cons rfl (.cons rfl (.cons rfl .nil)))))))))) (fun w hh => hh.sel [0, 1, 2] [1, 0, 2, 3, 4, 5] 0 (by decide) (by decide) rfl rfl rfl) (fun s l_6 r hpl hm h36 => ?_)
   obtain ⟨h32, h33, h34, h35⟩ := hpl
   unfold m_laurellaw01_TideParted_L0 at hm
   refine g_seq ?_
   refine g_region ?_
   refine g_val rfl rfl rfl (fun _ _ => v_lss rfl rfl) ?_
   refine g_nil ?_
   refine g_n_then ?_
   refine g_seq ?_
   refine g_cond rfl (fun h37 => ?_) (fun h37 => ?_)
   ·replace hm := ifT (of_decide_eq_true h37) hm
    refine g_skip ?_
    refine g_n_then ?_
    refine g_seq ?_
    obtain ⟨o_1, h38, h39⟩ := bindO hm
    refine g_cut (ι := m_laurellaw01_TideParted_C1 × VL × VL × DL) (fun j_1 => o_1 = .inl j_1.1 ∧ VOK 1 j_1.2.1.n j_1.2.1.cap (RI.enc j_1.1.some9) j_1.2.1.sp j_1.2.1.q ∧ VOK 1 j_1.2.2.1.n j_1.2.2.1.cap (RI.enc j_1.1.floods11) j_1.2.2.1.sp j_1.2.2.1.q ∧ VOK 1 j_1.2.2.2.v.n j_1.2.2.2.v.cap (RwH.enc j_1.2.2.2.rs) j_1.2.2.2.v.sp j_1.2.2.2.v.q ∧ DOK RI j_1.1.states12 j_1.2.2.2.rs) (fun j_1 => [(2, .int .u8 which2), (7, ptr b 0), (8, .int .i64 t51), (9, slv j_1.2.1.q j_1.2.1.n j_1.2.1.cap), (10, .int .i64 j_1.1.soonest10), (11, slv j_1.2.2.1.q j_1.2.2.1.n j_1.2.2.1.cap), (12, ptr b_1 0), (61, .int .i64 (t39.r0.floors.length : Int)), (62, .int .i64 s.t62)]) (fun j_1 => [(b_1, .cells #[slv j_1.2.2.2.v.q j_1.2.2.2.v.n j_1.2.2.2.v.cap] 127 (0, 0)), (b, .cells #[slv l_1.1.q l_1.1.n l_1.1.cap, .int .i64 t39.r0.wind.lo, .int .i64 t39.r0.wind.hi, slv l_1.2.1.q l_1.2.1.n l_1.2.1.cap, slv l_1.2.2.q l_1.2.2.n l_1.2.2.cap] 29 (0, 0)), (l, .cells #[.slice qa0 na0 ca0, .int .i64 t39.b0_1, .int .u32 t39.b0_2] 138 (0, 0))]) (fun j_1 => [⟨3, RI.enc j_1.1.some9, j_1.2.1.sp, j_1.2.1.q, []⟩, ⟨3, RI.enc j_1.1.floods11, j_1.2.2.1.sp, j_1.2.2.1.q, []⟩, ⟨43, RwH.enc j_1.2.2.2.rs, j_1.2.2.2.v.sp, j_1.2.2.2.v.q, dbl 46 RI j_1.1.states12 j_1.2.2.2.rs⟩, ⟨68, RW.enc t39.r0.table, l_1.1.sp, l_1.1.q, []⟩, ⟨3, RI.enc t39.r0.floors, l_1.2.1.sp, l_1.2.1.q, []⟩, ⟨51, RS.enc t39.r0.sills, l_1.2.2.sp, l_1.2.2.q, []⟩]) ?_ ?_
    ·replace hm := h38
     refine g_block ?_
     refine g_seq ?_
     refine g_region ?_
     refine g_val rfl rfl rfl (fun _ _ => v_move rfl) ?_
     refine g_val rfl rfl rfl (fun _ _ => v_assign rfl) ?_
     refine g_nil ?_
     refine g_n_then ?_
     refine g_seq ?_
     obtain ⟨o_2, h44, h45⟩ := bindO hm
     refine g_cut (ι := VL) (fun l_7 => VOK 1 l_7.n l_7.cap (RI.enc o_2) l_7.sp l_7.q) (fun l_7 => [(2, .int .u8 which2), (7, ptr b 0), (8, .int .i64 t51), (9, slv l_7.q l_7.n l_7.cap), (10, .int .i64 s.soonest10), (11, slv l_6.2.1.q l_6.2.1.n l_6.2.1.cap), (12, ptr b_1 0), (13, .int .i64 s.t62), (61, .int .i64 (t39.r0.floors.length : Int)), (62, .int .i64 s.t62)]) (fun l_7 => [(b_1, .cells #[slv l_6.2.2.v.q l_6.2.2.v.n l_6.2.2.v.cap] 127 (0, 0)), (b, .cells #[slv l_1.1.q l_1.1.n l_1.1.cap, .int .i64 t39.r0.wind.lo, .int .i64 t39.r0.wind.hi, slv l_1.2.1.q l_1.2.1.n l_1.2.1.cap, slv l_1.2.2.q l_1.2.2.n l_1.2.2.cap] 29 (0, 0)), (l, .cells #[.slice qa0 na0 ca0, .int .i64 t39.b0_1, .int .u32 t39.b0_2] 138 (0, 0))]) (fun l_7 => [⟨3, RI.enc o_2, l_7.sp, l_7.q, []⟩, ⟨3, RI.enc s.floods11, l_6.2.1.sp, l_6.2.1.q, []⟩, ⟨43, RwH.enc l_6.2.2.rs, l_6.2.2.v.sp, l_6.2.2.v.q, dbl 46 RI s.states12 l_6.2.2.rs⟩, ⟨68, RW.enc t39.r0.table, l_1.1.sp, l_1.1.q, []⟩, ⟨3, RI.enc t39.r0.floors, l_1.2.1.sp, l_1.2.1.q, []⟩, ⟨51, RS.enc t39.r0.sills, l_1.2.2.sp, l_1.2.2.q, []⟩]) ?_ ?_
     ·replace hm := h44
      refine g_seq ?_
      refine g_region ?_
      refine g_val rfl rfl rfl (fun _ _ => v_move rfl) ?_
      refine g_val rfl rfl rfl (fun _ _ => v_move rfl) ?_
      obtain ⟨h47, hm⟩ := ifO hm
      refine g_val rfl rfl rfl (fun _ _ => v_shr rfl rfl h47) ?_
      refine g_val rfl rfl rfl (fun _ _ => v_bits rfl rfl rfl) ?_
      refine g_val rfl rfl rfl (fun _ _ => v_eql rfl rfl) ?_
      refine g_nil ?_
      refine g_n_then ?_
      refine g_cond rfl (fun h48 => ?_) (fun h48 => ?_)
      ·replace hm := ifT (of_decide_eq_true h48) hm
       refine g_region ?_
       refine g_val rfl rfl rfl (fun _ _ => v_move rfl) ?_
       refine g_val rfl rfl rfl (fun _ _ => v_move rfl) ?_
       refine g_vlit RI [s.t62] (ps := [(0, _)]) (cells := [_]) (fun w => Try.runUnderlying26 w) (fun w => Try.sizeOf3 w) (fun w => Try.zeroValue3 w) rfl rfl rfl rfl rfl rfl rfl rfl (fun L_1 h49 => ?_)
       obtain ⟨t73, h50, hm⟩ := bindO hm
       refine g_vapp RI 1 h50 Try.underlying26 gxinf3 rfl rfl rfl rfl rfl h32 rfl rfl (vlen RI h49 rfl) (AOK.q (vne h49)) (fun w hh => (hh.vsegA 0 rfl h49)) rfl (fun L_2 h51 h51n => ?_)
       refine g_sel (S' := [_, _, _]) (vs' := [_, _, _, _, _, _, _]) [0, 1, 2] [0, 1, 2, 3, 4, 5, 6] 0 (by decide) (by decide) rfl rfl rfl ?_
       refine g_val rfl rfl rfl (fun _ _ => v_assign rfl) ?_
       refine g_nil ?_
       obtain rfl := Option.some.inj hm
       exact g_leaf L_2 (h51) ((.cons rfl (.cons rfl (.cons rfl (.cons rfl (.cons rfl (.cons rfl (.cons rfl (.cons rfl (.cons rfl (.cons rfl .nil))))))))))) (fun w hh => hh.sel [0, 1, 2] [1, 2, 3, 4, 5, 6] 0 (by decide) (by decide) rfl rfl rfl)
      ·replace hm := ifF (of_decide_eq_false h48) hm
       refine g_skip ?_
       obtain rfl := Option.some.inj hm
       exact g_leaf l_6.1 (h32) ((.cons rfl (.cons rfl (.cons rfl (.cons rfl (.cons rfl (.cons rfl (.cons rfl (.cons rfl (.cons rfl (.cons rfl .nil))))))))))) (fun w hh => hh)
     ·intro l_7 hj
      have h46 := hj
      replace hm := h45
      refine g_n_then ?_
      refine g_seq ?_
      refine g_draw (some 10) (.hoist 0 (.free 1 (.hoist 2 (.hoist 4 (.one 3 (.one 5 (.free 6 (.free 7 (.one 8 (.free 9 (.last 10 .done))))))))))) _ rfl (by decide +kernel) (fun w k hh => hh.draw k) (fun w hh => hh) ?_
      refine p_hoist rfl rfl rfl rfl (fun w hh => v_load (Try.isAgg127 w) rfl (hh.cell 0 rfl rfl)) ?_
      refine p_free rfl rfl rfl rfl (fun _ _ => v_move rfl) ?_
      refine p_hoist rfl rfl rfl rfl (fun w hh => v_loadAgg (vs := [_, _, _, _, _]) (Try.isAgg29 w) (Try.sizeOf29 w) rfl (hh.cells 1 rfl rfl)) ?_
      refine p_hoist rfl rfl rfl rfl (fun w hh => v_loadAgg (vs := [_, _, _, _, _]) (Try.isAgg29 w) (Try.sizeOf29 w) rfl (hh.cells 1 rfl rfl)) ?_
      refine p_one rfl ?_
      obtain ⟨t77, h52, hm⟩ := bindO hm
      refine g_callH [] [] rfl rfl rfl rfl rfl rfl rfl (fun a w => Try.call27 a w) (fun w hh => c_laurellaw01_last t39.r0 (qA l_1.1.q) l_1.1.n l_1.1.cap (qA l_1.2.1.q) l_1.2.1.n l_1.2.1.cap (qA l_1.2.2.q) l_1.2.2.n l_1.2.2.cap w (HV.callee (S0 := []) (vs0 := []) hh (roC (hh.vsepA (S0 := []) (vs0 := []) 3 rfl h5) (roC (hh.vsepA (S0 := []) (vs0 := []) 4 rfl h6) (roC (hh.vsepA (S0 := []) (vs0 := []) 5 rfl h7) roN)))) (vlen RW h5 rfl) (AOK.q (vne h5)) (h5).hle (vlen RI h6 rfl) (AOK.q (vne h6)) (h6).hle (vlen RS h7 rfl) (AOK.q (vne h7)) (h7).hle h52) (fun l_8 h53 => ?_)
      refine p_next (fun w hh => hh) ?_
      refine p_one rfl ?_
      obtain ⟨t79, h54, hm⟩ := bindO hm
      refine g_callH [] [] rfl rfl rfl rfl rfl rfl rfl (fun a w => Try.call26 a w) (fun w hh => c_laurellaw01_first t39.r0 (qA l_1.1.q) l_1.1.n l_1.1.cap (qA l_1.2.1.q) l_1.2.1.n l_1.2.1.cap (qA l_1.2.2.q) l_1.2.2.n l_1.2.2.cap w (HV.callee (S0 := []) (vs0 := []) hh (roC (hh.vsepA (S0 := []) (vs0 := []) 3 rfl h5) (roC (hh.vsepA (S0 := []) (vs0 := []) 4 rfl h6) (roC (hh.vsepA (S0 := []) (vs0 := []) 5 rfl h7) roN)))) (vlen RW h5 rfl) (AOK.q (vne h5)) (h5).hle (vlen RI h6 rfl) (AOK.q (vne h6)) (h6).hle (vlen RS h7 rfl) (AOK.q (vne h7)) (h7).hle h54) (fun l_9 h55 => ?_)
      refine p_next (fun w hh => hh) ?_
      obtain ⟨t80, h56, hm⟩ := bindO hm
      refine p_free rfl rfl rfl rfl (fun _ _ => v_subc h56 rfl rfl) ?_
      obtain ⟨t81, h57, hm⟩ := bindO hm
      refine p_free rfl rfl rfl rfl (fun _ _ => v_addc h57 rfl rfl) ?_
      refine p_one rfl ?_
      obtain ⟨t82, h58, hm⟩ := bindO hm
      refine g_vmake RI 0 h58 Try.underlying43 gxinf46 rfl rfl rfl rfl rfl (fun L_3 h59 => ?_)
      refine p_next (fun w hh => hh.sel [0, 1, 2] [1, 2, 3, 4, 5, 6] 0 (by decide) (by decide) rfl rfl rfl) ?_
      obtain ⟨t83, h60, hm⟩ := bindO hm
      obtain ⟨L_4, h61, h62⟩ := (h35).row h60
      refine p_free rfl rfl rfl rfl (fun w _ => v_ixA h61 (Try.runUnderlying127 w) (Try.sizeOf43 w) rfl rfl (vlen RwH h34 rfl) (vne h34)) ?_
      refine p_last rfl ?_
      obtain ⟨states12, hstates12, hm⟩ := bindO hm
      refine g_vst RwH 3 0 (⟨L_3.q, L_3.n, L_3.cap, L_3.sp⟩ : VL) (fun w => Try.sizeOf43 w) rfl rfl rfl rfl h34 rfl (Nat.add_zero _).symm rfl h61 rfl rfl rfl (fun h63 => ?_)
      refine g_sel (S' := [_, _, _]) (vs' := [_, _, _, _, _, _, _]) [0, 1, 2] [0, 1, 2, 3, 4, 5, 6] 0 (by decide) (by decide) rfl rfl rfl ?_
      refine g_sel (S' := [_, _, _]) (vs' := [_, _, _, _, _, _, _]) [0, 1, 2] [3, 0, 1, 2, 4, 5, 6] 0 (by decide) (by decide) rfl rfl rfl ?_
      refine g_dput RI s.t62 L_3.n L_3.cap h35 h59 h60 (Option.some.inj hstates12) (fun h64 => ?_)
      refine p_nextL ?_
      refine p_done ?_
      refine g_n_then ?_
      refine g_seq ?_
      refine g_region ?_
      refine g_val rfl rfl rfl (fun _ _ => v_assign rfl) ?_
      refine g_nil ?_
      refine g_n_then ?_
      refine g_seq ?_
      refine g_seq ?_
      refine g_region ?_
      refine g_vlit RI [0, 1, 2] (ps := [(0, _), (1, _), (2, _)]) (cells := [_, _, _]) (fun w => Try.runUnderlying43 w) (fun w => Try.sizeOf46 w) (fun w => Try.zeroValue46 w) rfl rfl rfl rfl rfl rfl rfl rfl (fun L_5 h65 => ?_)
      refine g_val rfl rfl rfl (fun w _ => v_lenN (vlen RI h65 rfl) (Try.runUnderlying43 w) rfl) ?_
      refine g_val rfl rfl rfl (fun _ _ => v_move rfl) ?_
      refine g_nil ?_
      refine g_n_then ?_
      obtain ⟨o_3, h66, h67⟩ := bindO hm
      refine g_cut (ι := m_laurellaw01_TideParted_C3) (fun j_2 => o_3 = .inl j_2 ∧ DOK RI j_2.states12 (l_6.2.2.rs.set (Int.toNat s.t62) (⟨L_3.q, L_3.n, L_3.cap, L_3.sp⟩ : VL))) (fun j_2 => [(2, .int .u8 which2), (7, ptr b 0), (8, .int .i64 t51), (9, slv l_7.q l_7.n l_7.cap), (10, .int .i64 s.soonest10), (11, slv l_6.2.1.q l_6.2.1.n l_6.2.1.cap), (12, ptr b_1 0), (13, .int .i64 s.t62), (14, .int .i64 j_2.many14), (61, .int .i64 (t39.r0.floors.length : Int)), (62, .int .i64 s.t62)]) (fun j_2 => [(b_1, .cells #[slv l_6.2.2.v.q l_6.2.2.v.n l_6.2.2.v.cap] 127 (0, 0)), (b, .cells #[slv l_1.1.q l_1.1.n l_1.1.cap, .int .i64 t39.r0.wind.lo, .int .i64 t39.r0.wind.hi, slv l_1.2.1.q l_1.2.1.n l_1.2.1.cap, slv l_1.2.2.q l_1.2.2.n l_1.2.2.cap] 29 (0, 0)), (l, .cells #[.slice qa0 na0 ca0, .int .i64 t39.b0_1, .int .u32 t39.b0_2] 138 (0, 0))]) (fun j_2 => [⟨3, RI.enc o_2, l_7.sp, l_7.q, []⟩, ⟨3, RI.enc s.floods11, l_6.2.1.sp, l_6.2.1.q, []⟩, ⟨43, RwH.enc (l_6.2.2.rs.set (Int.toNat s.t62) (⟨L_3.q, L_3.n, L_3.cap, L_3.sp⟩ : VL)), l_6.2.2.v.sp, l_6.2.2.v.q, dbl 46 RI j_2.states12 (l_6.2.2.rs.set (Int.toNat s.t62) (⟨L_3.q, L_3.n, L_3.cap, L_3.sp⟩ : VL))⟩, ⟨68, RW.enc t39.r0.table, l_1.1.sp, l_1.1.q, []⟩, ⟨3, RI.enc t39.r0.floors, l_1.2.1.sp, l_1.2.1.q, []⟩, ⟨51, RS.enc t39.r0.sills, l_1.2.2.sp, l_1.2.2.q, []⟩]) ?_ ?_
      ·replace hm := h66
       refine g_block ?_
       refine g_loopF (ι := Unit) hm (fun s_1 l_10 => DOK RI s_1.states12 (l_6.2.2.rs.set (Int.toNat s.t62) (⟨L_3.q, L_3.n, L_3.cap, L_3.sp⟩ : VL))) (fun s_1 l_10 => [(2, .int .u8 which2), (7, ptr b 0), (8, .int .i64 t51), (9, slv l_7.q l_7.n l_7.cap), (10, .int .i64 s.soonest10), (11, slv l_6.2.1.q l_6.2.1.n l_6.2.1.cap), (12, ptr b_1 0), (13, .int .i64 s.t62), (14, .int .i64 s_1.many14), (61, .int .i64 (t39.r0.floors.length : Int)), (62, .int .i64 s.t62), (84, slv L_5.q L_5.n L_5.cap), (85, .int .i64 ([0, 1, 2].length : Int)), (86, .int .i64 s_1.t86)]) (fun s_1 l_10 => [(b_1, .cells #[slv l_6.2.2.v.q l_6.2.2.v.n l_6.2.2.v.cap] 127 (0, 0)), (b, .cells #[slv l_1.1.q l_1.1.n l_1.1.cap, .int .i64 t39.r0.wind.lo, .int .i64 t39.r0.wind.hi, slv l_1.2.1.q l_1.2.1.n l_1.2.1.cap, slv l_1.2.2.q l_1.2.2.n l_1.2.2.cap] 29 (0, 0)), (l, .cells #[.slice qa0 na0 ca0, .int .i64 t39.b0_1, .int .u32 t39.b0_2] 138 (0, 0))]) (fun s_1 l_10 => [⟨3, RI.enc o_2, l_7.sp, l_7.q, []⟩, ⟨3, RI.enc s.floods11, l_6.2.1.sp, l_6.2.1.q, []⟩, ⟨46, RI.enc [0, 1, 2], L_5.sp, L_5.q, []⟩, ⟨43, RwH.enc (l_6.2.2.rs.set (Int.toNat s.t62) (⟨L_3.q, L_3.n, L_3.cap, L_3.sp⟩ : VL)), l_6.2.2.v.sp, l_6.2.2.v.q, dbl 46 RI s_1.states12 (l_6.2.2.rs.set (Int.toNat s.t62) (⟨L_3.q, L_3.n, L_3.cap, L_3.sp⟩ : VL))⟩, ⟨68, RW.enc t39.r0.table, l_1.1.sp, l_1.1.q, []⟩, ⟨3, RI.enc t39.r0.floors, l_1.2.1.sp, l_1.2.1.q, []⟩, ⟨51, RS.enc t39.r0.sills, l_1.2.2.sp, l_1.2.2.q, []⟩]) () (h64) ((.cons rfl (.cons rfl (.cons rfl (.cons rfl (.cons rfl (.cons rfl (.cons rfl (.cons rfl (.cons rfl (.cons rfl (.cons rfl (.cons rfl (.cons rfl (.cons rfl .nil))))))))))))))) (fun w hh => hh.sel [0, 1, 2] [2, 3, 0, 1, 4, 5, 6] 0 (by decide) (by decide) rfl rfl rfl) (fun s_1 l_10 r_1 hpl hm h70 => ?_)
       have h69 := hpl
       unfold m_laurellaw01_TideParted_L1 at hm
       refine g_seq ?_
       refine g_region ?_
       refine g_val rfl rfl rfl (fun _ _ => v_lss rfl rfl) ?_
       refine g_nil ?_
       refine g_n_then ?_
       refine g_seq ?_
       refine g_cond rfl (fun h71 => ?_) (fun h71 => ?_)
       ·replace hm := ifT (of_decide_eq_true h71) hm
        refine g_skip ?_
        refine g_n_then ?_
        refine g_seq ?_
        refine g_block ?_
        refine g_seq ?_
        refine g_region ?_
        obtain ⟨t88, h72, hm⟩ := bindO hm
        refine g_val rfl rfl rfl (fun w _ => v_ixA h72 (Try.runUnderlying43 w) (Try.sizeOf46 w) rfl rfl (vlen RI h65 rfl) (vne h65)) ?_
        refine g_val rfl rfl rfl (fun w hh => v_ldE RI 0 h72 (Try.isAgg46 w) rfl (hh.vseg 2 rfl h65) rfl (Nat.add_zero _).symm) ?_
        refine g_val rfl rfl rfl (fun _ _ => v_assign rfl) ?_
        refine g_nil ?_
        refine g_n_then ?_
        refine g_seq ?_
        refine g_region ?_
        refine g_val rfl rfl rfl (fun w hh => v_loadAgg (vs := [_, _, _, _, _]) (Try.isAgg29 w) (Try.sizeOf29 w) rfl (hh.cells 1 rfl rfl)) ?_
        refine g_val rfl rfl rfl (fun _ _ => v_move rfl) ?_
        refine g_val rfl rfl rfl (fun _ _ => v_move rfl) ?_
        obtain ⟨t94, h73, hm⟩ := bindO hm
        refine g_callN rfl rfl rfl rfl rfl rfl rfl (fun a w => Try.call47 a w) (fun w hh => cx_Spans t39.r0 s.t62 t88 l_1.1.q l_1.1.n l_1.1.cap l_1.2.1.q l_1.2.1.n l_1.2.1.cap l_1.2.2.q l_1.2.2.n l_1.2.2.cap w (HV.callee (S0 := []) (vs0 := []) hh (roC (hh.vsep (S0 := []) (vs0 := []) 4 rfl h5) (roC (hh.vsep (S0 := []) (vs0 := []) 5 rfl h6) (roC (hh.vsep (S0 := []) (vs0 := []) 6 rfl h7) roN)))) (vlen RW h5 rfl) (vne h5) (h5).hle (vlen RI h6 rfl) (vne h6) (h6).hle (vlen RS h7 rfl) (vne h7) (h7).hle h73) (fun l_11 h74 => ?_)
        refine g_val rfl rfl rfl (fun _ _ => v_move rfl) ?_
        refine g_val rfl rfl rfl (fun _ _ => v_extract rfl rfl) ?_
        refine g_val rfl rfl rfl (fun _ _ => v_extract rfl rfl) ?_
        refine g_val rfl rfl rfl (fun _ _ => v_assign rfl) ?_
        refine g_val rfl rfl rfl (fun _ _ => v_assign rfl) ?_
        refine g_nil ?_
        refine g_n_then ?_
        refine g_seq ?_
        refine g_seq ?_
        refine g_region ?_
        refine g_val rfl rfl rfl (fun _ _ => v_move rfl) ?_
        refine g_val rfl rfl rfl (fun _ _ => v_neq rfl rfl) ?_
        refine g_nil ?_
        refine g_n_then ?_
        refine g_cond rfl (fun h75 => ?_) (fun h75 => ?_)
        ·replace hm := ifF (of_ndec_true h75) hm
         refine g_seq ?_
         refine g_region ?_
         refine g_val rfl rfl rfl (fun _ _ => v_assign rfl) ?_
         refine g_nil ?_
         refine g_n_then ?_
         refine g_ret ?_
         refine g_r_then ?_
         refine g_r_blk ?_
         refine g_r_then ?_
         refine g_r_then ?_
         refine g_r_blk ?_
         obtain rfl := Option.some.inj hm
         have hbo := h70 _ rfl
         subst hbo
         refine g_r_then ?_
         replace hm := ocR h67
         refine g_r_then ?_
         refine g_r_blk ?_
         obtain rfl := Option.some.inj hm
         refine g_r_then ?_
         replace hm := ocR h39
         refine g_r_then ?_
         refine g_r_then ?_
         refine g_r_blk ?_
         obtain rfl := Option.some.inj hm
         have hbo := h36 _ rfl
         subst hbo
         refine g_r_then ?_
         replace hm := ocR h27
         refine g_r_then ?_
         obtain rfl := Option.some.inj hm
         refine g_done rfl (fun w hh => (.tmp rfl .nil)) (fun w hh => ⟨(), rfl, trivial, hh.sel [] [] 2 (by decide) (by decide) rfl rfl rfl⟩)
        ·replace hm := ifT (of_ndec_false h75) hm
         refine g_skip ?_
         refine g_n_then ?_
         refine g_seq ?_
         refine g_region ?_
         refine g_val rfl rfl rfl (fun _ _ => v_move rfl) ?_
         refine g_val rfl rfl rfl (fun w _ => v_lenN rfl (Try.runUnderlying77 w) rfl) ?_
         refine g_val rfl rfl rfl (fun _ _ => v_move rfl) ?_
         refine g_nil ?_
         refine g_n_then ?_
         obtain ⟨o_4, h76, h77⟩ := bindO hm
         refine g_cut (ι := m_laurellaw01_TideParted_C4) (fun j_3 => o_4 = .inl j_3 ∧ DOK RI j_3.states12 (l_6.2.2.rs.set (Int.toNat s.t62) (⟨L_3.q, L_3.n, L_3.cap, L_3.sp⟩ : VL))) (fun j_3 => [(2, .int .u8 which2), (7, ptr b 0), (8, .int .i64 t51), (9, slv l_7.q l_7.n l_7.cap), (10, .int .i64 s.soonest10), (11, slv l_6.2.1.q l_6.2.1.n l_6.2.1.cap), (12, ptr b_1 0), (13, .int .i64 s.t62), (14, .int .i64 j_3.many14), (61, .int .i64 (t39.r0.floors.length : Int)), (62, .int .i64 s.t62), (84, slv L_5.q L_5.n L_5.cap), (85, .int .i64 ([0, 1, 2].length : Int)), (86, .int .i64 s_1.t86)]) (fun j_3 => [(b_1, .cells #[slv l_6.2.2.v.q l_6.2.2.v.n l_6.2.2.v.cap] 127 (0, 0)), (b, .cells #[slv l_1.1.q l_1.1.n l_1.1.cap, .int .i64 t39.r0.wind.lo, .int .i64 t39.r0.wind.hi, slv l_1.2.1.q l_1.2.1.n l_1.2.1.cap, slv l_1.2.2.q l_1.2.2.n l_1.2.2.cap] 29 (0, 0)), (l, .cells #[.slice qa0 na0 ca0, .int .i64 t39.b0_1, .int .u32 t39.b0_2] 138 (0, 0))]) (fun j_3 => [⟨3, RI.enc o_2, l_7.sp, l_7.q, []⟩, ⟨3, RI.enc s.floods11, l_6.2.1.sp, l_6.2.1.q, []⟩, ⟨46, RI.enc [0, 1, 2], L_5.sp, L_5.q, []⟩, ⟨43, RwH.enc (l_6.2.2.rs.set (Int.toNat s.t62) (⟨L_3.q, L_3.n, L_3.cap, L_3.sp⟩ : VL)), l_6.2.2.v.sp, l_6.2.2.v.q, dbl 46 RI j_3.states12 (l_6.2.2.rs.set (Int.toNat s.t62) (⟨L_3.q, L_3.n, L_3.cap, L_3.sp⟩ : VL))⟩, ⟨68, RW.enc t39.r0.table, l_1.1.sp, l_1.1.q, []⟩, ⟨3, RI.enc t39.r0.floors, l_1.2.1.sp, l_1.2.1.q, []⟩, ⟨51, RS.enc t39.r0.sills, l_1.2.2.sp, l_1.2.2.q, []⟩]) ?_ ?_
         ·replace hm := h76
          refine g_block ?_
          refine g_loopF (ι := Unit) hm (fun s_2 l_12 => DOK RI s_2.states12 (l_6.2.2.rs.set (Int.toNat s.t62) (⟨L_3.q, L_3.n, L_3.cap, L_3.sp⟩ : VL))) (fun s_2 l_12 => [(2, .int .u8 which2), (7, ptr b 0), (8, .int .i64 t51), (9, slv l_7.q l_7.n l_7.cap), (10, .int .i64 s.soonest10), (11, slv l_6.2.1.q l_6.2.1.n l_6.2.1.cap), (12, ptr b_1 0), (13, .int .i64 s.t62), (14, .int .i64 s_2.many14), (16, .int .i64 t88), (17, slv l_11.1 t94.1.length l_11.2), (61, .int .i64 (t39.r0.floors.length : Int)), (62, .int .i64 s.t62), (84, slv L_5.q L_5.n L_5.cap), (85, .int .i64 ([0, 1, 2].length : Int)), (86, .int .i64 s_1.t86), (99, slv l_11.1 t94.1.length l_11.2), (100, .int .i64 (t94.1.length : Int)), (101, .int .i64 s_2.t101)]) (fun s_2 l_12 => [(b_1, .cells #[slv l_6.2.2.v.q l_6.2.2.v.n l_6.2.2.v.cap] 127 (0, 0)), (b, .cells #[slv l_1.1.q l_1.1.n l_1.1.cap, .int .i64 t39.r0.wind.lo, .int .i64 t39.r0.wind.hi, slv l_1.2.1.q l_1.2.1.n l_1.2.1.cap, slv l_1.2.2.q l_1.2.2.n l_1.2.2.cap] 29 (0, 0)), (l, .cells #[.slice qa0 na0 ca0, .int .i64 t39.b0_1, .int .u32 t39.b0_2] 138 (0, 0))]) (fun s_2 l_12 => [⟨3, RI.enc o_2, l_7.sp, l_7.q, []⟩, ⟨3, RI.enc s.floods11, l_6.2.1.sp, l_6.2.1.q, []⟩, ⟨46, RI.enc [0, 1, 2], L_5.sp, L_5.q, []⟩, ⟨43, RwH.enc (l_6.2.2.rs.set (Int.toNat s.t62) (⟨L_3.q, L_3.n, L_3.cap, L_3.sp⟩ : VL)), l_6.2.2.v.sp, l_6.2.2.v.q, dbl 46 RI s_2.states12 (l_6.2.2.rs.set (Int.toNat s.t62) (⟨L_3.q, L_3.n, L_3.cap, L_3.sp⟩ : VL))⟩, ⟨68, RW.enc t39.r0.table, l_1.1.sp, l_1.1.q, []⟩, ⟨3, RI.enc t39.r0.floors, l_1.2.1.sp, l_1.2.1.q, []⟩, ⟨51, RS.enc t39.r0.sills, l_1.2.2.sp, l_1.2.2.q, []⟩]) () (h69) ((.cons rfl (.cons rfl (.cons rfl (.cons rfl (.cons rfl (.cons rfl (.cons rfl (.cons rfl (.cons rfl (.cons rfl (.cons rfl (.cons rfl (.cons rfl (.cons rfl (.cons rfl (.cons rfl (.cons rfl (.cons rfl (.cons rfl .nil)))))))))))))))))))) (fun w hh => hh) (fun s_2 l_12 r_2 hpl hm h80 => ?_)
          have h79 := hpl
          unfold m_laurellaw01_TideParted_L2 at hm
          refine g_seq ?_
          refine g_region ?_
          refine g_val rfl rfl rfl (fun _ _ => v_lss rfl rfl) ?_
          refine g_nil ?_
          refine g_n_then ?_
          refine g_seq ?_
          refine g_cond rfl (fun h81 => ?_) (fun h81 => ?_)
          ·replace hm := ifT (of_decide_eq_true h81) hm
           refine g_skip ?_
           refine g_n_then ?_
           refine g_seq ?_
           refine g_block ?_
           refine g_seq ?_
           refine g_region ?_
           refine g_val rfl rfl rfl (fun _ _ => v_move rfl) ?_
           obtain ⟨t104, h82, hm⟩ := bindO hm
           refine g_val rfl rfl rfl (fun w _ => v_ixA h82 (Try.runUnderlying77 w) (Try.sizeOf25 w) rfl rfl rfl h74.ne) ?_
           refine g_val rfl rfl rfl (fun w hh => v_ldEA RP 0 [.int .i64 t104.lo, .int .i64 t104.hi] h82 (Try.isAgg25 w) (Try.sizeOf25 w) rfl (hh.seg 0 rfl) rfl (Nat.add_zero _).symm) ?_
           refine g_allocV (fun w => Try.zeroValue25 w) rfl (fun b_2 h83 => ?_)
           refine g_val rfl rfl rfl (fun _ _ => v_assign rfl) ?_
           refine g_stSA (us := #[_, _]) (cs' := [_, _]) (S' := [_, _, _, _]) 0 (fun w => Try.sizeOf25 w) rfl rfl rfl rfl rfl rfl rfl ?_
           refine g_nil ?_
           refine g_n_then ?_
           refine g_seq ?_
           refine g_seq ?_
           obtain ⟨o_5, h84, h85⟩ := bindO hm
           refine g_cut (ι := Unit) (fun l_13 => True) (fun l_13 => [(2, .int .u8 which2), (7, ptr b 0), (8, .int .i64 t51), (9, slv l_7.q l_7.n l_7.cap), (10, .int .i64 s.soonest10), (11, slv l_6.2.1.q l_6.2.1.n l_6.2.1.cap), (12, ptr b_1 0), (13, .int .i64 s.t62), (14, .int .i64 s_2.many14), (16, .int .i64 t88), (17, slv l_11.1 t94.1.length l_11.2), (20, ptr b_2 0), (61, .int .i64 (t39.r0.floors.length : Int)), (62, .int .i64 s.t62), (84, slv L_5.q L_5.n L_5.cap), (85, .int .i64 ([0, 1, 2].length : Int)), (86, .int .i64 s_1.t86), (99, slv l_11.1 t94.1.length l_11.2), (100, .int .i64 (t94.1.length : Int)), (101, .int .i64 s_2.t101), (140, .bool o_5)]) (fun l_13 => [(b_2, .cells #[.int .i64 t104.lo, .int .i64 t104.hi] 25 (0, 0)), (b_1, .cells #[slv l_6.2.2.v.q l_6.2.2.v.n l_6.2.2.v.cap] 127 (0, 0)), (b, .cells #[slv l_1.1.q l_1.1.n l_1.1.cap, .int .i64 t39.r0.wind.lo, .int .i64 t39.r0.wind.hi, slv l_1.2.1.q l_1.2.1.n l_1.2.1.cap, slv l_1.2.2.q l_1.2.2.n l_1.2.2.cap] 29 (0, 0)), (l, .cells #[.slice qa0 na0 ca0, .int .i64 t39.b0_1, .int .u32 t39.b0_2] 138 (0, 0))]) (fun l_13 => [⟨3, RI.enc o_2, l_7.sp, l_7.q, []⟩, ⟨3, RI.enc s.floods11, l_6.2.1.sp, l_6.2.1.q, []⟩, ⟨46, RI.enc [0, 1, 2], L_5.sp, L_5.q, []⟩, ⟨43, RwH.enc (l_6.2.2.rs.set (Int.toNat s.t62) (⟨L_3.q, L_3.n, L_3.cap, L_3.sp⟩ : VL)), l_6.2.2.v.sp, l_6.2.2.v.q, dbl 46 RI s_2.states12 (l_6.2.2.rs.set (Int.toNat s.t62) (⟨L_3.q, L_3.n, L_3.cap, L_3.sp⟩ : VL))⟩, ⟨68, RW.enc t39.r0.table, l_1.1.sp, l_1.1.q, []⟩, ⟨3, RI.enc t39.r0.floors, l_1.2.1.sp, l_1.2.1.q, []⟩, ⟨51, RS.enc t39.r0.sills, l_1.2.2.sp, l_1.2.2.q, []⟩]) ?_ ?_
           ·replace hm := h84
            refine g_draw none (.free 0 (.hoist 1 (.hoist 2 (.one 3 (.free 4 (.free 5 (.free 6 (.hoist 7 (.hoist 8 (.one 9 (.free 10 (.free 11 (.free 12 (.free 13 (.hoist 14 (.free 15 (.hoist 16 (.free 17 (.free 18 (.free 19 (.free 20 (.free 21 (.free 22 (.free 23 (.hoist 24 (.free 25 (.free 26 (.free 27 (.free 28 (.free 29 (.hoist 30 (.free 31 (.free 32 (.free 33 (.free 34 .done))))))))))))))))))))))))))))))))))) _ rfl (by decide +kernel) (fun w k hh => hh.draw k) (fun w hh => hh) ?_
            refine p_free rfl rfl rfl rfl (fun w _ => v_fieldAddr 0 (Try.runUnderlying25 w) rfl (Try.sizeOf3 w) rfl) ?_
            refine p_hoist rfl rfl rfl rfl (fun w hh => v_load (Try.isAgg3 w) rfl (hh.cell 0 rfl rfl)) ?_
            refine p_hoist rfl rfl rfl rfl (fun w hh => v_loadAgg (vs := [_, _, _, _, _]) (Try.isAgg29 w) (Try.sizeOf29 w) rfl (hh.cells 2 rfl rfl)) ?_
            refine p_one rfl ?_
            obtain ⟨t109, h86, hm⟩ := bindO hm
            refine g_callH [] [] rfl rfl rfl rfl rfl rfl rfl (fun a w => Try.call26 a w) (fun w hh => c_laurellaw01_first t39.r0 (qA l_1.1.q) l_1.1.n l_1.1.cap (qA l_1.2.1.q) l_1.2.1.n l_1.2.1.cap (qA l_1.2.2.q) l_1.2.2.n l_1.2.2.cap w (HV.callee (S0 := []) (vs0 := []) hh (roC (hh.vsepA (S0 := []) (vs0 := []) 4 rfl h5) (roC (hh.vsepA (S0 := []) (vs0 := []) 5 rfl h6) (roC (hh.vsepA (S0 := []) (vs0 := []) 6 rfl h7) roN)))) (vlen RW h5 rfl) (AOK.q (vne h5)) (h5).hle (vlen RI h6 rfl) (AOK.q (vne h6)) (h6).hle (vlen RS h7 rfl) (AOK.q (vne h7)) (h7).hle h86) (fun l_14 h87 => ?_)
            refine p_next (fun w hh => hh) ?_
            refine p_free rfl rfl rfl rfl (fun _ _ => v_lss rfl rfl) ?_
            refine p_free rfl rfl rfl rfl (fun _ _ => v_move rfl) ?_
            refine g_case 111 rfl (fun h88 => ?_) (fun h88 => ?_)
            ·replace hm := ifT (of_decide_eq_true h88) hm
             refine p_skipF rfl rfl rfl rfl rfl rfl rfl ?_
             refine p_skip rfl rfl rfl rfl rfl rfl rfl ?_
             refine p_skip rfl rfl rfl rfl rfl rfl rfl ?_
             refine p_one rfl ?_
             refine g_skipG rfl rfl rfl rfl rfl rfl ?_
             refine p_next (fun w hh => hh) ?_
             refine p_skipF rfl rfl rfl rfl rfl rfl rfl ?_
             refine p_free rfl rfl rfl rfl (fun _ _ => v_pickT rfl rfl) ?_
             refine p_free rfl rfl rfl rfl (fun _ _ => v_move rfl) ?_
             refine p_skipF rfl rfl rfl rfl rfl rfl rfl ?_
             refine p_skip rfl rfl rfl rfl rfl rfl rfl ?_
             refine p_skipF rfl rfl rfl rfl rfl rfl rfl ?_
             refine p_skip rfl rfl rfl rfl rfl rfl rfl ?_
             refine p_skipF rfl rfl rfl rfl rfl rfl rfl ?_
             refine p_free rfl rfl rfl rfl (fun _ _ => v_pickT rfl rfl) ?_
             refine p_free rfl rfl rfl rfl (fun _ _ => v_move rfl) ?_
             refine p_skipF rfl rfl rfl rfl rfl rfl rfl ?_
             refine p_skipF rfl rfl rfl rfl rfl rfl rfl ?_
             refine p_skipF rfl rfl rfl rfl rfl rfl rfl ?_
             refine p_skipUF_ rfl rfl rfl rfl rfl rfl ?_
             refine p_skipU_ rfl rfl rfl rfl rfl rfl ?_
             refine p_skipUF_ rfl rfl rfl rfl rfl rfl ?_
             refine p_skipUF_ rfl rfl rfl rfl rfl rfl ?_
             refine p_skipUF_ rfl rfl rfl rfl rfl rfl ?_
             refine p_skipUF_ rfl rfl rfl rfl rfl rfl ?_
             refine p_skipUF_ rfl rfl rfl rfl rfl rfl ?_
             refine p_skipU_ rfl rfl rfl rfl rfl rfl ?_
             refine p_skipUF_ rfl rfl rfl rfl rfl rfl ?_
             refine p_skipUF_ rfl rfl rfl rfl rfl rfl ?_
             refine p_skipF rfl rfl rfl rfl rfl rfl rfl ?_
             refine p_free rfl rfl rfl rfl (fun _ _ => v_pickT rfl rfl) ?_
             refine p_done ?_
             obtain rfl := Option.some.inj hm
             exact g_leaf () (trivial) ((.cons rfl (.cons rfl (.cons rfl (.cons rfl (.cons rfl (.cons rfl (.cons rfl (.cons rfl (.cons rfl (.cons rfl (.cons rfl (.cons rfl (.cons rfl (.cons rfl (.cons rfl (.cons rfl (.cons rfl (.cons rfl (.cons rfl (.cons rfl (.cons rfl .nil)))))))))))))))))))))) (fun w hh => hh)
            ·replace hm := ifF (of_decide_eq_false h88) hm
             refine p_freeG rfl rfl rfl rfl rfl rfl (fun w _ => v_fieldAddr 1 (Try.runUnderlying25 w) rfl (Try.sizeOf3 w) rfl) ?_
             refine p_hoistG rfl rfl rfl rfl rfl rfl (fun w hh => v_load (Try.isAgg3 w) rfl (hh.cell 0 rfl rfl)) ?_
             refine p_hoistG rfl rfl rfl rfl rfl rfl (fun w hh => v_loadAgg (vs := [_, _, _, _, _]) (Try.isAgg29 w) (Try.sizeOf29 w) rfl (hh.cells 2 rfl rfl)) ?_
             refine p_one rfl ?_
             refine v_unguard rfl rfl ?_
             obtain ⟨t115, h89, hm⟩ := bindO hm
             refine g_callH [] [] rfl rfl rfl rfl rfl rfl rfl (fun a w => Try.call27 a w) (fun w hh => c_laurellaw01_last t39.r0 (qA l_1.1.q) l_1.1.n l_1.1.cap (qA l_1.2.1.q) l_1.2.1.n l_1.2.1.cap (qA l_1.2.2.q) l_1.2.2.n l_1.2.2.cap w (HV.callee (S0 := []) (vs0 := []) hh (roC (hh.vsepA (S0 := []) (vs0 := []) 4 rfl h5) (roC (hh.vsepA (S0 := []) (vs0 := []) 5 rfl h6) (roC (hh.vsepA (S0 := []) (vs0 := []) 6 rfl h7) roN)))) (vlen RW h5 rfl) (AOK.q (vne h5)) (h5).hle (vlen RI h6 rfl) (AOK.q (vne h6)) (h6).hle (vlen RS h7 rfl) (AOK.q (vne h7)) (h7).hle h89) (fun l_15 h90 => ?_)
             refine p_next (fun w hh => hh) ?_
             refine p_freeG rfl rfl rfl rfl rfl rfl (fun _ _ => v_gtr rfl rfl) ?_
             refine p_free rfl rfl rfl rfl (fun _ _ => v_pickF rfl rfl) ?_
             refine p_free rfl rfl rfl rfl (fun _ _ => v_move rfl) ?_
             refine g_case 118 rfl (fun h91 => ?_) (fun h91 => ?_)
             ·replace hm := ifT (of_decide_eq_true h91) hm
              refine p_skipF rfl rfl rfl rfl rfl rfl rfl ?_
              refine p_skip rfl rfl rfl rfl rfl rfl rfl ?_
              refine p_skipF rfl rfl rfl rfl rfl rfl rfl ?_
              refine p_skip rfl rfl rfl rfl rfl rfl rfl ?_
              refine p_skipF rfl rfl rfl rfl rfl rfl rfl ?_
              refine p_free rfl rfl rfl rfl (fun _ _ => v_pickT rfl rfl) ?_
              refine p_free rfl rfl rfl rfl (fun _ _ => v_move rfl) ?_
              refine p_skipF rfl rfl rfl rfl rfl rfl rfl ?_
              refine p_skipF rfl rfl rfl rfl rfl rfl rfl ?_
              refine p_skipF rfl rfl rfl rfl rfl rfl rfl ?_
              refine p_skipUF_ rfl rfl rfl rfl rfl rfl ?_
              refine p_skipU_ rfl rfl rfl rfl rfl rfl ?_
              refine p_skipUF_ rfl rfl rfl rfl rfl rfl ?_
              refine p_skipUF_ rfl rfl rfl rfl rfl rfl ?_
              refine p_skipUF_ rfl rfl rfl rfl rfl rfl ?_
              refine p_skipUF_ rfl rfl rfl rfl rfl rfl ?_
              refine p_skipUF_ rfl rfl rfl rfl rfl rfl ?_
              refine p_skipU_ rfl rfl rfl rfl rfl rfl ?_
              refine p_skipUF_ rfl rfl rfl rfl rfl rfl ?_
              refine p_skipUF_ rfl rfl rfl rfl rfl rfl ?_
              refine p_skipF rfl rfl rfl rfl rfl rfl rfl ?_
              refine p_free rfl rfl rfl rfl (fun _ _ => v_pickT rfl rfl) ?_
              refine p_done ?_
              obtain rfl := Option.some.inj hm
              exact g_leaf () (trivial) ((.cons rfl (.cons rfl (.cons rfl (.cons rfl (.cons rfl (.cons rfl (.cons rfl (.cons rfl (.cons rfl (.cons rfl (.cons rfl (.cons rfl (.cons rfl (.cons rfl (.cons rfl (.cons rfl (.cons rfl (.cons rfl (.cons rfl (.cons rfl (.cons rfl .nil)))))))))))))))))))))) (fun w hh => hh)
             ·replace hm := ifF (of_decide_eq_false h91) hm
              refine p_freeG rfl rfl rfl rfl rfl rfl (fun w _ => v_fieldAddr 0 (Try.runUnderlying25 w) rfl (Try.sizeOf3 w) rfl) ?_
              refine p_hoistG rfl rfl rfl rfl rfl rfl (fun w hh => v_load (Try.isAgg3 w) rfl (hh.cell 0 rfl rfl)) ?_
              refine p_freeG rfl rfl rfl rfl rfl rfl (fun w _ => v_fieldAddr 1 (Try.runUnderlying25 w) rfl (Try.sizeOf3 w) rfl) ?_
              refine p_hoistG rfl rfl rfl rfl rfl rfl (fun w hh => v_load (Try.isAgg3 w) rfl (hh.cell 0 rfl rfl)) ?_
              refine p_freeG rfl rfl rfl rfl rfl rfl (fun _ _ => v_gtr rfl rfl) ?_
              refine p_free rfl rfl rfl rfl (fun _ _ => v_pickF rfl rfl) ?_
              refine p_free rfl rfl rfl rfl (fun _ _ => v_move rfl) ?_
              refine g_case 125 rfl (fun h92 => ?_) (fun h92 => ?_)
              ·replace hm := ifT (of_decide_eq_true h92) hm
               refine p_skipF rfl rfl rfl rfl rfl rfl rfl ?_
               refine p_skipF rfl rfl rfl rfl rfl rfl rfl ?_
               refine p_skipF rfl rfl rfl rfl rfl rfl rfl ?_
               refine p_skipUF_ rfl rfl rfl rfl rfl rfl ?_
               refine p_skipU_ rfl rfl rfl rfl rfl rfl ?_
               refine p_skipUF_ rfl rfl rfl rfl rfl rfl ?_
               refine p_skipUF_ rfl rfl rfl rfl rfl rfl ?_
               refine p_skipUF_ rfl rfl rfl rfl rfl rfl ?_
               refine p_skipUF_ rfl rfl rfl rfl rfl rfl ?_
               refine p_skipUF_ rfl rfl rfl rfl rfl rfl ?_
               refine p_skipU_ rfl rfl rfl rfl rfl rfl ?_
               refine p_skipUF_ rfl rfl rfl rfl rfl rfl ?_
               refine p_skipUF_ rfl rfl rfl rfl rfl rfl ?_
               refine p_skipF rfl rfl rfl rfl rfl rfl rfl ?_
               refine p_free rfl rfl rfl rfl (fun _ _ => v_pickT rfl rfl) ?_
               refine p_done ?_
               obtain rfl := Option.some.inj hm
               exact g_leaf () (trivial) ((.cons rfl (.cons rfl (.cons rfl (.cons rfl (.cons rfl (.cons rfl (.cons rfl (.cons rfl (.cons rfl (.cons rfl (.cons rfl (.cons rfl (.cons rfl (.cons rfl (.cons rfl (.cons rfl (.cons rfl (.cons rfl (.cons rfl (.cons rfl (.cons rfl .nil)))))))))))))))))))))) (fun w hh => hh)
              ·replace hm := ifF (of_decide_eq_false h92) hm
               refine p_freeG rfl rfl rfl rfl rfl rfl (fun _ _ => v_move rfl) ?_
               refine p_freeG rfl rfl rfl rfl rfl rfl (fun _ _ => v_gtr rfl rfl) ?_
               refine p_freeG rfl rfl rfl rfl rfl rfl (fun _ _ => v_move rfl) ?_
               refine g_case 128 rfl (fun h93 => ?_) (fun h93 => ?_)
               ·replace hm := ifT (of_decide_eq_true h93) hm
                refine p_freeG rfl rfl rfl rfl rfl rfl (fun w _ => v_fieldAddr 0 (Try.runUnderlying25 w) rfl (Try.sizeOf3 w) rfl) ?_
                refine p_hoistG rfl rfl rfl rfl rfl rfl (fun w hh => v_load (Try.isAgg3 w) rfl (hh.cell 0 rfl rfl)) ?_
                refine p_freeG rfl rfl rfl rfl rfl rfl (fun _ _ => v_move rfl) ?_
                refine p_freeG rfl rfl rfl rfl rfl rfl (fun _ _ => v_move rfl) ?_
                obtain ⟨t133, h94, hm⟩ := bindO hm
                refine p_freeG rfl rfl rfl rfl rfl rfl (fun _ _ => v_subc h94 rfl rfl) ?_
                obtain ⟨t134, h95, hm⟩ := bindO hm
                refine p_freeG rfl rfl rfl rfl rfl rfl (fun w _ => v_ixA h95 (Try.runUnderlying77 w) (Try.sizeOf25 w) rfl rfl rfl h74.ne) ?_
                refine p_freeG rfl rfl rfl rfl rfl rfl (fun w _ => v_fieldAddr 1 (Try.runUnderlying25 w) rfl (Try.sizeOf3 w) rfl) ?_
                refine p_hoistG rfl rfl rfl rfl rfl rfl (fun w hh => v_ldE RP 1 h95 (Try.isAgg3 w) rfl (hh.seg 0 rfl) rfl rfl) ?_
                obtain ⟨t137, h96, hm⟩ := bindO hm
                refine p_freeG rfl rfl rfl rfl rfl rfl (fun _ _ => v_addc h96 rfl rfl) ?_
                refine p_freeG rfl rfl rfl rfl rfl rfl (fun _ _ => v_leq rfl rfl) ?_
                refine p_freeG rfl rfl rfl rfl rfl rfl (fun _ _ => v_pickT rfl rfl) ?_
                refine p_free rfl rfl rfl rfl (fun _ _ => v_pickF rfl rfl) ?_
                refine p_done ?_
                obtain rfl := Option.some.inj hm
                exact g_leaf () (trivial) ((.cons rfl (.cons rfl (.cons rfl (.cons rfl (.cons rfl (.cons rfl (.cons rfl (.cons rfl (.cons rfl (.cons rfl (.cons rfl (.cons rfl (.cons rfl (.cons rfl (.cons rfl (.cons rfl (.cons rfl (.cons rfl (.cons rfl (.cons rfl (.cons rfl .nil)))))))))))))))))))))) (fun w hh => hh)
               ·replace hm := ifF (of_decide_eq_false h93) hm
                refine p_skipF rfl rfl rfl rfl rfl rfl rfl ?_
                refine p_skip rfl rfl rfl rfl rfl rfl rfl ?_
                refine p_skipF rfl rfl rfl rfl rfl rfl rfl ?_
                refine p_skipF rfl rfl rfl rfl rfl rfl rfl ?_
                refine p_skipF rfl rfl rfl rfl rfl rfl rfl ?_
                refine p_skipF rfl rfl rfl rfl rfl rfl rfl ?_
                refine p_skipF rfl rfl rfl rfl rfl rfl rfl ?_
                refine p_skip rfl rfl rfl rfl rfl rfl rfl ?_
                refine p_skipF rfl rfl rfl rfl rfl rfl rfl ?_
                refine p_skipF rfl rfl rfl rfl rfl rfl rfl ?_
                refine p_freeG rfl rfl rfl rfl rfl rfl (fun _ _ => v_pickF rfl rfl) ?_
                refine p_free rfl rfl rfl rfl (fun _ _ => v_pickF rfl rfl) ?_
                refine p_done ?_
                obtain rfl := Option.some.inj hm
                exact g_leaf () (trivial) ((.cons rfl (.cons rfl (.cons rfl (.cons rfl (.cons rfl (.cons rfl (.cons rfl (.cons rfl (.cons rfl (.cons rfl (.cons rfl (.cons rfl (.cons rfl (.cons rfl (.cons rfl (.cons rfl (.cons rfl (.cons rfl (.cons rfl (.cons rfl (.cons rfl .nil)))))))))))))))))))))) (fun w hh => hh)
           ·intro l_13 hj
            replace hm := h85
            refine g_n_then ?_
            refine g_cond rfl (fun h97 => ?_) (fun h97 => ?_)
            ·replace hm := ifT (h97) hm
             refine g_seq ?_
             refine g_region ?_
             refine g_val rfl rfl rfl (fun _ _ => v_assign rfl) ?_
             refine g_nil ?_
             refine g_n_then ?_
             refine g_ret ?_
             refine g_r_then ?_
             refine g_r_blk ?_
             refine g_r_then ?_
             refine g_r_then ?_
             refine g_r_blk ?_
             obtain rfl := Option.some.inj hm
             have hbo := h80 _ rfl
             subst hbo
             refine g_r_then ?_
             replace hm := ocR h77
             refine g_r_blk ?_
             refine g_r_then ?_
             refine g_r_then ?_
             refine g_r_blk ?_
             obtain rfl := Option.some.inj hm
             have hbo := h70 _ rfl
             subst hbo
             refine g_r_then ?_
             replace hm := ocR h67
             refine g_r_then ?_
             refine g_r_blk ?_
             obtain rfl := Option.some.inj hm
             refine g_r_then ?_
             replace hm := ocR h39
             refine g_r_then ?_
             refine g_r_then ?_
             refine g_r_blk ?_
             obtain rfl := Option.some.inj hm
             have hbo := h36 _ rfl
             subst hbo
             refine g_r_then ?_
             replace hm := ocR h27
             refine g_r_then ?_
             obtain rfl := Option.some.inj hm
             refine g_done rfl (fun w hh => (.tmp rfl .nil)) (fun w hh => ⟨(), rfl, trivial, hh.sel [] [] 2 (by decide) (by decide) rfl rfl rfl⟩)
            ·replace hm := ifF ((fun hh => Bool.noConfusion ((h97).symm.trans hh))) hm
             refine g_skip ?_
             refine g_n_then ?_
             refine g_seq ?_
             refine g_region ?_
             refine g_val rfl rfl rfl (fun w _ => v_fieldAddr 0 (Try.runUnderlying25 w) rfl (Try.sizeOf3 w) rfl) ?_
             refine g_val rfl rfl rfl (fun w hh => v_load (Try.isAgg3 w) rfl (hh.cell 0 rfl rfl)) ?_
             refine g_val rfl rfl rfl (fun _ _ => v_assign rfl) ?_
             refine g_nil ?_
             refine g_n_then ?_
             obtain ⟨o_6, h98, h99⟩ := bindO hm
             refine g_cut (ι := Unit) (fun l_16 => DOK RI o_6.states12 (l_6.2.2.rs.set (Int.toNat s.t62) (⟨L_3.q, L_3.n, L_3.cap, L_3.sp⟩ : VL))) (fun l_16 => [(2, .int .u8 which2), (7, ptr b 0), (8, .int .i64 t51), (9, slv l_7.q l_7.n l_7.cap), (10, .int .i64 s.soonest10), (11, slv l_6.2.1.q l_6.2.1.n l_6.2.1.cap), (12, ptr b_1 0), (13, .int .i64 s.t62), (14, .int .i64 o_6.many14), (16, .int .i64 t88), (17, slv l_11.1 t94.1.length l_11.2), (61, .int .i64 (t39.r0.floors.length : Int)), (62, .int .i64 s.t62), (84, slv L_5.q L_5.n L_5.cap), (85, .int .i64 ([0, 1, 2].length : Int)), (86, .int .i64 s_1.t86), (99, slv l_11.1 t94.1.length l_11.2), (100, .int .i64 (t94.1.length : Int)), (101, .int .i64 s_2.t101)]) (fun l_16 => [(b_2, .cells #[.int .i64 t104.lo, .int .i64 t104.hi] 25 (0, 0)), (b_1, .cells #[slv l_6.2.2.v.q l_6.2.2.v.n l_6.2.2.v.cap] 127 (0, 0)), (b, .cells #[slv l_1.1.q l_1.1.n l_1.1.cap, .int .i64 t39.r0.wind.lo, .int .i64 t39.r0.wind.hi, slv l_1.2.1.q l_1.2.1.n l_1.2.1.cap, slv l_1.2.2.q l_1.2.2.n l_1.2.2.cap] 29 (0, 0)), (l, .cells #[.slice qa0 na0 ca0, .int .i64 t39.b0_1, .int .u32 t39.b0_2] 138 (0, 0))]) (fun l_16 => [⟨3, RI.enc o_2, l_7.sp, l_7.q, []⟩, ⟨3, RI.enc s.floods11, l_6.2.1.sp, l_6.2.1.q, []⟩, ⟨46, RI.enc [0, 1, 2], L_5.sp, L_5.q, []⟩, ⟨43, RwH.enc (l_6.2.2.rs.set (Int.toNat s.t62) (⟨L_3.q, L_3.n, L_3.cap, L_3.sp⟩ : VL)), l_6.2.2.v.sp, l_6.2.2.v.q, dbl 46 RI o_6.states12 (l_6.2.2.rs.set (Int.toNat s.t62) (⟨L_3.q, L_3.n, L_3.cap, L_3.sp⟩ : VL))⟩, ⟨68, RW.enc t39.r0.table, l_1.1.sp, l_1.1.q, []⟩, ⟨3, RI.enc t39.r0.floors, l_1.2.1.sp, l_1.2.1.q, []⟩, ⟨51, RS.enc t39.r0.sills, l_1.2.2.sp, l_1.2.2.q, []⟩]) ?_ ?_
             ·replace hm := h98
              refine g_block ?_
              refine g_loopF (ι := Unit) hm (fun s_3 l_17 => DOK RI s_3.states12 (l_6.2.2.rs.set (Int.toNat s.t62) (⟨L_3.q, L_3.n, L_3.cap, L_3.sp⟩ : VL))) (fun s_3 l_17 => [(2, .int .u8 which2), (7, ptr b 0), (8, .int .i64 t51), (9, slv l_7.q l_7.n l_7.cap), (10, .int .i64 s.soonest10), (11, slv l_6.2.1.q l_6.2.1.n l_6.2.1.cap), (12, ptr b_1 0), (13, .int .i64 s.t62), (14, .int .i64 s_3.many14), (16, .int .i64 t88), (17, slv l_11.1 t94.1.length l_11.2), (20, ptr b_2 0), (21, .int .i64 s_3.at21), (61, .int .i64 (t39.r0.floors.length : Int)), (62, .int .i64 s.t62), (84, slv L_5.q L_5.n L_5.cap), (85, .int .i64 ([0, 1, 2].length : Int)), (86, .int .i64 s_1.t86), (99, slv l_11.1 t94.1.length l_11.2), (100, .int .i64 (t94.1.length : Int)), (101, .int .i64 s_2.t101)]) (fun s_3 l_17 => [(b_2, .cells #[.int .i64 t104.lo, .int .i64 t104.hi] 25 (0, 0)), (b_1, .cells #[slv l_6.2.2.v.q l_6.2.2.v.n l_6.2.2.v.cap] 127 (0, 0)), (b, .cells #[slv l_1.1.q l_1.1.n l_1.1.cap, .int .i64 t39.r0.wind.lo, .int .i64 t39.r0.wind.hi, slv l_1.2.1.q l_1.2.1.n l_1.2.1.cap, slv l_1.2.2.q l_1.2.2.n l_1.2.2.cap] 29 (0, 0)), (l, .cells #[.slice qa0 na0 ca0, .int .i64 t39.b0_1, .int .u32 t39.b0_2] 138 (0, 0))]) (fun s_3 l_17 => [⟨3, RI.enc o_2, l_7.sp, l_7.q, []⟩, ⟨3, RI.enc s.floods11, l_6.2.1.sp, l_6.2.1.q, []⟩, ⟨46, RI.enc [0, 1, 2], L_5.sp, L_5.q, []⟩, ⟨43, RwH.enc (l_6.2.2.rs.set (Int.toNat s.t62) (⟨L_3.q, L_3.n, L_3.cap, L_3.sp⟩ : VL)), l_6.2.2.v.sp, l_6.2.2.v.q, dbl 46 RI s_3.states12 (l_6.2.2.rs.set (Int.toNat s.t62) (⟨L_3.q, L_3.n, L_3.cap, L_3.sp⟩ : VL))⟩, ⟨68, RW.enc t39.r0.table, l_1.1.sp, l_1.1.q, []⟩, ⟨3, RI.enc t39.r0.floors, l_1.2.1.sp, l_1.2.1.q, []⟩, ⟨51, RS.enc t39.r0.sills, l_1.2.2.sp, l_1.2.2.q, []⟩]) () (h79) ((.cons rfl (.cons rfl (.cons rfl (.cons rfl (.cons rfl (.cons rfl (.cons rfl (.cons rfl (.cons rfl (.cons rfl (.cons rfl (.cons rfl (.cons rfl (.cons rfl (.cons rfl (.cons rfl (.cons rfl (.cons rfl (.cons rfl (.cons rfl (.cons rfl .nil)))))))))))))))))))))) (fun w hh => hh) (fun s_3 l_17 r_3 hpl hm h102 => ?_)
              have h101 := hpl
              unfold m_laurellaw01_TideParted_L3 at hm
              refine g_seq ?_
              refine g_seq ?_
              refine g_region ?_
              refine g_val rfl rfl rfl (fun _ _ => v_move rfl) ?_
              refine g_val rfl rfl rfl (fun w _ => v_fieldAddr 1 (Try.runUnderlying25 w) rfl (Try.sizeOf3 w) rfl) ?_
              refine g_val rfl rfl rfl (fun w hh => v_load (Try.isAgg3 w) rfl (hh.cell 0 rfl rfl)) ?_
              refine g_val rfl rfl rfl (fun _ _ => v_leq rfl rfl) ?_
              refine g_nil ?_
              refine g_n_then ?_
              refine g_cond rfl (fun h103 => ?_) (fun h103 => ?_)
              ·replace hm := ifT (of_decide_eq_true h103) hm
               refine g_skip ?_
               refine g_n_then ?_
               refine g_seq ?_
               refine g_block ?_
               refine g_seq ?_
               refine g_draw (some 10) (.hoist 0 (.free 1 (.free 2 (.hoist 3 (.free 4 (.hoist 5 (.free 8 (.one 6 (.free 7 (.free 9 (.last 10 .done))))))))))) _ rfl (by decide +kernel) (fun w k hh => hh.draw k) (fun w hh => hh) ?_
               refine p_hoist rfl rfl rfl rfl (fun w hh => v_load (Try.isAgg127 w) rfl (hh.cell 1 rfl rfl)) ?_
               refine p_free rfl rfl rfl rfl (fun _ _ => v_move rfl) ?_
               obtain ⟨t151, h104, hm⟩ := bindO hm
               obtain ⟨L_6, h105, h106⟩ := (h101).row h104
               refine p_free rfl rfl rfl rfl (fun w _ => v_ixA h105 (Try.runUnderlying127 w) (Try.sizeOf43 w) rfl rfl (vlen RwH h63 rfl) (vne h63)) ?_
               refine p_hoist rfl rfl rfl rfl (fun w hh => v_ldE RwH 0 h105 (Try.isAgg43 w) rfl (hh.vseg 3 rfl h63) rfl (Nat.add_zero _).symm) ?_
               refine p_free rfl rfl rfl rfl (fun _ _ => v_move rfl) ?_
               refine p_hoist rfl rfl rfl rfl (fun w hh => v_loadAgg (vs := [_, _, _, _, _]) (Try.isAgg29 w) (Try.sizeOf29 w) rfl (hh.cells 2 rfl rfl)) ?_
               refine p_free rfl rfl rfl rfl (fun _ _ => v_move rfl) ?_
               refine p_one rfl ?_
               obtain ⟨t155, h107, hm⟩ := bindO hm
               refine g_callH [] [] rfl rfl rfl rfl rfl rfl rfl (fun a w => Try.call26 a w) (fun w hh => c_laurellaw01_first t39.r0 (qA l_1.1.q) l_1.1.n l_1.1.cap (qA l_1.2.1.q) l_1.2.1.n l_1.2.1.cap (qA l_1.2.2.q) l_1.2.2.n l_1.2.2.cap w (HV.callee (S0 := []) (vs0 := []) hh (roC (hh.vsepA (S0 := []) (vs0 := []) 4 rfl h5) (roC (hh.vsepA (S0 := []) (vs0 := []) 5 rfl h6) (roC (hh.vsepA (S0 := []) (vs0 := []) 6 rfl h7) roN)))) (vlen RW h5 rfl) (AOK.q (vne h5)) (h5).hle (vlen RI h6 rfl) (AOK.q (vne h6)) (h6).hle (vlen RS h7 rfl) (AOK.q (vne h7)) (h7).hle h107) (fun l_18 h108 => ?_)
               refine p_next (fun w hh => hh) ?_
               obtain ⟨t156, h109, hm⟩ := bindO hm
               refine p_free rfl rfl rfl rfl (fun _ _ => v_subc h109 rfl rfl) ?_
               obtain ⟨t158, h110, hm⟩ := bindO hm
               refine p_free rfl rfl rfl rfl (fun w _ => v_ixA h110 (Try.runUnderlying43 w) (Try.sizeOf46 w) rfl rfl (vlen RI h106 rfl) (vne h106)) ?_
               refine p_last rfl ?_
               obtain ⟨row, hrow, hm⟩ := bindO hm
               obtain ⟨states12_1, hstates12_1, hm⟩ := bindO hm
               refine g_sel (S' := [_, _, _, _]) (vs' := [_, _, _, _, _, _, _]) [0, 1, 2, 3] [3, 0, 1, 2, 4, 5, 6] 0 (by decide) (by decide) rfl rfl rfl ?_
               refine g_dtake RI s.t62 h101 h104 h105 (fun _ => ?_)
               refine g_vst RI 1 0 t88 (fun w => Try.sizeOf46 w) rfl rfl rfl rfl h106 rfl (Nat.add_zero _).symm rfl h110 rfl rfl (Option.some.inj hrow) (fun h111 => ?_)
               refine g_sel (S' := [_, _, _, _]) (vs' := [_, _, _, _, _, _, _, _]) [0, 1, 2, 3] [0, 1, 2, 3, 4, 5, 6, 7] 0 (by decide) (by decide) rfl rfl rfl ?_
               refine g_dback RI s.t62 h101 h104 h105 h111 (Option.some.inj hstates12_1) (fun h112 => ?_)
               refine p_nextL ?_
               refine p_done ?_
               refine g_n_then ?_
               refine g_region ?_
               refine g_val rfl rfl rfl (fun _ _ => v_move rfl) ?_
               obtain ⟨t160, h113, hm⟩ := bindO hm
               refine g_val rfl rfl rfl (fun _ _ => v_addc h113 rfl rfl) ?_
               refine g_val rfl rfl rfl (fun _ _ => v_assign rfl) ?_
               refine g_nil ?_
               refine g_n_blk ?_
               refine g_n_then ?_
               refine g_region ?_
               refine g_val rfl rfl rfl (fun _ _ => v_move rfl) ?_
               obtain ⟨t148, h114, hm⟩ := bindO hm
               refine g_val rfl rfl rfl (fun _ _ => v_addc h114 rfl rfl) ?_
               refine g_val rfl rfl rfl (fun _ _ => v_assign rfl) ?_
               refine g_nil ?_
               obtain rfl := Option.some.inj hm
               refine g_n_then ?_
               exact g_again' _ () rfl (h112) ((.cons rfl (.cons rfl (.cons rfl (.cons rfl (.cons rfl (.cons rfl (.cons rfl (.cons rfl (.cons rfl (.cons rfl (.cons rfl (.cons rfl (.cons rfl (.cons rfl (.cons rfl (.cons rfl (.cons rfl (.cons rfl (.cons rfl (.cons rfl (.cons rfl .nil)))))))))))))))))))))) (fun w hh => hh.sel [0, 1, 2, 3] [1, 2, 3, 0, 4, 5, 6] 0 (by decide) (by decide) rfl rfl rfl)
              ·replace hm := ifF (of_decide_eq_false h103) hm
               refine g_exit ?_
               refine g_x_then ?_
               refine g_x_then ?_
               refine g_x_blk ?_
               obtain rfl := Option.some.inj hm
               have hbo := h102 _ rfl
               subst hbo
               exact g_leaf () (h101) ((.cons rfl (.cons rfl (.cons rfl (.cons rfl (.cons rfl (.cons rfl (.cons rfl (.cons rfl (.cons rfl (.cons rfl (.cons rfl (.cons rfl (.cons rfl (.cons rfl (.cons rfl (.cons rfl (.cons rfl (.cons rfl (.cons rfl .nil)))))))))))))))))))) (fun w hh => hh)
             ·intro l_16 hj
              have h100 := hj
              replace hm := h99
              refine g_n_blk ?_
              refine g_n_then ?_
              refine g_region ?_
              obtain ⟨t161, h115, hm⟩ := bindO hm
              refine g_val rfl rfl rfl (fun _ _ => v_addc h115 rfl rfl) ?_
              refine g_val rfl rfl rfl (fun _ _ => v_move rfl) ?_
              refine g_nil ?_
              obtain rfl := Option.some.inj hm
              refine g_n_then ?_
              exact g_again' _ () rfl (h100) ((.cons rfl (.cons rfl (.cons rfl (.cons rfl (.cons rfl (.cons rfl (.cons rfl (.cons rfl (.cons rfl (.cons rfl (.cons rfl (.cons rfl (.cons rfl (.cons rfl (.cons rfl (.cons rfl (.cons rfl (.cons rfl (.cons rfl .nil)))))))))))))))))))) (fun w hh => hh.sel [1, 2, 3] [0, 1, 2, 3, 4, 5, 6] 0 (by decide) (by decide) rfl rfl rfl)
          ·replace hm := ifF (of_decide_eq_false h81) hm
           refine g_exit ?_
           refine g_x_then ?_
           refine g_x_then ?_
           refine g_x_blk ?_
           obtain rfl := Option.some.inj hm
           have hbo := h80 _ rfl
           subst hbo
           exact g_leaf (⟨s_2.many14, s_2.states12⟩ : m_laurellaw01_TideParted_C4) (⟨rfl, h79⟩) ((.cons rfl (.cons rfl (.cons rfl (.cons rfl (.cons rfl (.cons rfl (.cons rfl (.cons rfl (.cons rfl (.cons rfl (.cons rfl (.cons rfl (.cons rfl (.cons rfl .nil))))))))))))))) (fun w hh => hh)
         ·intro j_3 hj
          obtain ⟨h116, h78⟩ := hj
          subst h116
          replace hm := ocL h77
          refine g_n_blk ?_
          refine g_n_then ?_
          refine g_region ?_
          obtain ⟨t162, h117, hm⟩ := bindO hm
          refine g_val rfl rfl rfl (fun _ _ => v_addc h117 rfl rfl) ?_
          refine g_val rfl rfl rfl (fun _ _ => v_move rfl) ?_
          refine g_nil ?_
          obtain rfl := Option.some.inj hm
          refine g_n_then ?_
          exact g_again' _ () rfl (h78) ((.cons rfl (.cons rfl (.cons rfl (.cons rfl (.cons rfl (.cons rfl (.cons rfl (.cons rfl (.cons rfl (.cons rfl (.cons rfl (.cons rfl (.cons rfl (.cons rfl .nil))))))))))))))) (fun w hh => hh.sel [0, 1, 2] [0, 1, 2, 3, 4, 5, 6] 1 (by decide) (by decide) rfl rfl rfl)
       ·replace hm := ifF (of_decide_eq_false h71) hm
        refine g_exit ?_
        refine g_x_then ?_
        refine g_x_then ?_
        refine g_x_blk ?_
        obtain rfl := Option.some.inj hm
        have hbo := h70 _ rfl
        subst hbo
        exact g_leaf (⟨s_1.many14, s_1.states12⟩ : m_laurellaw01_TideParted_C3) (⟨rfl, h69⟩) ((.cons rfl (.cons rfl (.cons rfl (.cons rfl (.cons rfl (.cons rfl (.cons rfl (.cons rfl (.cons rfl (.cons rfl (.cons rfl .nil)))))))))))) (fun w hh => hh.sel [0, 1, 2] [0, 1, 3, 4, 5, 6] 0 (by decide) (by decide) rfl rfl rfl)
      ·intro j_2 hj
       obtain ⟨h118, h68⟩ := hj
       subst h118
       replace hm := ocL h67
       refine g_n_then ?_
       refine g_seq ?_
       refine g_seq ?_
       refine g_region ?_
       refine g_val rfl rfl rfl (fun _ _ => v_move rfl) ?_
       refine g_val rfl rfl rfl (fun w hh => v_load (Try.isAgg127 w) rfl (hh.cell 0 rfl rfl)) ?_
       refine g_val rfl rfl rfl (fun _ _ => v_move rfl) ?_
       obtain ⟨t166, h119, hm⟩ := bindO hm
       obtain ⟨L_7, h120, h121⟩ := (h68).row h119
       refine g_val rfl rfl rfl (fun w _ => v_ixA h120 (Try.runUnderlying127 w) (Try.sizeOf43 w) rfl rfl (vlen RwH h63 rfl) (vne h63)) ?_
       refine g_val rfl rfl rfl (fun w hh => v_ldE RwH 0 h120 (Try.isAgg43 w) rfl (hh.vseg 2 rfl h63) rfl (Nat.add_zero _).symm) ?_
       refine g_val rfl rfl rfl (fun w _ => v_lenN (vlen RI h121 rfl) (Try.runUnderlying43 w) rfl) ?_
       refine g_val rfl rfl rfl (fun _ _ => v_neq rfl rfl) ?_
       refine g_nil ?_
       refine g_n_then ?_
       refine g_cond rfl (fun h122 => ?_) (fun h122 => ?_)
       ·replace hm := ifF (of_ndec_true h122) hm
        refine g_seq ?_
        refine g_region ?_
        refine g_val rfl rfl rfl (fun _ _ => v_assign rfl) ?_
        refine g_nil ?_
        refine g_n_then ?_
        refine g_ret ?_
        refine g_r_then ?_
        refine g_r_blk ?_
        obtain rfl := Option.some.inj hm
        refine g_r_then ?_
        replace hm := ocR h39
        refine g_r_then ?_
        refine g_r_then ?_
        refine g_r_blk ?_
        obtain rfl := Option.some.inj hm
        have hbo := h36 _ rfl
        subst hbo
        refine g_r_then ?_
        replace hm := ocR h27
        refine g_r_then ?_
        obtain rfl := Option.some.inj hm
        refine g_done rfl (fun w hh => (.tmp rfl .nil)) (fun w hh => ⟨(), rfl, trivial, hh.sel [] [] 1 (by decide) (by decide) rfl rfl rfl⟩)
       ·replace hm := ifT (of_ndec_false h122) hm
        refine g_skip ?_
        refine g_n_then ?_
        refine g_seq ?_
        refine g_seq ?_
        refine g_region ?_
        refine g_val rfl rfl rfl (fun w hh => v_load (Try.isAgg127 w) rfl (hh.cell 0 rfl rfl)) ?_
        refine g_val rfl rfl rfl (fun _ _ => v_move rfl) ?_
        obtain ⟨t172, h123, hm⟩ := bindO hm
        obtain ⟨L_8, h124, h125⟩ := (h68).row h123
        refine g_val rfl rfl rfl (fun w _ => v_ixA h124 (Try.runUnderlying127 w) (Try.sizeOf43 w) rfl rfl (vlen RwH h63 rfl) (vne h63)) ?_
        refine g_val rfl rfl rfl (fun w hh => v_ldE RwH 0 h124 (Try.isAgg43 w) rfl (hh.vseg 2 rfl h63) rfl (Nat.add_zero _).symm) ?_
        refine g_val rfl rfl rfl (fun w _ => v_lenN (vlen RI h125 rfl) (Try.runUnderlying43 w) rfl) ?_
        refine g_val rfl rfl rfl (fun _ _ => v_move rfl) ?_
        refine g_nil ?_
        refine g_n_then ?_
        obtain ⟨o_7, h126, h127⟩ := bindO hm
        refine g_cut (ι := Unit) (fun j_4 => o_7 = .inl j_4) (fun j_4 => [(2, .int .u8 which2), (7, ptr b 0), (8, .int .i64 t51), (9, slv l_7.q l_7.n l_7.cap), (10, .int .i64 s.soonest10), (11, slv l_6.2.1.q l_6.2.1.n l_6.2.1.cap), (12, ptr b_1 0), (13, .int .i64 s.t62), (61, .int .i64 (t39.r0.floors.length : Int)), (62, .int .i64 s.t62)]) (fun j_4 => [(b_1, .cells #[slv l_6.2.2.v.q l_6.2.2.v.n l_6.2.2.v.cap] 127 (0, 0)), (b, .cells #[slv l_1.1.q l_1.1.n l_1.1.cap, .int .i64 t39.r0.wind.lo, .int .i64 t39.r0.wind.hi, slv l_1.2.1.q l_1.2.1.n l_1.2.1.cap, slv l_1.2.2.q l_1.2.2.n l_1.2.2.cap] 29 (0, 0)), (l, .cells #[.slice qa0 na0 ca0, .int .i64 t39.b0_1, .int .u32 t39.b0_2] 138 (0, 0))]) (fun j_4 => [⟨3, RI.enc o_2, l_7.sp, l_7.q, []⟩, ⟨3, RI.enc s.floods11, l_6.2.1.sp, l_6.2.1.q, []⟩, ⟨43, RwH.enc (l_6.2.2.rs.set (Int.toNat s.t62) (⟨L_3.q, L_3.n, L_3.cap, L_3.sp⟩ : VL)), l_6.2.2.v.sp, l_6.2.2.v.q, dbl 46 RI j_2.states12 (l_6.2.2.rs.set (Int.toNat s.t62) (⟨L_3.q, L_3.n, L_3.cap, L_3.sp⟩ : VL))⟩, ⟨68, RW.enc t39.r0.table, l_1.1.sp, l_1.1.q, []⟩, ⟨3, RI.enc t39.r0.floors, l_1.2.1.sp, l_1.2.1.q, []⟩, ⟨51, RS.enc t39.r0.sills, l_1.2.2.sp, l_1.2.2.q, []⟩]) ?_ ?_
        ·replace hm := h126
         refine g_block ?_
         refine g_loopF (ι := Unit) hm (fun s_4 l_19 => True) (fun s_4 l_19 => [(2, .int .u8 which2), (7, ptr b 0), (8, .int .i64 t51), (9, slv l_7.q l_7.n l_7.cap), (10, .int .i64 s.soonest10), (11, slv l_6.2.1.q l_6.2.1.n l_6.2.1.cap), (12, ptr b_1 0), (13, .int .i64 s.t62), (61, .int .i64 (t39.r0.floors.length : Int)), (62, .int .i64 s.t62), (173, slv L_8.q L_8.n L_8.cap), (174, .int .i64 (t172.length : Int)), (175, .int .i64 s_4)]) (fun s_4 l_19 => [(b_1, .cells #[slv l_6.2.2.v.q l_6.2.2.v.n l_6.2.2.v.cap] 127 (0, 0)), (b, .cells #[slv l_1.1.q l_1.1.n l_1.1.cap, .int .i64 t39.r0.wind.lo, .int .i64 t39.r0.wind.hi, slv l_1.2.1.q l_1.2.1.n l_1.2.1.cap, slv l_1.2.2.q l_1.2.2.n l_1.2.2.cap] 29 (0, 0)), (l, .cells #[.slice qa0 na0 ca0, .int .i64 t39.b0_1, .int .u32 t39.b0_2] 138 (0, 0))]) (fun s_4 l_19 => [⟨3, RI.enc o_2, l_7.sp, l_7.q, []⟩, ⟨3, RI.enc s.floods11, l_6.2.1.sp, l_6.2.1.q, []⟩, ⟨43, RwH.enc (l_6.2.2.rs.set (Int.toNat s.t62) (⟨L_3.q, L_3.n, L_3.cap, L_3.sp⟩ : VL)), l_6.2.2.v.sp, l_6.2.2.v.q, dbl 46 RI j_2.states12 (l_6.2.2.rs.set (Int.toNat s.t62) (⟨L_3.q, L_3.n, L_3.cap, L_3.sp⟩ : VL))⟩, ⟨68, RW.enc t39.r0.table, l_1.1.sp, l_1.1.q, []⟩, ⟨3, RI.enc t39.r0.floors, l_1.2.1.sp, l_1.2.1.q, []⟩, ⟨51, RS.enc t39.r0.sills, l_1.2.2.sp, l_1.2.2.q, []⟩]) () (trivial) ((.cons rfl (.cons rfl (.cons rfl (.cons rfl (.cons rfl (.cons rfl (.cons rfl (.cons rfl (.cons rfl (.cons rfl (.cons rfl (.cons rfl (.cons rfl .nil)))))))))))))) (fun w hh => hh) (fun s_4 l_19 r_5 hpl hm h128 => ?_)
         unfold m_laurellaw01_TideParted_L4 at hm
         refine g_seq ?_
         refine g_region ?_
         refine g_val rfl rfl rfl (fun _ _ => v_lss rfl rfl) ?_
         refine g_nil ?_
         refine g_n_then ?_
         refine g_seq ?_
         refine g_cond rfl (fun h129 => ?_) (fun h129 => ?_)
         ·replace hm := ifT (of_decide_eq_true h129) hm
          refine g_skip ?_
          refine g_n_then ?_
          refine g_seq ?_
          refine g_block ?_
          refine g_seq ?_
          refine g_region ?_
          refine g_val rfl rfl rfl (fun _ _ => v_move rfl) ?_
          obtain ⟨t178, h130, hm⟩ := bindO hm
          refine g_val rfl rfl rfl (fun w _ => v_ixA h130 (Try.runUnderlying43 w) (Try.sizeOf46 w) rfl rfl (vlen RI h125 rfl) (vne h125)) ?_
          refine g_val rfl rfl rfl (fun w hh => v_ldE RI 0 h130 (Try.isAgg46 w) rfl (hh.dseg 2 rfl h123 h124 h125) rfl (Nat.add_zero _).symm) ?_
          refine g_val rfl rfl rfl (fun _ _ => v_assign rfl) ?_
          refine g_val rfl rfl rfl (fun _ _ => v_assign rfl) ?_
          refine g_nil ?_
          refine g_n_then ?_
          refine g_seq ?_
          refine g_draw none (.hoist 0 (.hoist 1 (.free 3 (.free 5 (.one 2 (.free 4 (.one 6 (.free 7 (.free 8 (.free 9 (.free 10 (.free 11 .done)))))))))))) _ rfl (by decide +kernel) (fun w k hh => hh.draw k) (fun w hh => hh) ?_
          refine p_hoist rfl rfl rfl rfl (fun w hh => v_loadAgg (vs := [_, _, _, _, _]) (Try.isAgg29 w) (Try.sizeOf29 w) rfl (hh.cells 1 rfl rfl)) ?_
          refine p_hoist rfl rfl rfl rfl (fun w hh => v_loadAgg (vs := [_, _, _, _, _]) (Try.isAgg29 w) (Try.sizeOf29 w) rfl (hh.cells 1 rfl rfl)) ?_
          refine p_free rfl rfl rfl rfl (fun _ _ => v_move rfl) ?_
          refine p_free rfl rfl rfl rfl (fun _ _ => v_move rfl) ?_
          refine p_one rfl ?_
          obtain ⟨t183, h131, hm⟩ := bindO hm
          refine g_callH [] [] rfl rfl rfl rfl rfl rfl rfl (fun a w => Try.call26 a w) (fun w hh => c_laurellaw01_first t39.r0 (qA l_1.1.q) l_1.1.n l_1.1.cap (qA l_1.2.1.q) l_1.2.1.n l_1.2.1.cap (qA l_1.2.2.q) l_1.2.2.n l_1.2.2.cap w (HV.callee (S0 := []) (vs0 := []) hh (roC (hh.vsepA (S0 := []) (vs0 := []) 3 rfl h5) (roC (hh.vsepA (S0 := []) (vs0 := []) 4 rfl h6) (roC (hh.vsepA (S0 := []) (vs0 := []) 5 rfl h7) roN)))) (vlen RW h5 rfl) (AOK.q (vne h5)) (h5).hle (vlen RI h6 rfl) (AOK.q (vne h6)) (h6).hle (vlen RS h7 rfl) (AOK.q (vne h7)) (h7).hle h131) (fun l_20 h132 => ?_)
          refine p_next (fun w hh => hh) ?_
          obtain ⟨t185, h133, hm⟩ := bindO hm
          refine p_free rfl rfl rfl rfl (fun _ _ => v_addc h133 rfl rfl) ?_
          refine p_one rfl ?_
          obtain ⟨t187, h134, hm⟩ := bindO hm
          refine g_callH [] [] rfl rfl rfl rfl rfl rfl rfl (fun a w => Try.call46 a w) (fun w hh => cx_At t39.r0 t185 s.t62 l_1.1.q l_1.1.n l_1.1.cap l_1.2.1.q l_1.2.1.n l_1.2.1.cap l_1.2.2.q l_1.2.2.n l_1.2.2.cap w (HV.callee (S0 := []) (vs0 := []) hh (roC (hh.vsep (S0 := []) (vs0 := []) 3 rfl h5) (roC (hh.vsep (S0 := []) (vs0 := []) 4 rfl h6) (roC (hh.vsep (S0 := []) (vs0 := []) 5 rfl h7) roN)))) (vlen RW h5 rfl) (vne h5) (h5).hle (vlen RI h6 rfl) (vne h6) (h6).hle (vlen RS h7 rfl) (vne h7) (h7).hle h134) (fun l_21 h135 => ?_)
          refine p_next (fun w hh => hh) ?_
          refine p_free rfl rfl rfl rfl (fun _ _ => v_move rfl) ?_
          refine p_free rfl rfl rfl rfl (fun _ _ => v_extract rfl rfl) ?_
          refine p_free rfl rfl rfl rfl (fun _ _ => v_extract rfl rfl) ?_
          refine p_free rfl rfl rfl rfl (fun _ _ => v_assign rfl) ?_
          refine p_free rfl rfl rfl rfl (fun _ _ => v_assign rfl) ?_
          refine p_done ?_
          refine g_n_then ?_
          refine g_seq ?_
          obtain ⟨o_8, h136, h137⟩ := bindO hm
          refine g_cut (ι := Unit) (fun l_22 => True) (fun l_22 => [(2, .int .u8 which2), (7, ptr b 0), (8, .int .i64 t51), (9, slv l_7.q l_7.n l_7.cap), (10, .int .i64 s.soonest10), (11, slv l_6.2.1.q l_6.2.1.n l_6.2.1.cap), (12, ptr b_1 0), (13, .int .i64 s.t62), (61, .int .i64 (t39.r0.floors.length : Int)), (62, .int .i64 s.t62), (173, slv L_8.q L_8.n L_8.cap), (174, .int .i64 (t172.length : Int)), (175, .int .i64 s_4), (196, .bool o_8)]) (fun l_22 => [(b_1, .cells #[slv l_6.2.2.v.q l_6.2.2.v.n l_6.2.2.v.cap] 127 (0, 0)), (b, .cells #[slv l_1.1.q l_1.1.n l_1.1.cap, .int .i64 t39.r0.wind.lo, .int .i64 t39.r0.wind.hi, slv l_1.2.1.q l_1.2.1.n l_1.2.1.cap, slv l_1.2.2.q l_1.2.2.n l_1.2.2.cap] 29 (0, 0)), (l, .cells #[.slice qa0 na0 ca0, .int .i64 t39.b0_1, .int .u32 t39.b0_2] 138 (0, 0))]) (fun l_22 => [⟨3, RI.enc o_2, l_7.sp, l_7.q, []⟩, ⟨3, RI.enc s.floods11, l_6.2.1.sp, l_6.2.1.q, []⟩, ⟨43, RwH.enc (l_6.2.2.rs.set (Int.toNat s.t62) (⟨L_3.q, L_3.n, L_3.cap, L_3.sp⟩ : VL)), l_6.2.2.v.sp, l_6.2.2.v.q, dbl 46 RI j_2.states12 (l_6.2.2.rs.set (Int.toNat s.t62) (⟨L_3.q, L_3.n, L_3.cap, L_3.sp⟩ : VL))⟩, ⟨68, RW.enc t39.r0.table, l_1.1.sp, l_1.1.q, []⟩, ⟨3, RI.enc t39.r0.floors, l_1.2.1.sp, l_1.2.1.q, []⟩, ⟨51, RS.enc t39.r0.sills, l_1.2.2.sp, l_1.2.2.q, []⟩]) ?_ ?_
          ·replace hm := h136
           refine g_region ?_
           refine g_val rfl rfl rfl (fun _ _ => v_move rfl) ?_
           refine g_val rfl rfl rfl (fun _ _ => v_neq rfl rfl) ?_
           refine g_val rfl rfl rfl (fun _ _ => v_move rfl) ?_
           refine g_case 192 rfl (fun h138 => ?_) (fun h138 => ?_)
           ·replace hm := ifF (of_ndec_true h138) hm
            refine g_skipG rfl rfl rfl rfl rfl rfl ?_
            refine g_skipG rfl rfl rfl rfl rfl rfl ?_
            refine g_skipG rfl rfl rfl rfl rfl rfl ?_
            refine g_val rfl rfl rfl (fun _ _ => v_pickT rfl rfl) ?_
            refine g_nil ?_
            obtain rfl := Option.some.inj hm
            exact g_leaf () (trivial) ((.cons rfl (.cons rfl (.cons rfl (.cons rfl (.cons rfl (.cons rfl (.cons rfl (.cons rfl (.cons rfl (.cons rfl (.cons rfl (.cons rfl (.cons rfl (.cons rfl .nil))))))))))))))) (fun w hh => hh)
           ·replace hm := ifT (of_ndec_false h138) hm
            refine v_unguard rfl rfl ?_
            refine g_val rfl rfl rfl (fun _ _ => v_move rfl) ?_
            refine v_unguard rfl rfl ?_
            refine g_val rfl rfl rfl (fun _ _ => v_move rfl) ?_
            refine v_unguard rfl rfl ?_
            refine g_val rfl rfl rfl (fun _ _ => v_neq rfl rfl) ?_
            refine g_val rfl rfl rfl (fun _ _ => v_pickF rfl rfl) ?_
            refine g_nil ?_
            obtain rfl := Option.some.inj hm
            exact g_leaf () (trivial) ((.cons rfl (.cons rfl (.cons rfl (.cons rfl (.cons rfl (.cons rfl (.cons rfl (.cons rfl (.cons rfl (.cons rfl (.cons rfl (.cons rfl (.cons rfl (.cons rfl .nil))))))))))))))) (fun w hh => hh)
          ·intro l_22 hj
           replace hm := h137
           refine g_n_then ?_
           refine g_cond rfl (fun h139 => ?_) (fun h139 => ?_)
           ·replace hm := ifT (h139) hm
            refine g_seq ?_
            refine g_region ?_
            refine g_val rfl rfl rfl (fun _ _ => v_assign rfl) ?_
            refine g_nil ?_
            refine g_n_then ?_
            refine g_ret ?_
            refine g_r_blk ?_
            refine g_r_then ?_
            refine g_r_then ?_
            refine g_r_blk ?_
            obtain rfl := Option.some.inj hm
            have hbo := h128 _ rfl
            subst hbo
            refine g_r_then ?_
            replace hm := ocR h127
            refine g_r_then ?_
            refine g_r_blk ?_
            obtain rfl := Option.some.inj hm
            refine g_r_then ?_
            replace hm := ocR h39
            refine g_r_then ?_
            refine g_r_then ?_
            refine g_r_blk ?_
            obtain rfl := Option.some.inj hm
            have hbo := h36 _ rfl
            subst hbo
            refine g_r_then ?_
            replace hm := ocR h27
            refine g_r_then ?_
            obtain rfl := Option.some.inj hm
            refine g_done rfl (fun w hh => (.tmp rfl .nil)) (fun w hh => ⟨(), rfl, trivial, hh.sel [] [] 1 (by decide) (by decide) rfl rfl rfl⟩)
           ·replace hm := ifF ((fun hh => Bool.noConfusion ((h139).symm.trans hh))) hm
            refine g_skip ?_
            refine g_n_blk ?_
            refine g_n_then ?_
            refine g_region ?_
            obtain ⟨t197, h140, hm⟩ := bindO hm
            refine g_val rfl rfl rfl (fun _ _ => v_addc h140 rfl rfl) ?_
            refine g_val rfl rfl rfl (fun _ _ => v_move rfl) ?_
            refine g_nil ?_
            obtain rfl := Option.some.inj hm
            refine g_n_then ?_
            exact g_again' _ () rfl (trivial) ((.cons rfl (.cons rfl (.cons rfl (.cons rfl (.cons rfl (.cons rfl (.cons rfl (.cons rfl (.cons rfl (.cons rfl (.cons rfl (.cons rfl (.cons rfl .nil)))))))))))))) (fun w hh => hh)
         ·replace hm := ifF (of_decide_eq_false h129) hm
          refine g_exit ?_
          refine g_x_then ?_
          refine g_x_then ?_
          refine g_x_blk ?_
          obtain rfl := Option.some.inj hm
          have hbo := h128 _ rfl
          subst hbo
          exact g_leaf () (rfl) ((.cons rfl (.cons rfl (.cons rfl (.cons rfl (.cons rfl (.cons rfl (.cons rfl (.cons rfl (.cons rfl (.cons rfl .nil))))))))))) (fun w hh => hh)
        ·intro j_4 hj
         have h141 := hj
         subst h141
         replace hm := ocL h127
         refine g_n_then ?_
         refine g_seq ?_
         refine g_region ?_
         refine g_val rfl rfl rfl (fun w hh => v_loadAgg (vs := [_, _, _, _, _]) (Try.isAgg29 w) (Try.sizeOf29 w) rfl (hh.cells 1 rfl rfl)) ?_
         refine g_val rfl rfl rfl (fun _ _ => v_move rfl) ?_
         refine g_val rfl rfl rfl (fun _ _ => v_move rfl) ?_
         obtain ⟨t202, h142, hm⟩ := bindO hm
         refine g_callH [] [] rfl rfl rfl rfl rfl rfl rfl (fun a w => Try.call41 a w) (fun w hh => cx_Turn t39.r0 s.t62 t51 l_1.1.q l_1.1.n l_1.1.cap l_1.2.1.q l_1.2.1.n l_1.2.1.cap l_1.2.2.q l_1.2.2.n l_1.2.2.cap w (HV.callee (S0 := []) (vs0 := []) hh (roC (hh.vsep (S0 := []) (vs0 := []) 3 rfl h5) (roC (hh.vsep (S0 := []) (vs0 := []) 4 rfl h6) (roC (hh.vsep (S0 := []) (vs0 := []) 5 rfl h7) roN)))) (vlen RW h5 rfl) (vne h5) (h5).hle (vlen RI h6 rfl) (vne h6) (h6).hle (vlen RS h7 rfl) (vne h7) (h7).hle h142) (fun l_23 h143 => ?_)
         refine g_val rfl rfl rfl (fun _ _ => v_move rfl) ?_
         refine g_val rfl rfl rfl (fun _ _ => v_extract rfl rfl) ?_
         refine g_val rfl rfl rfl (fun _ _ => v_extract rfl rfl) ?_
         refine g_val rfl rfl rfl (fun _ _ => v_assign rfl) ?_
         refine g_val rfl rfl rfl (fun _ _ => v_assign rfl) ?_
         refine g_nil ?_
         refine g_n_then ?_
         refine g_seq ?_
         refine g_seq ?_
         refine g_draw none (.hoist 0 (.free 1 (.free 2 (.hoist 3 (.free 4 (.hoist 5 (.one 6 (.free 7 (.free 8 (.hoist 9 (.free 10 .done))))))))))) _ rfl (by decide +kernel) (fun w k hh => hh.draw k) (fun w hh => hh) ?_
         refine p_hoist rfl rfl rfl rfl (fun w hh => v_load (Try.isAgg127 w) rfl (hh.cell 0 rfl rfl)) ?_
         refine p_free rfl rfl rfl rfl (fun _ _ => v_move rfl) ?_
         obtain ⟨t207, h144, hm⟩ := bindO hm
         obtain ⟨L_9, h145, h146⟩ := (h68).row h144
         refine p_free rfl rfl rfl rfl (fun w _ => v_ixA h145 (Try.runUnderlying127 w) (Try.sizeOf43 w) rfl rfl (vlen RwH h63 rfl) (vne h63)) ?_
         refine p_hoist rfl rfl rfl rfl (fun w hh => v_ldE RwH 0 h145 (Try.isAgg43 w) rfl (hh.vseg 2 rfl h63) rfl (Nat.add_zero _).symm) ?_
         refine p_free rfl rfl rfl rfl (fun _ _ => v_move rfl) ?_
         refine p_hoist rfl rfl rfl rfl (fun w hh => v_loadAgg (vs := [_, _, _, _, _]) (Try.isAgg29 w) (Try.sizeOf29 w) rfl (hh.cells 1 rfl rfl)) ?_
         refine p_one rfl ?_
         obtain ⟨t211, h147, hm⟩ := bindO hm
         refine g_callH [] [] rfl rfl rfl rfl rfl rfl rfl (fun a w => Try.call26 a w) (fun w hh => c_laurellaw01_first t39.r0 (qA l_1.1.q) l_1.1.n l_1.1.cap (qA l_1.2.1.q) l_1.2.1.n l_1.2.1.cap (qA l_1.2.2.q) l_1.2.2.n l_1.2.2.cap w (HV.callee (S0 := []) (vs0 := []) hh (roC (hh.vsepA (S0 := []) (vs0 := []) 3 rfl h5) (roC (hh.vsepA (S0 := []) (vs0 := []) 4 rfl h6) (roC (hh.vsepA (S0 := []) (vs0 := []) 5 rfl h7) roN)))) (vlen RW h5 rfl) (AOK.q (vne h5)) (h5).hle (vlen RI h6 rfl) (AOK.q (vne h6)) (h6).hle (vlen RS h7 rfl) (AOK.q (vne h7)) (h7).hle h147) (fun l_24 h148 => ?_)
         refine p_next (fun w hh => hh) ?_
         obtain ⟨t212, h149, hm⟩ := bindO hm
         refine p_free rfl rfl rfl rfl (fun _ _ => v_subc h149 rfl rfl) ?_
         obtain ⟨t213, h150, hm⟩ := bindO hm
         refine p_free rfl rfl rfl rfl (fun w _ => v_ixA h150 (Try.runUnderlying43 w) (Try.sizeOf46 w) rfl rfl (vlen RI h146 rfl) (vne h146)) ?_
         refine p_hoist rfl rfl rfl rfl (fun w hh => v_ldE RI 0 h150 (Try.isAgg46 w) rfl (hh.dseg 2 rfl h144 h145 h146) rfl (Nat.add_zero _).symm) ?_
         refine p_free rfl rfl rfl rfl (fun _ _ => v_neq rfl rfl) ?_
         refine p_done ?_
         refine g_n_then ?_
         refine g_cond rfl (fun h151 => ?_) (fun h151 => ?_)
         ·replace hm := ifF (of_ndec_true h151) hm
          refine g_seq ?_
          refine g_seq ?_
          refine g_region ?_
          refine g_val rfl rfl rfl (fun _ _ => v_move rfl) ?_
          refine g_val rfl rfl rfl (fun _ _ => v_neq rfl rfl) ?_
          refine g_nil ?_
          refine g_n_then ?_
          refine g_cond rfl (fun h152 => ?_) (fun h152 => ?_)
          ·replace hm := ifF (of_ndec_true h152) hm
           refine g_seq ?_
           refine g_region ?_
           refine g_val rfl rfl rfl (fun _ _ => v_assign rfl) ?_
           refine g_nil ?_
           refine g_n_then ?_
           refine g_ret ?_
           refine g_r_then ?_
           refine g_r_then ?_
           refine g_r_blk ?_
           obtain rfl := Option.some.inj hm
           refine g_r_then ?_
           replace hm := ocR h39
           refine g_r_then ?_
           refine g_r_then ?_
           refine g_r_blk ?_
           obtain rfl := Option.some.inj hm
           have hbo := h36 _ rfl
           subst hbo
           refine g_r_then ?_
           replace hm := ocR h27
           refine g_r_then ?_
           obtain rfl := Option.some.inj hm
           refine g_done rfl (fun w hh => (.tmp rfl .nil)) (fun w hh => ⟨(), rfl, trivial, hh.sel [] [] 1 (by decide) (by decide) rfl rfl rfl⟩)
          ·replace hm := ifT (of_ndec_false h152) hm
           refine g_skip ?_
           refine g_n_then ?_
           refine g_exit ?_
           refine g_x_then ?_
           refine g_x_blk ?_
           obtain rfl := Option.some.inj hm
           exact g_leaf ((⟨s.soonest10, o_2, s.floods11, j_2.states12⟩ : m_laurellaw01_TideParted_C1), (l_7, l_6.2.1, ⟨⟨l_6.2.2.v.q, l_6.2.2.v.n, l_6.2.2.v.cap, l_6.2.2.v.sp⟩, (l_6.2.2.rs.set (Int.toNat s.t62) (⟨L_3.q, L_3.n, L_3.cap, L_3.sp⟩ : VL))⟩)) (⟨rfl, h46, h33, h63, h68⟩) ((.cons rfl (.cons rfl (.cons rfl (.cons rfl (.cons rfl (.cons rfl (.cons rfl (.cons rfl (.cons rfl .nil)))))))))) (fun w hh => hh)
         ·replace hm := ifT (of_ndec_false h151) hm
          refine g_skip ?_
          refine g_n_then ?_
          refine g_seq ?_
          refine g_seq ?_
          obtain ⟨o_9, h153, h154⟩ := bindO hm
          refine g_cut (ι := Unit) (fun l_25 => True) (fun l_25 => [(2, .int .u8 which2), (7, ptr b 0), (8, .int .i64 t51), (9, slv l_7.q l_7.n l_7.cap), (10, .int .i64 s.soonest10), (11, slv l_6.2.1.q l_6.2.1.n l_6.2.1.cap), (12, ptr b_1 0), (13, .int .i64 s.t62), (26, .int .i64 t202.1), (61, .int .i64 (t39.r0.floors.length : Int)), (62, .int .i64 s.t62), (250, .bool o_9)]) (fun l_25 => [(b_1, .cells #[slv l_6.2.2.v.q l_6.2.2.v.n l_6.2.2.v.cap] 127 (0, 0)), (b, .cells #[slv l_1.1.q l_1.1.n l_1.1.cap, .int .i64 t39.r0.wind.lo, .int .i64 t39.r0.wind.hi, slv l_1.2.1.q l_1.2.1.n l_1.2.1.cap, slv l_1.2.2.q l_1.2.2.n l_1.2.2.cap] 29 (0, 0)), (l, .cells #[.slice qa0 na0 ca0, .int .i64 t39.b0_1, .int .u32 t39.b0_2] 138 (0, 0))]) (fun l_25 => [⟨3, RI.enc o_2, l_7.sp, l_7.q, []⟩, ⟨3, RI.enc s.floods11, l_6.2.1.sp, l_6.2.1.q, []⟩, ⟨43, RwH.enc (l_6.2.2.rs.set (Int.toNat s.t62) (⟨L_3.q, L_3.n, L_3.cap, L_3.sp⟩ : VL)), l_6.2.2.v.sp, l_6.2.2.v.q, dbl 46 RI j_2.states12 (l_6.2.2.rs.set (Int.toNat s.t62) (⟨L_3.q, L_3.n, L_3.cap, L_3.sp⟩ : VL))⟩, ⟨68, RW.enc t39.r0.table, l_1.1.sp, l_1.1.q, []⟩, ⟨3, RI.enc t39.r0.floors, l_1.2.1.sp, l_1.2.1.q, []⟩, ⟨51, RS.enc t39.r0.sills, l_1.2.2.sp, l_1.2.2.q, []⟩]) ?_ ?_
          ·replace hm := h153
           refine g_draw none (.free 0 (.free 1 (.free 2 (.free 3 (.free 4 (.free 5 (.free 6 (.free 7 (.free 8 (.hoist 9 (.one 10 (.free 11 (.free 12 (.free 13 (.free 14 (.hoist 15 (.one 16 (.free 17 (.free 18 (.hoist 19 (.free 20 (.free 21 (.hoist 22 (.free 23 (.free 24 (.hoist 25 (.one 26 (.free 27 (.free 28 (.hoist 29 (.free 30 (.free 31 (.free 32 .done))))))))))))))))))))))))))))))))) _ rfl (by decide +kernel) (fun w k hh => hh.draw k) (fun w hh => hh) ?_
           refine p_free rfl rfl rfl rfl (fun _ _ => v_move rfl) ?_
           refine p_free rfl rfl rfl rfl (fun _ _ => v_neq rfl rfl) ?_
           refine p_free rfl rfl rfl rfl (fun _ _ => v_move rfl) ?_
           refine g_case 220 rfl (fun h155 => ?_) (fun h155 => ?_)
           ·replace hm := ifF (of_ndec_true h155) hm
            refine p_skipF rfl rfl rfl rfl rfl rfl rfl ?_
            refine p_skipF rfl rfl rfl rfl rfl rfl rfl ?_
            refine p_skipF rfl rfl rfl rfl rfl rfl rfl ?_
            refine p_free rfl rfl rfl rfl (fun _ _ => v_pickT rfl rfl) ?_
            refine p_free rfl rfl rfl rfl (fun _ _ => v_move rfl) ?_
            refine p_skipF rfl rfl rfl rfl rfl rfl rfl ?_
            refine p_skip rfl rfl rfl rfl rfl rfl rfl ?_
            refine p_one rfl ?_
            refine g_skipG rfl rfl rfl rfl rfl rfl ?_
            refine p_next (fun w hh => hh) ?_
            refine p_skipF rfl rfl rfl rfl rfl rfl rfl ?_
            refine p_free rfl rfl rfl rfl (fun _ _ => v_pickT rfl rfl) ?_
            refine p_free rfl rfl rfl rfl (fun _ _ => v_move rfl) ?_
            refine p_skipF rfl rfl rfl rfl rfl rfl rfl ?_
            refine p_skip rfl rfl rfl rfl rfl rfl rfl ?_
            refine p_one rfl ?_
            refine g_skipG rfl rfl rfl rfl rfl rfl ?_
            refine p_next (fun w hh => hh) ?_
            refine p_skipF rfl rfl rfl rfl rfl rfl rfl ?_
            refine p_skipF rfl rfl rfl rfl rfl rfl rfl ?_
            refine p_skipU_ rfl rfl rfl rfl rfl rfl ?_
            refine p_skipUF_ rfl rfl rfl rfl rfl rfl ?_
            refine p_skipUF_ rfl rfl rfl rfl rfl rfl ?_
            refine p_skipU_ rfl rfl rfl rfl rfl rfl ?_
            refine p_skipUF_ rfl rfl rfl rfl rfl rfl ?_
            refine p_skipUF_ rfl rfl rfl rfl rfl rfl ?_
            refine p_skipU_ rfl rfl rfl rfl rfl rfl ?_
            refine p_one rfl ?_
            refine g_skipU' rfl rfl rfl rfl rfl ?_
            refine p_next (fun w hh => hh) ?_
            refine p_skipUF_ rfl rfl rfl rfl rfl rfl ?_
            refine p_skipUF_ rfl rfl rfl rfl rfl rfl ?_
            refine p_skipU_ rfl rfl rfl rfl rfl rfl ?_
            refine p_skipUF_ rfl rfl rfl rfl rfl rfl ?_
            refine p_skipF rfl rfl rfl rfl rfl rfl rfl ?_
            refine p_free rfl rfl rfl rfl (fun _ _ => v_pickT rfl rfl) ?_
            refine p_done ?_
            obtain rfl := Option.some.inj hm
            exact g_leaf () (trivial) ((.cons rfl (.cons rfl (.cons rfl (.cons rfl (.cons rfl (.cons rfl (.cons rfl (.cons rfl (.cons rfl (.cons rfl (.cons rfl (.cons rfl .nil))))))))))))) (fun w hh => hh)
           ·replace hm := ifT (of_ndec_false h155) hm
            refine p_freeG rfl rfl rfl rfl rfl rfl (fun _ _ => v_move rfl) ?_
            refine p_freeG rfl rfl rfl rfl rfl rfl (fun _ _ => v_move rfl) ?_
            refine p_freeG rfl rfl rfl rfl rfl rfl (fun _ _ => v_lss rfl rfl) ?_
            refine p_free rfl rfl rfl rfl (fun _ _ => v_pickF rfl rfl) ?_
            refine p_free rfl rfl rfl rfl (fun _ _ => v_move rfl) ?_
            refine g_case 225 rfl (fun h156 => ?_) (fun h156 => ?_)
            ·replace hm := ifT (of_decide_eq_true h156) hm
             refine p_skipF rfl rfl rfl rfl rfl rfl rfl ?_
             refine p_skip rfl rfl rfl rfl rfl rfl rfl ?_
             refine p_one rfl ?_
             refine g_skipG rfl rfl rfl rfl rfl rfl ?_
             refine p_next (fun w hh => hh) ?_
             refine p_skipF rfl rfl rfl rfl rfl rfl rfl ?_
             refine p_free rfl rfl rfl rfl (fun _ _ => v_pickT rfl rfl) ?_
             refine p_free rfl rfl rfl rfl (fun _ _ => v_move rfl) ?_
             refine p_skipF rfl rfl rfl rfl rfl rfl rfl ?_
             refine p_skip rfl rfl rfl rfl rfl rfl rfl ?_
             refine p_one rfl ?_
             refine g_skipG rfl rfl rfl rfl rfl rfl ?_
             refine p_next (fun w hh => hh) ?_
             refine p_skipF rfl rfl rfl rfl rfl rfl rfl ?_
             refine p_skipF rfl rfl rfl rfl rfl rfl rfl ?_
             refine p_skipU_ rfl rfl rfl rfl rfl rfl ?_
             refine p_skipUF_ rfl rfl rfl rfl rfl rfl ?_
             refine p_skipUF_ rfl rfl rfl rfl rfl rfl ?_
             refine p_skipU_ rfl rfl rfl rfl rfl rfl ?_
             refine p_skipUF_ rfl rfl rfl rfl rfl rfl ?_
             refine p_skipUF_ rfl rfl rfl rfl rfl rfl ?_
             refine p_skipU_ rfl rfl rfl rfl rfl rfl ?_
             refine p_one rfl ?_
             refine g_skipU' rfl rfl rfl rfl rfl ?_
             refine p_next (fun w hh => hh) ?_
             refine p_skipUF_ rfl rfl rfl rfl rfl rfl ?_
             refine p_skipUF_ rfl rfl rfl rfl rfl rfl ?_
             refine p_skipU_ rfl rfl rfl rfl rfl rfl ?_
             refine p_skipUF_ rfl rfl rfl rfl rfl rfl ?_
             refine p_skipF rfl rfl rfl rfl rfl rfl rfl ?_
             refine p_free rfl rfl rfl rfl (fun _ _ => v_pickT rfl rfl) ?_
             refine p_done ?_
             obtain rfl := Option.some.inj hm
             exact g_leaf () (trivial) ((.cons rfl (.cons rfl (.cons rfl (.cons rfl (.cons rfl (.cons rfl (.cons rfl (.cons rfl (.cons rfl (.cons rfl (.cons rfl (.cons rfl .nil))))))))))))) (fun w hh => hh)
            ·replace hm := ifF (of_decide_eq_false h156) hm
             refine p_freeG rfl rfl rfl rfl rfl rfl (fun _ _ => v_move rfl) ?_
             refine p_hoistG rfl rfl rfl rfl rfl rfl (fun w hh => v_loadAgg (vs := [_, _, _, _, _]) (Try.isAgg29 w) (Try.sizeOf29 w) rfl (hh.cells 1 rfl rfl)) ?_
             refine p_one rfl ?_
             refine v_unguard rfl rfl ?_
             obtain ⟨t228, h157, hm⟩ := bindO hm
             refine g_callH [] [] rfl rfl rfl rfl rfl rfl rfl (fun a w => Try.call27 a w) (fun w hh => c_laurellaw01_last t39.r0 (qA l_1.1.q) l_1.1.n l_1.1.cap (qA l_1.2.1.q) l_1.2.1.n l_1.2.1.cap (qA l_1.2.2.q) l_1.2.2.n l_1.2.2.cap w (HV.callee (S0 := []) (vs0 := []) hh (roC (hh.vsepA (S0 := []) (vs0 := []) 3 rfl h5) (roC (hh.vsepA (S0 := []) (vs0 := []) 4 rfl h6) (roC (hh.vsepA (S0 := []) (vs0 := []) 5 rfl h7) roN)))) (vlen RW h5 rfl) (AOK.q (vne h5)) (h5).hle (vlen RI h6 rfl) (AOK.q (vne h6)) (h6).hle (vlen RS h7 rfl) (AOK.q (vne h7)) (h7).hle h157) (fun l_26 h158 => ?_)
             refine p_next (fun w hh => hh) ?_
             refine p_freeG rfl rfl rfl rfl rfl rfl (fun _ _ => v_gtr rfl rfl) ?_
             refine p_free rfl rfl rfl rfl (fun _ _ => v_pickF rfl rfl) ?_
             refine p_free rfl rfl rfl rfl (fun _ _ => v_move rfl) ?_
             refine g_case 231 rfl (fun h159 => ?_) (fun h159 => ?_)
             ·replace hm := ifT (of_decide_eq_true h159) hm
              refine p_skipF rfl rfl rfl rfl rfl rfl rfl ?_
              refine p_skip rfl rfl rfl rfl rfl rfl rfl ?_
              refine p_one rfl ?_
              refine g_skipG rfl rfl rfl rfl rfl rfl ?_
              refine p_next (fun w hh => hh) ?_
              refine p_skipF rfl rfl rfl rfl rfl rfl rfl ?_
              refine p_skipF rfl rfl rfl rfl rfl rfl rfl ?_
              refine p_skipU_ rfl rfl rfl rfl rfl rfl ?_
              refine p_skipUF_ rfl rfl rfl rfl rfl rfl ?_
              refine p_skipUF_ rfl rfl rfl rfl rfl rfl ?_
              refine p_skipU_ rfl rfl rfl rfl rfl rfl ?_
              refine p_skipUF_ rfl rfl rfl rfl rfl rfl ?_
              refine p_skipUF_ rfl rfl rfl rfl rfl rfl ?_
              refine p_skipU_ rfl rfl rfl rfl rfl rfl ?_
              refine p_one rfl ?_
              refine g_skipU' rfl rfl rfl rfl rfl ?_
              refine p_next (fun w hh => hh) ?_
              refine p_skipUF_ rfl rfl rfl rfl rfl rfl ?_
              refine p_skipUF_ rfl rfl rfl rfl rfl rfl ?_
              refine p_skipU_ rfl rfl rfl rfl rfl rfl ?_
              refine p_skipUF_ rfl rfl rfl rfl rfl rfl ?_
              refine p_skipF rfl rfl rfl rfl rfl rfl rfl ?_
              refine p_free rfl rfl rfl rfl (fun _ _ => v_pickT rfl rfl) ?_
              refine p_done ?_
              obtain rfl := Option.some.inj hm
              exact g_leaf () (trivial) ((.cons rfl (.cons rfl (.cons rfl (.cons rfl (.cons rfl (.cons rfl (.cons rfl (.cons rfl (.cons rfl (.cons rfl (.cons rfl (.cons rfl .nil))))))))))))) (fun w hh => hh)
             ·replace hm := ifF (of_decide_eq_false h159) hm
              refine p_freeG rfl rfl rfl rfl rfl rfl (fun _ _ => v_move rfl) ?_
              refine p_hoistG rfl rfl rfl rfl rfl rfl (fun w hh => v_loadAgg (vs := [_, _, _, _, _]) (Try.isAgg29 w) (Try.sizeOf29 w) rfl (hh.cells 1 rfl rfl)) ?_
              refine p_one rfl ?_
              refine v_unguard rfl rfl ?_
              obtain ⟨t234, h160, hm⟩ := bindO hm
              refine g_callH [] [] rfl rfl rfl rfl rfl rfl rfl (fun a w => Try.call27 a w) (fun w hh => c_laurellaw01_last t39.r0 (qA l_1.1.q) l_1.1.n l_1.1.cap (qA l_1.2.1.q) l_1.2.1.n l_1.2.1.cap (qA l_1.2.2.q) l_1.2.2.n l_1.2.2.cap w (HV.callee (S0 := []) (vs0 := []) hh (roC (hh.vsepA (S0 := []) (vs0 := []) 3 rfl h5) (roC (hh.vsepA (S0 := []) (vs0 := []) 4 rfl h6) (roC (hh.vsepA (S0 := []) (vs0 := []) 5 rfl h7) roN)))) (vlen RW h5 rfl) (AOK.q (vne h5)) (h5).hle (vlen RI h6 rfl) (AOK.q (vne h6)) (h6).hle (vlen RS h7 rfl) (AOK.q (vne h7)) (h7).hle h160) (fun l_27 h161 => ?_)
              refine p_next (fun w hh => hh) ?_
              refine p_freeG rfl rfl rfl rfl rfl rfl (fun _ _ => v_lss rfl rfl) ?_
              refine p_freeG rfl rfl rfl rfl rfl rfl (fun _ _ => v_move rfl) ?_
              refine g_case 236 rfl (fun h162 => ?_) (fun h162 => ?_)
              ·replace hm := ifT (of_decide_eq_true h162) hm
               refine p_hoistG rfl rfl rfl rfl rfl rfl (fun w hh => v_load (Try.isAgg127 w) rfl (hh.cell 0 rfl rfl)) ?_
               refine p_freeG rfl rfl rfl rfl rfl rfl (fun _ _ => v_move rfl) ?_
               obtain ⟨t239, h163, hm⟩ := bindO hm
               obtain ⟨L_10, h164, h165⟩ := (h68).row h163
               refine p_freeG rfl rfl rfl rfl rfl rfl (fun w _ => v_ixA h164 (Try.runUnderlying127 w) (Try.sizeOf43 w) rfl rfl (vlen RwH h63 rfl) (vne h63)) ?_
               refine p_hoistG rfl rfl rfl rfl rfl rfl (fun w hh => v_ldE RwH 0 h164 (Try.isAgg43 w) rfl (hh.vseg 2 rfl h63) rfl (Nat.add_zero _).symm) ?_
               refine p_freeG rfl rfl rfl rfl rfl rfl (fun _ _ => v_move rfl) ?_
               obtain ⟨t242, h166, hm⟩ := bindO hm
               refine p_freeG rfl rfl rfl rfl rfl rfl (fun _ _ => v_addc h166 rfl rfl) ?_
               refine p_hoistG rfl rfl rfl rfl rfl rfl (fun w hh => v_loadAgg (vs := [_, _, _, _, _]) (Try.isAgg29 w) (Try.sizeOf29 w) rfl (hh.cells 1 rfl rfl)) ?_
               refine p_one rfl ?_
               refine v_unguard rfl rfl ?_
               obtain ⟨t244, h167, hm⟩ := bindO hm
               refine g_callH [] [] rfl rfl rfl rfl rfl rfl rfl (fun a w => Try.call26 a w) (fun w hh => c_laurellaw01_first t39.r0 (qA l_1.1.q) l_1.1.n l_1.1.cap (qA l_1.2.1.q) l_1.2.1.n l_1.2.1.cap (qA l_1.2.2.q) l_1.2.2.n l_1.2.2.cap w (HV.callee (S0 := []) (vs0 := []) hh (roC (hh.vsepA (S0 := []) (vs0 := []) 3 rfl h5) (roC (hh.vsepA (S0 := []) (vs0 := []) 4 rfl h6) (roC (hh.vsepA (S0 := []) (vs0 := []) 5 rfl h7) roN)))) (vlen RW h5 rfl) (AOK.q (vne h5)) (h5).hle (vlen RI h6 rfl) (AOK.q (vne h6)) (h6).hle (vlen RS h7 rfl) (AOK.q (vne h7)) (h7).hle h167) (fun l_28 h168 => ?_)
               refine p_next (fun w hh => hh) ?_
               obtain ⟨t245, h169, hm⟩ := bindO hm
               refine p_freeG rfl rfl rfl rfl rfl rfl (fun _ _ => v_subc h169 rfl rfl) ?_
               obtain ⟨t246, h170, hm⟩ := bindO hm
               refine p_freeG rfl rfl rfl rfl rfl rfl (fun w _ => v_ixA h170 (Try.runUnderlying43 w) (Try.sizeOf46 w) rfl rfl (vlen RI h165 rfl) (vne h165)) ?_
               refine p_hoistG rfl rfl rfl rfl rfl rfl (fun w hh => v_ldE RI 0 h170 (Try.isAgg46 w) rfl (hh.dseg 2 rfl h163 h164 h165) rfl (Nat.add_zero _).symm) ?_
               refine p_freeG rfl rfl rfl rfl rfl rfl (fun _ _ => v_eql rfl rfl) ?_
               refine p_freeG rfl rfl rfl rfl rfl rfl (fun _ _ => v_pickT rfl rfl) ?_
               refine p_free rfl rfl rfl rfl (fun _ _ => v_pickF rfl rfl) ?_
               refine p_done ?_
               obtain rfl := Option.some.inj hm
               exact g_leaf () (trivial) ((.cons rfl (.cons rfl (.cons rfl (.cons rfl (.cons rfl (.cons rfl (.cons rfl (.cons rfl (.cons rfl (.cons rfl (.cons rfl (.cons rfl .nil))))))))))))) (fun w hh => hh)
              ·replace hm := ifF (of_decide_eq_false h162) hm
               refine p_skip rfl rfl rfl rfl rfl rfl rfl ?_
               refine p_skipF rfl rfl rfl rfl rfl rfl rfl ?_
               refine p_skipF rfl rfl rfl rfl rfl rfl rfl ?_
               refine p_skip rfl rfl rfl rfl rfl rfl rfl ?_
               refine p_skipF rfl rfl rfl rfl rfl rfl rfl ?_
               refine p_skipF rfl rfl rfl rfl rfl rfl rfl ?_
               refine p_skip rfl rfl rfl rfl rfl rfl rfl ?_
               refine p_one rfl ?_
               refine g_skipG rfl rfl rfl rfl rfl rfl ?_
               refine p_next (fun w hh => hh) ?_
               refine p_skipF rfl rfl rfl rfl rfl rfl rfl ?_
               refine p_skipF rfl rfl rfl rfl rfl rfl rfl ?_
               refine p_skip rfl rfl rfl rfl rfl rfl rfl ?_
               refine p_skipF rfl rfl rfl rfl rfl rfl rfl ?_
               refine p_freeG rfl rfl rfl rfl rfl rfl (fun _ _ => v_pickF rfl rfl) ?_
               refine p_free rfl rfl rfl rfl (fun _ _ => v_pickF rfl rfl) ?_
               refine p_done ?_
               obtain rfl := Option.some.inj hm
               exact g_leaf () (trivial) ((.cons rfl (.cons rfl (.cons rfl (.cons rfl (.cons rfl (.cons rfl (.cons rfl (.cons rfl (.cons rfl (.cons rfl (.cons rfl (.cons rfl .nil))))))))))))) (fun w hh => hh)
          ·intro l_25 hj
           replace hm := h154
           refine g_n_then ?_
           refine g_cond rfl (fun h171 => ?_) (fun h171 => ?_)
           ·replace hm := ifT (h171) hm
            refine g_seq ?_
            refine g_region ?_
            refine g_val rfl rfl rfl (fun _ _ => v_assign rfl) ?_
            refine g_nil ?_
            refine g_n_then ?_
            refine g_ret ?_
            refine g_r_then ?_
            refine g_r_blk ?_
            obtain rfl := Option.some.inj hm
            refine g_r_then ?_
            replace hm := ocR h39
            refine g_r_then ?_
            refine g_r_then ?_
            refine g_r_blk ?_
            obtain rfl := Option.some.inj hm
            have hbo := h36 _ rfl
            subst hbo
            refine g_r_then ?_
            replace hm := ocR h27
            refine g_r_then ?_
            obtain rfl := Option.some.inj hm
            refine g_done rfl (fun w hh => (.tmp rfl .nil)) (fun w hh => ⟨(), rfl, trivial, hh.sel [] [] 1 (by decide) (by decide) rfl rfl rfl⟩)
           ·replace hm := ifF ((fun hh => Bool.noConfusion ((h171).symm.trans hh))) hm
            refine g_skip ?_
            refine g_n_then ?_
            refine g_seq ?_
            refine g_seq ?_
            refine g_region ?_
            refine g_val rfl rfl rfl (fun _ _ => v_move rfl) ?_
            refine g_val rfl rfl rfl (fun _ _ => v_assign rfl) ?_
            refine g_nil ?_
            refine g_n_then ?_
            obtain ⟨o_10, h172, h173⟩ := bindO hm
            refine g_cut (ι := Unit) (fun j_5 => o_10 = .inl j_5) (fun j_5 => [(2, .int .u8 which2), (7, ptr b 0), (8, .int .i64 t51), (9, slv l_7.q l_7.n l_7.cap), (10, .int .i64 s.soonest10), (11, slv l_6.2.1.q l_6.2.1.n l_6.2.1.cap), (12, ptr b_1 0), (13, .int .i64 s.t62), (26, .int .i64 t202.1), (61, .int .i64 (t39.r0.floors.length : Int)), (62, .int .i64 s.t62)]) (fun j_5 => [(b_1, .cells #[slv l_6.2.2.v.q l_6.2.2.v.n l_6.2.2.v.cap] 127 (0, 0)), (b, .cells #[slv l_1.1.q l_1.1.n l_1.1.cap, .int .i64 t39.r0.wind.lo, .int .i64 t39.r0.wind.hi, slv l_1.2.1.q l_1.2.1.n l_1.2.1.cap, slv l_1.2.2.q l_1.2.2.n l_1.2.2.cap] 29 (0, 0)), (l, .cells #[.slice qa0 na0 ca0, .int .i64 t39.b0_1, .int .u32 t39.b0_2] 138 (0, 0))]) (fun j_5 => [⟨3, RI.enc o_2, l_7.sp, l_7.q, []⟩, ⟨3, RI.enc s.floods11, l_6.2.1.sp, l_6.2.1.q, []⟩, ⟨43, RwH.enc (l_6.2.2.rs.set (Int.toNat s.t62) (⟨L_3.q, L_3.n, L_3.cap, L_3.sp⟩ : VL)), l_6.2.2.v.sp, l_6.2.2.v.q, dbl 46 RI j_2.states12 (l_6.2.2.rs.set (Int.toNat s.t62) (⟨L_3.q, L_3.n, L_3.cap, L_3.sp⟩ : VL))⟩, ⟨68, RW.enc t39.r0.table, l_1.1.sp, l_1.1.q, []⟩, ⟨3, RI.enc t39.r0.floors, l_1.2.1.sp, l_1.2.1.q, []⟩, ⟨51, RS.enc t39.r0.sills, l_1.2.2.sp, l_1.2.2.q, []⟩]) ?_ ?_
            ·replace hm := h172
             refine g_block ?_
             refine g_loopF (ι := Unit) hm (fun s_5 l_29 => True) (fun s_5 l_29 => [(2, .int .u8 which2), (7, ptr b 0), (8, .int .i64 t51), (9, slv l_7.q l_7.n l_7.cap), (10, .int .i64 s.soonest10), (11, slv l_6.2.1.q l_6.2.1.n l_6.2.1.cap), (12, ptr b_1 0), (13, .int .i64 s.t62), (26, .int .i64 t202.1), (28, .int .i64 s_5), (61, .int .i64 (t39.r0.floors.length : Int)), (62, .int .i64 s.t62)]) (fun s_5 l_29 => [(b_1, .cells #[slv l_6.2.2.v.q l_6.2.2.v.n l_6.2.2.v.cap] 127 (0, 0)), (b, .cells #[slv l_1.1.q l_1.1.n l_1.1.cap, .int .i64 t39.r0.wind.lo, .int .i64 t39.r0.wind.hi, slv l_1.2.1.q l_1.2.1.n l_1.2.1.cap, slv l_1.2.2.q l_1.2.2.n l_1.2.2.cap] 29 (0, 0)), (l, .cells #[.slice qa0 na0 ca0, .int .i64 t39.b0_1, .int .u32 t39.b0_2] 138 (0, 0))]) (fun s_5 l_29 => [⟨3, RI.enc o_2, l_7.sp, l_7.q, []⟩, ⟨3, RI.enc s.floods11, l_6.2.1.sp, l_6.2.1.q, []⟩, ⟨43, RwH.enc (l_6.2.2.rs.set (Int.toNat s.t62) (⟨L_3.q, L_3.n, L_3.cap, L_3.sp⟩ : VL)), l_6.2.2.v.sp, l_6.2.2.v.q, dbl 46 RI j_2.states12 (l_6.2.2.rs.set (Int.toNat s.t62) (⟨L_3.q, L_3.n, L_3.cap, L_3.sp⟩ : VL))⟩, ⟨68, RW.enc t39.r0.table, l_1.1.sp, l_1.1.q, []⟩, ⟨3, RI.enc t39.r0.floors, l_1.2.1.sp, l_1.2.1.q, []⟩, ⟨51, RS.enc t39.r0.sills, l_1.2.2.sp, l_1.2.2.q, []⟩]) () (trivial) ((.cons rfl (.cons rfl (.cons rfl (.cons rfl (.cons rfl (.cons rfl (.cons rfl (.cons rfl (.cons rfl (.cons rfl (.cons rfl (.cons rfl .nil))))))))))))) (fun w hh => hh) (fun s_5 l_29 r_6 hpl hm h174 => ?_)
             unfold m_laurellaw01_TideParted_L5 at hm
             refine g_seq ?_
             refine g_seq ?_
             refine g_region ?_
             refine g_val rfl rfl rfl (fun _ _ => v_move rfl) ?_
             refine g_val rfl rfl rfl (fun _ _ => v_move rfl) ?_
             refine g_val rfl rfl rfl (fun _ _ => v_leq rfl rfl) ?_
             refine g_nil ?_
             refine g_n_then ?_
             refine g_cond rfl (fun h175 => ?_) (fun h175 => ?_)
             ·replace hm := ifT (of_decide_eq_true h175) hm
              refine g_skip ?_
              refine g_n_then ?_
              refine g_seq ?_
              refine g_block ?_
              refine g_seq ?_
              refine g_draw none (.hoist 0 (.free 1 (.free 2 (.hoist 3 (.free 4 (.hoist 5 (.one 6 (.free 7 (.free 8 (.hoist 9 (.free 10 .done))))))))))) _ rfl (by decide +kernel) (fun w k hh => hh.draw k) (fun w hh => hh) ?_
              refine p_hoist rfl rfl rfl rfl (fun w hh => v_load (Try.isAgg127 w) rfl (hh.cell 0 rfl rfl)) ?_
              refine p_free rfl rfl rfl rfl (fun _ _ => v_move rfl) ?_
              obtain ⟨t259, h176, hm⟩ := bindO hm
              obtain ⟨L_11, h177, h178⟩ := (h68).row h176
              refine p_free rfl rfl rfl rfl (fun w _ => v_ixA h177 (Try.runUnderlying127 w) (Try.sizeOf43 w) rfl rfl (vlen RwH h63 rfl) (vne h63)) ?_
              refine p_hoist rfl rfl rfl rfl (fun w hh => v_ldE RwH 0 h177 (Try.isAgg43 w) rfl (hh.vseg 2 rfl h63) rfl (Nat.add_zero _).symm) ?_
              refine p_free rfl rfl rfl rfl (fun _ _ => v_move rfl) ?_
              refine p_hoist rfl rfl rfl rfl (fun w hh => v_loadAgg (vs := [_, _, _, _, _]) (Try.isAgg29 w) (Try.sizeOf29 w) rfl (hh.cells 1 rfl rfl)) ?_
              refine p_one rfl ?_
              obtain ⟨t263, h179, hm⟩ := bindO hm
              refine g_callH [] [] rfl rfl rfl rfl rfl rfl rfl (fun a w => Try.call26 a w) (fun w hh => c_laurellaw01_first t39.r0 (qA l_1.1.q) l_1.1.n l_1.1.cap (qA l_1.2.1.q) l_1.2.1.n l_1.2.1.cap (qA l_1.2.2.q) l_1.2.2.n l_1.2.2.cap w (HV.callee (S0 := []) (vs0 := []) hh (roC (hh.vsepA (S0 := []) (vs0 := []) 3 rfl h5) (roC (hh.vsepA (S0 := []) (vs0 := []) 4 rfl h6) (roC (hh.vsepA (S0 := []) (vs0 := []) 5 rfl h7) roN)))) (vlen RW h5 rfl) (AOK.q (vne h5)) (h5).hle (vlen RI h6 rfl) (AOK.q (vne h6)) (h6).hle (vlen RS h7 rfl) (AOK.q (vne h7)) (h7).hle h179) (fun l_30 h180 => ?_)
              refine p_next (fun w hh => hh) ?_
              obtain ⟨t264, h181, hm⟩ := bindO hm
              refine p_free rfl rfl rfl rfl (fun _ _ => v_subc h181 rfl rfl) ?_
              obtain ⟨t265, h182, hm⟩ := bindO hm
              refine p_free rfl rfl rfl rfl (fun w _ => v_ixA h182 (Try.runUnderlying43 w) (Try.sizeOf46 w) rfl rfl (vlen RI h178 rfl) (vne h178)) ?_
              refine p_hoist rfl rfl rfl rfl (fun w hh => v_ldE RI 0 h182 (Try.isAgg46 w) rfl (hh.dseg 2 rfl h176 h177 h178) rfl (Nat.add_zero _).symm) ?_
              refine p_free rfl rfl rfl rfl (fun _ _ => v_neq rfl rfl) ?_
              refine p_done ?_
              refine g_n_then ?_
              refine g_cond rfl (fun h183 => ?_) (fun h183 => ?_)
              ·replace hm := ifF (of_ndec_true h183) hm
               refine g_seq ?_
               refine g_region ?_
               refine g_val rfl rfl rfl (fun _ _ => v_assign rfl) ?_
               refine g_nil ?_
               refine g_n_then ?_
               refine g_ret ?_
               refine g_r_blk ?_
               refine g_r_then ?_
               refine g_r_then ?_
               refine g_r_blk ?_
               obtain rfl := Option.some.inj hm
               have hbo := h174 _ rfl
               subst hbo
               refine g_r_then ?_
               replace hm := ocR h173
               refine g_r_then ?_
               refine g_r_blk ?_
               obtain rfl := Option.some.inj hm
               refine g_r_then ?_
               replace hm := ocR h39
               refine g_r_then ?_
               refine g_r_then ?_
               refine g_r_blk ?_
               obtain rfl := Option.some.inj hm
               have hbo := h36 _ rfl
               subst hbo
               refine g_r_then ?_
               replace hm := ocR h27
               refine g_r_then ?_
               obtain rfl := Option.some.inj hm
               refine g_done rfl (fun w hh => (.tmp rfl .nil)) (fun w hh => ⟨(), rfl, trivial, hh.sel [] [] 1 (by decide) (by decide) rfl rfl rfl⟩)
              ·replace hm := ifT (of_ndec_false h183) hm
               refine g_skip ?_
               refine g_n_blk ?_
               refine g_n_then ?_
               refine g_region ?_
               refine g_val rfl rfl rfl (fun _ _ => v_move rfl) ?_
               obtain ⟨t256, h184, hm⟩ := bindO hm
               refine g_val rfl rfl rfl (fun _ _ => v_addc h184 rfl rfl) ?_
               refine g_val rfl rfl rfl (fun _ _ => v_assign rfl) ?_
               refine g_nil ?_
               obtain rfl := Option.some.inj hm
               refine g_n_then ?_
               exact g_again' _ () rfl (trivial) ((.cons rfl (.cons rfl (.cons rfl (.cons rfl (.cons rfl (.cons rfl (.cons rfl (.cons rfl (.cons rfl (.cons rfl (.cons rfl (.cons rfl .nil))))))))))))) (fun w hh => hh)
             ·replace hm := ifF (of_decide_eq_false h175) hm
              refine g_exit ?_
              refine g_x_then ?_
              refine g_x_then ?_
              refine g_x_blk ?_
              obtain rfl := Option.some.inj hm
              have hbo := h174 _ rfl
              subst hbo
              exact g_leaf () (rfl) ((.cons rfl (.cons rfl (.cons rfl (.cons rfl (.cons rfl (.cons rfl (.cons rfl (.cons rfl (.cons rfl (.cons rfl (.cons rfl .nil)))))))))))) (fun w hh => hh)
            ·intro j_5 hj
             have h185 := hj
             subst h185
             replace hm := ocL h173
             refine g_n_then ?_
             refine g_seq ?_
             obtain ⟨o_11, h186, h187⟩ := bindO hm
             refine g_cut (ι := VL) (fun l_31 => VOK 1 l_31.n l_31.cap (RI.enc o_11.floods11) l_31.sp l_31.q) (fun l_31 => [(2, .int .u8 which2), (7, ptr b 0), (8, .int .i64 t51), (9, slv l_7.q l_7.n l_7.cap), (10, .int .i64 o_11.soonest10), (11, slv l_31.q l_31.n l_31.cap), (12, ptr b_1 0), (13, .int .i64 s.t62), (26, .int .i64 t202.1), (61, .int .i64 (t39.r0.floors.length : Int)), (62, .int .i64 s.t62)]) (fun l_31 => [(b_1, .cells #[slv l_6.2.2.v.q l_6.2.2.v.n l_6.2.2.v.cap] 127 (0, 0)), (b, .cells #[slv l_1.1.q l_1.1.n l_1.1.cap, .int .i64 t39.r0.wind.lo, .int .i64 t39.r0.wind.hi, slv l_1.2.1.q l_1.2.1.n l_1.2.1.cap, slv l_1.2.2.q l_1.2.2.n l_1.2.2.cap] 29 (0, 0)), (l, .cells #[.slice qa0 na0 ca0, .int .i64 t39.b0_1, .int .u32 t39.b0_2] 138 (0, 0))]) (fun l_31 => [⟨3, RI.enc o_2, l_7.sp, l_7.q, []⟩, ⟨3, RI.enc o_11.floods11, l_31.sp, l_31.q, []⟩, ⟨43, RwH.enc (l_6.2.2.rs.set (Int.toNat s.t62) (⟨L_3.q, L_3.n, L_3.cap, L_3.sp⟩ : VL)), l_6.2.2.v.sp, l_6.2.2.v.q, dbl 46 RI j_2.states12 (l_6.2.2.rs.set (Int.toNat s.t62) (⟨L_3.q, L_3.n, L_3.cap, L_3.sp⟩ : VL))⟩, ⟨68, RW.enc t39.r0.table, l_1.1.sp, l_1.1.q, []⟩, ⟨3, RI.enc t39.r0.floors, l_1.2.1.sp, l_1.2.1.q, []⟩, ⟨51, RS.enc t39.r0.sills, l_1.2.2.sp, l_1.2.2.q, []⟩]) ?_ ?_
             ·replace hm := h186
              refine g_seq ?_
              refine g_region ?_
              refine g_val rfl rfl rfl (fun _ _ => v_move rfl) ?_
              obtain ⟨t269, h189, hm⟩ := bindO hm
              refine g_val rfl rfl rfl (fun _ _ => v_addc h189 rfl rfl) ?_
              refine g_val rfl rfl rfl (fun _ _ => v_move rfl) ?_
              refine g_val rfl rfl rfl (fun _ _ => v_lss rfl rfl) ?_
              refine g_nil ?_
              refine g_n_then ?_
              refine g_cond rfl (fun h190 => ?_) (fun h190 => ?_)
              ·replace hm := ifT (of_decide_eq_true h190) hm
               refine g_region ?_
               refine g_val rfl rfl rfl (fun _ _ => v_move rfl) ?_
               obtain ⟨t273, h191, hm⟩ := bindO hm
               refine g_val rfl rfl rfl (fun _ _ => v_addc h191 rfl rfl) ?_
               refine g_val rfl rfl rfl (fun _ _ => v_assign rfl) ?_
               refine g_val rfl rfl rfl (fun _ _ => v_nilS rfl) ?_
               refine g_nil ?_
               refine g_vnil 3 ?_
               obtain rfl := Option.some.inj hm
               exact g_leaf ⟨none, 0, 0, []⟩ (VOK.nil) ((.cons rfl (.cons rfl (.cons rfl (.cons rfl (.cons rfl (.cons rfl (.cons rfl (.cons rfl (.cons rfl (.cons rfl (.cons rfl .nil)))))))))))) (fun w hh => hh.sel [0, 1, 2] [1, 0, 3, 4, 5, 6] 0 (by decide) (by decide) rfl rfl rfl)
              ·replace hm := ifF (of_decide_eq_false h190) hm
               refine g_skip ?_
               obtain rfl := Option.some.inj hm
               exact g_leaf l_6.2.1 (h33) ((.cons rfl (.cons rfl (.cons rfl (.cons rfl (.cons rfl (.cons rfl (.cons rfl (.cons rfl (.cons rfl (.cons rfl (.cons rfl .nil)))))))))))) (fun w hh => hh)
             ·intro l_31 hj
              have h188 := hj
              replace hm := h187
              refine g_n_then ?_
              refine g_seq ?_
              obtain ⟨o_12, h192, h193⟩ := bindO hm
              refine g_cut (ι := Unit) (fun l_32 => True) (fun l_32 => [(2, .int .u8 which2), (7, ptr b 0), (8, .int .i64 t51), (9, slv l_7.q l_7.n l_7.cap), (10, .int .i64 o_11.soonest10), (11, slv l_31.q l_31.n l_31.cap), (12, ptr b_1 0), (13, .int .i64 s.t62), (61, .int .i64 (t39.r0.floors.length : Int)), (62, .int .i64 s.t62), (283, .bool o_12)]) (fun l_32 => [(b_1, .cells #[slv l_6.2.2.v.q l_6.2.2.v.n l_6.2.2.v.cap] 127 (0, 0)), (b, .cells #[slv l_1.1.q l_1.1.n l_1.1.cap, .int .i64 t39.r0.wind.lo, .int .i64 t39.r0.wind.hi, slv l_1.2.1.q l_1.2.1.n l_1.2.1.cap, slv l_1.2.2.q l_1.2.2.n l_1.2.2.cap] 29 (0, 0)), (l, .cells #[.slice qa0 na0 ca0, .int .i64 t39.b0_1, .int .u32 t39.b0_2] 138 (0, 0))]) (fun l_32 => [⟨3, RI.enc o_2, l_7.sp, l_7.q, []⟩, ⟨3, RI.enc o_11.floods11, l_31.sp, l_31.q, []⟩, ⟨43, RwH.enc (l_6.2.2.rs.set (Int.toNat s.t62) (⟨L_3.q, L_3.n, L_3.cap, L_3.sp⟩ : VL)), l_6.2.2.v.sp, l_6.2.2.v.q, dbl 46 RI j_2.states12 (l_6.2.2.rs.set (Int.toNat s.t62) (⟨L_3.q, L_3.n, L_3.cap, L_3.sp⟩ : VL))⟩, ⟨68, RW.enc t39.r0.table, l_1.1.sp, l_1.1.q, []⟩, ⟨3, RI.enc t39.r0.floors, l_1.2.1.sp, l_1.2.1.q, []⟩, ⟨51, RS.enc t39.r0.sills, l_1.2.2.sp, l_1.2.2.q, []⟩]) ?_ ?_
              ·replace hm := h192
               refine g_region ?_
               refine g_val rfl rfl rfl (fun _ _ => v_move rfl) ?_
               obtain ⟨t275, h194, hm⟩ := bindO hm
               refine g_val rfl rfl rfl (fun _ _ => v_addc h194 rfl rfl) ?_
               refine g_val rfl rfl rfl (fun _ _ => v_move rfl) ?_
               refine g_val rfl rfl rfl (fun _ _ => v_eql rfl rfl) ?_
               refine g_val rfl rfl rfl (fun _ _ => v_move rfl) ?_
               refine g_case 278 rfl (fun h195 => ?_) (fun h195 => ?_)
               ·replace hm := ifT (of_decide_eq_true h195) hm
                refine v_unguard rfl rfl ?_
                refine g_val rfl rfl rfl (fun _ _ => v_move rfl) ?_
                refine v_unguard rfl rfl ?_
                refine g_val rfl rfl rfl (fun w hh => v_loadAgg (vs := [_, _, _, _, _]) (Try.isAgg29 w) (Try.sizeOf29 w) rfl (hh.cells 1 rfl rfl)) ?_
                refine v_unguard rfl rfl ?_
                obtain ⟨t281, h196, hm⟩ := bindO hm
                refine g_callH [] [] rfl rfl rfl rfl rfl rfl rfl (fun a w => Try.call27 a w) (fun w hh => c_laurellaw01_last t39.r0 (qA l_1.1.q) l_1.1.n l_1.1.cap (qA l_1.2.1.q) l_1.2.1.n l_1.2.1.cap (qA l_1.2.2.q) l_1.2.2.n l_1.2.2.cap w (HV.callee (S0 := []) (vs0 := []) hh (roC (hh.vsepA (S0 := []) (vs0 := []) 3 rfl h5) (roC (hh.vsepA (S0 := []) (vs0 := []) 4 rfl h6) (roC (hh.vsepA (S0 := []) (vs0 := []) 5 rfl h7) roN)))) (vlen RW h5 rfl) (AOK.q (vne h5)) (h5).hle (vlen RI h6 rfl) (AOK.q (vne h6)) (h6).hle (vlen RS h7 rfl) (AOK.q (vne h7)) (h7).hle h196) (fun l_33 h197 => ?_)
                refine v_unguard rfl rfl ?_
                refine g_val rfl rfl rfl (fun _ _ => v_lss rfl rfl) ?_
                refine g_val rfl rfl rfl (fun _ _ => v_pickT rfl rfl) ?_
                refine g_nil ?_
                obtain rfl := Option.some.inj hm
                exact g_leaf () (trivial) ((.cons rfl (.cons rfl (.cons rfl (.cons rfl (.cons rfl (.cons rfl (.cons rfl (.cons rfl (.cons rfl (.cons rfl (.cons rfl .nil)))))))))))) (fun w hh => hh)
               ·replace hm := ifF (of_decide_eq_false h195) hm
                refine g_skipG rfl rfl rfl rfl rfl rfl ?_
                refine g_skipG rfl rfl rfl rfl rfl rfl ?_
                refine g_skipG rfl rfl rfl rfl rfl rfl ?_
                refine g_skipG rfl rfl rfl rfl rfl rfl ?_
                refine g_val rfl rfl rfl (fun _ _ => v_pickF rfl rfl) ?_
                refine g_nil ?_
                obtain rfl := Option.some.inj hm
                exact g_leaf () (trivial) ((.cons rfl (.cons rfl (.cons rfl (.cons rfl (.cons rfl (.cons rfl (.cons rfl (.cons rfl (.cons rfl (.cons rfl (.cons rfl .nil)))))))))))) (fun w hh => hh)
              ·intro l_32 hj
               replace hm := h193
               refine g_n_then ?_
               refine g_cond rfl (fun h198 => ?_) (fun h198 => ?_)
               ·replace hm := ifT (h198) hm
                refine g_region ?_
                refine g_val rfl rfl rfl (fun _ _ => v_move rfl) ?_
                refine g_val rfl rfl rfl (fun _ _ => v_move rfl) ?_
                refine g_vlit RI [s.t62] (ps := [(0, _)]) (cells := [_]) (fun w => Try.runUnderlying26 w) (fun w => Try.sizeOf3 w) (fun w => Try.zeroValue3 w) rfl rfl rfl rfl rfl rfl rfl rfl (fun L_12 h199 => ?_)
                obtain ⟨t287, h200, hm⟩ := bindO hm
                refine g_vapp RI 2 h200 Try.underlying26 gxinf3 rfl rfl rfl rfl rfl h188 rfl rfl (vlen RI h199 rfl) (AOK.q (vne h199)) (fun w hh => (hh.vsegA 0 rfl h199)) rfl (fun L_13 h201 h201n => ?_)
                refine g_sel (S' := [_, _, _]) (vs' := [_, _, _, _, _, _, _]) [0, 1, 2] [0, 1, 2, 3, 4, 5, 6] 0 (by decide) (by decide) rfl rfl rfl ?_
                refine g_val rfl rfl rfl (fun _ _ => v_assign rfl) ?_
                refine g_nil ?_
                refine g_n_blk ?_
                obtain rfl := Option.some.inj hm
                exact g_leaf ((⟨o_11.soonest10, o_2, t287, j_2.states12⟩ : m_laurellaw01_TideParted_C1), (l_7, L_13, ⟨⟨l_6.2.2.v.q, l_6.2.2.v.n, l_6.2.2.v.cap, l_6.2.2.v.sp⟩, (l_6.2.2.rs.set (Int.toNat s.t62) (⟨L_3.q, L_3.n, L_3.cap, L_3.sp⟩ : VL))⟩)) (⟨rfl, h46, h201, h63, h68⟩) ((.cons rfl (.cons rfl (.cons rfl (.cons rfl (.cons rfl (.cons rfl (.cons rfl (.cons rfl (.cons rfl .nil)))))))))) (fun w hh => hh.sel [0, 1, 2] [1, 2, 3, 4, 5, 6] 0 (by decide) (by decide) rfl rfl rfl)
               ·replace hm := ifF ((fun hh => Bool.noConfusion ((h198).symm.trans hh))) hm
                refine g_skip ?_
                refine g_n_blk ?_
                obtain rfl := Option.some.inj hm
                exact g_leaf ((⟨o_11.soonest10, o_2, o_11.floods11, j_2.states12⟩ : m_laurellaw01_TideParted_C1), (l_7, l_31, ⟨⟨l_6.2.2.v.q, l_6.2.2.v.n, l_6.2.2.v.cap, l_6.2.2.v.sp⟩, (l_6.2.2.rs.set (Int.toNat s.t62) (⟨L_3.q, L_3.n, L_3.cap, L_3.sp⟩ : VL))⟩)) (⟨rfl, h46, h188, h63, h68⟩) ((.cons rfl (.cons rfl (.cons rfl (.cons rfl (.cons rfl (.cons rfl (.cons rfl (.cons rfl (.cons rfl .nil)))))))))) (fun w hh => hh)
    ·rintro ⟨j_6, l_34⟩ hj
     obtain ⟨h206, h202, h203, h204, h205⟩ := hj
     subst h206
     replace hm := ocL h39
     refine g_n_then ?_
     refine g_region ?_
     obtain ⟨t288, h207, hm⟩ := bindO hm
     refine g_val rfl rfl rfl (fun _ _ => v_addc h207 rfl rfl) ?_
     refine g_val rfl rfl rfl (fun _ _ => v_move rfl) ?_
     refine g_nil ?_
     obtain rfl := Option.some.inj hm
     refine g_n_then ?_
     exact g_again' _ (l_34.1, l_34.2.1, l_34.2.2) rfl (⟨h202, h203, h204, h205⟩) ((.cons rfl (.cons rfl (.cons rfl (.cons rfl (.cons rfl (.cons rfl (.cons rfl (.cons rfl (.cons rfl .nil)))))))))) (fun w hh => hh)
   ·replace hm := ifF (of_decide_eq_false h37) hm
    refine g_exit ?_
    refine g_x_then ?_
    refine g_x_then ?_
    refine g_x_blk ?_
    obtain rfl := Option.some.inj hm
    have hbo := h36 _ rfl
    subst hbo
    exact g_leaf ((⟨s.soonest10, s.some9, s.floods11, s.states12⟩ : m_laurellaw01_TideParted_C0), (l_6.1, l_6.2.1, l_6.2.2)) (⟨rfl, h32, h33, h34, h35⟩) ((.cons rfl (.cons rfl (.cons rfl (.cons rfl (.cons rfl (.cons rfl .nil))))))) (fun w hh => hh)
  ·rintro ⟨j_7, l_35⟩ hj
   obtain ⟨h212, h208, h209, h210, h211⟩ := hj
   subst h212
   replace hm := ocL h27
   refine g_n_then ?_
   refine g_seq ?_
   refine g_region ?_
   refine g_val rfl rfl rfl (fun w hh => v_loadAgg (vs := [_, _, _, _, _]) (Try.isAgg29 w) (Try.sizeOf29 w) rfl (hh.cells 1 rfl rfl)) ?_
   refine g_val rfl rfl rfl (fun _ _ => v_move rfl) ?_
   obtain ⟨t292, h213, hm⟩ := bindO hm
   refine g_callH [] [] rfl rfl rfl rfl rfl rfl rfl (fun a w => Try.call77 a w) (fun w hh => c_tide_Flood_1 t39.r0 t51 l_1.1.q l_1.1.n l_1.1.cap l_1.2.1.q l_1.2.1.n l_1.2.1.cap l_1.2.2.q l_1.2.2.n l_1.2.2.cap w (HV.callee (S0 := []) (vs0 := []) hh (roC (hh.vsep (S0 := []) (vs0 := []) 3 rfl h5) (roC (hh.vsep (S0 := []) (vs0 := []) 4 rfl h6) (roC (hh.vsep (S0 := []) (vs0 := []) 5 rfl h7) roN)))) (vlen RW h5 rfl) (vne h5) (h5).hle (vlen RI h6 rfl) (vne h6) (h6).hle (vlen RS h7 rfl) (vne h7) (h7).hle h213) (fun l_36 h214 => ?_)
   have h215 := h214
   refine g_sel (S' := [_, _, _]) (vs' := [_, _, _, _, _, _, _]) [0, 1, 2] [0, 1, 2, 3, 4, 5, 6] 0 (by decide) (by decide) rfl rfl rfl ?_
   refine g_val rfl rfl rfl (fun _ _ => v_move rfl) ?_
   refine g_val rfl rfl rfl (fun _ _ => v_extract rfl rfl) ?_
   refine g_val rfl rfl rfl (fun _ _ => v_extract rfl rfl) ?_
   refine g_val rfl rfl rfl (fun _ _ => v_extract rfl rfl) ?_
   refine g_val rfl rfl rfl (fun _ _ => v_assign rfl) ?_
   refine g_val rfl rfl rfl (fun _ _ => v_assign rfl) ?_
   refine g_val rfl rfl rfl (fun _ _ => v_assign rfl) ?_
   refine g_nil ?_
   refine g_n_then ?_
   refine g_seq ?_
   refine g_seq ?_
   obtain ⟨o_13, h216, h217⟩ := bindO hm
   refine g_cut (ι := Unit) (fun l_37 => True) (fun l_37 => [(7, ptr b 0), (9, slv l_35.1.q l_35.1.n l_35.1.cap), (12, ptr b_1 0), (324, .bool o_13)]) (fun l_37 => [(b_1, .cells #[slv l_35.2.2.v.q l_35.2.2.v.n l_35.2.2.v.cap] 127 (0, 0)), (b, .cells #[slv l_1.1.q l_1.1.n l_1.1.cap, .int .i64 t39.r0.wind.lo, .int .i64 t39.r0.wind.hi, slv l_1.2.1.q l_1.2.1.n l_1.2.1.cap, slv l_1.2.2.q l_1.2.2.n l_1.2.2.cap] 29 (0, 0)), (l, .cells #[.slice qa0 na0 ca0, .int .i64 t39.b0_1, .int .u32 t39.b0_2] 138 (0, 0))]) (fun l_37 => [⟨3, RI.enc j_7.some9, l_35.1.sp, l_35.1.q, []⟩, ⟨43, RwH.enc l_35.2.2.rs, l_35.2.2.v.sp, l_35.2.2.v.q, dbl 46 RI j_7.states12 l_35.2.2.rs⟩, ⟨68, RW.enc t39.r0.table, l_1.1.sp, l_1.1.q, []⟩, ⟨3, RI.enc t39.r0.floors, l_1.2.1.sp, l_1.2.1.q, []⟩, ⟨51, RS.enc t39.r0.sills, l_1.2.2.sp, l_1.2.2.q, []⟩]) ?_ ?_
   ·replace hm := h216
    refine g_region ?_
    refine g_val rfl rfl rfl (fun _ _ => v_move rfl) ?_
    refine g_val rfl rfl rfl (fun _ _ => v_eql rfl rfl) ?_
    refine g_val rfl rfl rfl (fun _ _ => v_move rfl) ?_
    refine g_val rfl rfl rfl (fun w _ => v_lenN (vlen RI h209 rfl) (Try.runUnderlying26 w) rfl) ?_
    refine g_val rfl rfl rfl (fun _ _ => v_gtr rfl rfl) ?_
    refine g_val rfl rfl rfl (fun w _ => v_neqBool (Try.runUnderlying4 w) rfl rfl) ?_
    refine g_val rfl rfl rfl (fun _ _ => v_move rfl) ?_
    refine g_case 302 rfl (fun h218 => ?_) (fun h218 => ?_)
    ·replace hm := ifT (h218) hm
     refine g_skipG rfl rfl rfl rfl rfl rfl ?_
     refine g_skipG rfl rfl rfl rfl rfl rfl ?_
     refine g_skipG rfl rfl rfl rfl rfl rfl ?_
     refine g_skipU' rfl rfl rfl rfl rfl ?_
     refine g_skipU' rfl rfl rfl rfl rfl ?_
     refine g_skipU' rfl rfl rfl rfl rfl ?_
     refine g_skipU' rfl rfl rfl rfl rfl ?_
     refine g_skipU' rfl rfl rfl rfl rfl ?_
     refine g_skipU' rfl rfl rfl rfl rfl ?_
     refine g_skipU' rfl rfl rfl rfl rfl ?_
     refine g_skipU' rfl rfl rfl rfl rfl ?_
     refine g_skipU' rfl rfl rfl rfl rfl ?_
     refine g_skipG rfl rfl rfl rfl rfl rfl ?_
     refine g_val rfl rfl rfl (fun _ _ => v_pickT rfl rfl) ?_
     refine g_val rfl rfl rfl (fun _ _ => v_move rfl) ?_
     refine g_skipG rfl rfl rfl rfl rfl rfl ?_
     refine g_skipG rfl rfl rfl rfl rfl rfl ?_
     refine g_skipG rfl rfl rfl rfl rfl rfl ?_
     refine g_skipU' rfl rfl rfl rfl rfl ?_
     refine g_skipU' rfl rfl rfl rfl rfl ?_
     refine g_skipG rfl rfl rfl rfl rfl rfl ?_
     refine g_val rfl rfl rfl (fun _ _ => v_pickT rfl rfl) ?_
     refine g_nil ?_
     obtain rfl := Option.some.inj hm
     exact g_leaf () (trivial) ((.cons rfl (.cons rfl (.cons rfl (.cons rfl .nil))))) (fun w hh => hh.sel [0, 1, 2] [1, 3, 4, 5, 6] 0 (by decide) (by decide) rfl rfl rfl)
    ·replace hm := ifF ((fun hh => Bool.noConfusion ((h218).symm.trans hh))) hm
     refine v_unguard rfl rfl ?_
     refine g_val rfl rfl rfl (fun _ _ => v_move rfl) ?_
     refine v_unguard rfl rfl ?_
     refine g_val rfl rfl rfl (fun _ _ => v_eql rfl rfl) ?_
     refine v_unguard rfl rfl ?_
     refine g_val rfl rfl rfl (fun _ _ => v_move rfl) ?_
     refine g_case 305 rfl (fun h219 => ?_) (fun h219 => ?_)
     ·replace hm := ifT (of_decide_eq_true h219) hm
      refine v_unguard rfl rfl ?_
      refine g_val rfl rfl rfl (fun _ _ => v_move rfl) ?_
      refine v_unguard rfl rfl ?_
      refine g_val rfl rfl rfl (fun _ _ => v_move rfl) ?_
      refine v_unguard rfl rfl ?_
      refine g_val rfl rfl rfl (fun _ _ => v_neq rfl rfl) ?_
      refine v_unguard rfl rfl ?_
      refine g_val rfl rfl rfl (fun _ _ => v_move rfl) ?_
      refine g_case 309 rfl (fun h220 => ?_) (fun h220 => ?_)
      ·replace hm := ifF (of_ndec_true h220) hm
       refine g_skipG rfl rfl rfl rfl rfl rfl ?_
       refine g_skipG rfl rfl rfl rfl rfl rfl ?_
       refine g_skipG rfl rfl rfl rfl rfl rfl ?_
       refine g_skipG rfl rfl rfl rfl rfl rfl ?_
       refine v_unguard rfl rfl ?_
       refine g_val rfl rfl rfl (fun _ _ => v_pickT rfl rfl) ?_
       refine v_unguard rfl rfl ?_
       refine g_val rfl rfl rfl (fun _ _ => v_pickT rfl rfl) ?_
       refine g_val rfl rfl rfl (fun _ _ => v_pickF rfl rfl) ?_
       refine g_val rfl rfl rfl (fun _ _ => v_move rfl) ?_
       refine g_skipG rfl rfl rfl rfl rfl rfl ?_
       refine g_skipG rfl rfl rfl rfl rfl rfl ?_
       refine g_skipG rfl rfl rfl rfl rfl rfl ?_
       refine g_skipU' rfl rfl rfl rfl rfl ?_
       refine g_skipU' rfl rfl rfl rfl rfl ?_
       refine g_skipG rfl rfl rfl rfl rfl rfl ?_
       refine g_val rfl rfl rfl (fun _ _ => v_pickT rfl rfl) ?_
       refine g_nil ?_
       obtain rfl := Option.some.inj hm
       exact g_leaf () (trivial) ((.cons rfl (.cons rfl (.cons rfl (.cons rfl .nil))))) (fun w hh => hh.sel [0, 1, 2] [1, 3, 4, 5, 6] 0 (by decide) (by decide) rfl rfl rfl)
      ·replace hm := ifT (of_ndec_false h220) hm
       refine v_unguard rfl rfl ?_
       refine g_val rfl rfl rfl (fun _ _ => v_move rfl) ?_
       refine v_unguard rfl rfl ?_
       refine g_val rfl rfl rfl (fun _ _ => v_move rfl) ?_
       refine v_unguard rfl rfl ?_
       obtain ⟨t312, h221, hm⟩ := bindO hm
       refine g_callH [] [] rfl rfl rfl rfl rfl rfl rfl (fun a w => Try.call59 a w) (fun w hh => c_laurelkit_Eq_int t292.r1 j_7.floods11 (qA l_36.q) l_36.n l_36.cap (qA l_35.2.1.q) l_35.2.1.n l_35.2.1.cap w (HV.callee (S0 := []) (vs0 := []) hh (roC (hh.vsepA (S0 := []) (vs0 := []) 0 rfl h215) (roC (hh.vsepA (S0 := []) (vs0 := []) 2 rfl h209) roN))) (vlen RI h215 rfl) (AOK.q (vne h215)) (h215).hle (vlen RI h209 rfl) (AOK.q (vne h209)) (h209).hle h221) (fun l_38 h222 => ?_)
       refine v_unguard rfl rfl ?_
       refine g_val rfl rfl rfl (fun _ _ => v_not rfl) ?_
       refine v_unguard rfl rfl ?_
       refine g_val rfl rfl rfl (fun _ _ => v_pickF rfl rfl) ?_
       refine v_unguard rfl rfl ?_
       refine g_val rfl rfl rfl (fun _ _ => v_pickT rfl rfl) ?_
       refine g_val rfl rfl rfl (fun _ _ => v_pickF rfl rfl) ?_
       refine g_val rfl rfl rfl (fun _ _ => v_move rfl) ?_
       refine g_case 317 rfl (fun h223 => ?_) (fun h223 => ?_)
       ·replace hm := ifT (h223) hm
        refine g_skipG rfl rfl rfl rfl rfl rfl ?_
        refine g_skipG rfl rfl rfl rfl rfl rfl ?_
        refine g_skipG rfl rfl rfl rfl rfl rfl ?_
        refine g_skipU' rfl rfl rfl rfl rfl ?_
        refine g_skipU' rfl rfl rfl rfl rfl ?_
        refine g_skipG rfl rfl rfl rfl rfl rfl ?_
        refine g_val rfl rfl rfl (fun _ _ => v_pickT rfl rfl) ?_
        refine g_nil ?_
        obtain rfl := Option.some.inj hm
        exact g_leaf () (trivial) ((.cons rfl (.cons rfl (.cons rfl (.cons rfl .nil))))) (fun w hh => hh.sel [0, 1, 2] [1, 3, 4, 5, 6] 0 (by decide) (by decide) rfl rfl rfl)
       ·replace hm := ifF ((fun hh => Bool.noConfusion ((h223).symm.trans hh))) hm
        refine v_unguard rfl rfl ?_
        refine g_val rfl rfl rfl (fun _ _ => v_move rfl) ?_
        refine v_unguard rfl rfl ?_
        refine g_val rfl rfl rfl (fun _ _ => v_neq rfl rfl) ?_
        refine v_unguard rfl rfl ?_
        refine g_val rfl rfl rfl (fun _ _ => v_move rfl) ?_
        refine g_case 320 rfl (fun h224 => ?_) (fun h224 => ?_)
        ·replace hm := ifF (of_ndec_true h224) hm
         refine v_unguard rfl rfl ?_
         refine g_val rfl rfl rfl (fun _ _ => v_move rfl) ?_
         refine v_unguard rfl rfl ?_
         refine g_val rfl rfl rfl (fun _ _ => v_neq rfl rfl) ?_
         refine v_unguard rfl rfl ?_
         refine g_val rfl rfl rfl (fun _ _ => v_pickT rfl rfl) ?_
         refine g_val rfl rfl rfl (fun _ _ => v_pickF rfl rfl) ?_
         refine g_nil ?_
         obtain rfl := Option.some.inj hm
         exact g_leaf () (trivial) ((.cons rfl (.cons rfl (.cons rfl (.cons rfl .nil))))) (fun w hh => hh.sel [0, 1, 2] [1, 3, 4, 5, 6] 0 (by decide) (by decide) rfl rfl rfl)
        ·replace hm := ifT (of_ndec_false h224) hm
         refine g_skipG rfl rfl rfl rfl rfl rfl ?_
         refine g_skipG rfl rfl rfl rfl rfl rfl ?_
         refine v_unguard rfl rfl ?_
         refine g_val rfl rfl rfl (fun _ _ => v_pickF rfl rfl) ?_
         refine g_val rfl rfl rfl (fun _ _ => v_pickF rfl rfl) ?_
         refine g_nil ?_
         obtain rfl := Option.some.inj hm
         exact g_leaf () (trivial) ((.cons rfl (.cons rfl (.cons rfl (.cons rfl .nil))))) (fun w hh => hh.sel [0, 1, 2] [1, 3, 4, 5, 6] 0 (by decide) (by decide) rfl rfl rfl)
     ·replace hm := ifF (of_decide_eq_false h219) hm
      refine g_skipG rfl rfl rfl rfl rfl rfl ?_
      refine g_skipG rfl rfl rfl rfl rfl rfl ?_
      refine g_skipG rfl rfl rfl rfl rfl rfl ?_
      refine g_skipG rfl rfl rfl rfl rfl rfl ?_
      refine g_skipU' rfl rfl rfl rfl rfl ?_
      refine g_skipU' rfl rfl rfl rfl rfl ?_
      refine g_skipU' rfl rfl rfl rfl rfl ?_
      refine g_skipU' rfl rfl rfl rfl rfl ?_
      refine g_skipG rfl rfl rfl rfl rfl rfl ?_
      refine v_unguard rfl rfl ?_
      refine g_val rfl rfl rfl (fun _ _ => v_pickF rfl rfl) ?_
      refine g_val rfl rfl rfl (fun _ _ => v_pickF rfl rfl) ?_
      refine g_val rfl rfl rfl (fun _ _ => v_move rfl) ?_
      refine v_unguard rfl rfl ?_
      refine g_val rfl rfl rfl (fun _ _ => v_move rfl) ?_
      refine v_unguard rfl rfl ?_
      refine g_val rfl rfl rfl (fun _ _ => v_neq rfl rfl) ?_
      refine v_unguard rfl rfl ?_
      refine g_val rfl rfl rfl (fun _ _ => v_move rfl) ?_
      refine g_case 320 rfl (fun h225 => ?_) (fun h225 => ?_)
      ·replace hm := ifF (of_ndec_true h225) hm
       refine v_unguard rfl rfl ?_
       refine g_val rfl rfl rfl (fun _ _ => v_move rfl) ?_
       refine v_unguard rfl rfl ?_
       refine g_val rfl rfl rfl (fun _ _ => v_neq rfl rfl) ?_
       refine v_unguard rfl rfl ?_
       refine g_val rfl rfl rfl (fun _ _ => v_pickT rfl rfl) ?_
       refine g_val rfl rfl rfl (fun _ _ => v_pickF rfl rfl) ?_
       refine g_nil ?_
       obtain rfl := Option.some.inj hm
       exact g_leaf () (trivial) ((.cons rfl (.cons rfl (.cons rfl (.cons rfl .nil))))) (fun w hh => hh.sel [0, 1, 2] [1, 3, 4, 5, 6] 0 (by decide) (by decide) rfl rfl rfl)
      ·replace hm := ifT (of_ndec_false h225) hm
       refine g_skipG rfl rfl rfl rfl rfl rfl ?_
       refine g_skipG rfl rfl rfl rfl rfl rfl ?_
       refine v_unguard rfl rfl ?_
       refine g_val rfl rfl rfl (fun _ _ => v_pickF rfl rfl) ?_
       refine g_val rfl rfl rfl (fun _ _ => v_pickF rfl rfl) ?_
       refine g_nil ?_
       obtain rfl := Option.some.inj hm
       exact g_leaf () (trivial) ((.cons rfl (.cons rfl (.cons rfl (.cons rfl .nil))))) (fun w hh => hh.sel [0, 1, 2] [1, 3, 4, 5, 6] 0 (by decide) (by decide) rfl rfl rfl)
   ·intro l_37 hj
    replace hm := h217
    refine g_n_then ?_
    refine g_cond rfl (fun h226 => ?_) (fun h226 => ?_)
    ·replace hm := ifT (h226) hm
     refine g_seq ?_
     refine g_region ?_
     refine g_val rfl rfl rfl (fun _ _ => v_assign rfl) ?_
     refine g_nil ?_
     refine g_n_then ?_
     refine g_ret ?_
     refine g_r_then ?_
     obtain rfl := Option.some.inj hm
     refine g_done rfl (fun w hh => (.tmp rfl .nil)) (fun w hh => ⟨(), rfl, trivial, hh.sel [] [] 1 (by decide) (by decide) rfl rfl rfl⟩)
    ·replace hm := ifF ((fun hh => Bool.noConfusion ((h226).symm.trans hh))) hm
     refine g_skip ?_
     refine g_n_then ?_
     refine g_seq ?_
     refine g_region ?_
     refine g_val rfl rfl rfl (fun w hh => v_loadAgg (vs := [_, _, _, _, _]) (Try.isAgg29 w) (Try.sizeOf29 w) rfl (hh.cells 1 rfl rfl)) ?_
     refine g_val rfl rfl rfl (fun _ _ => v_move rfl) ?_
     obtain ⟨t328, h227, hm⟩ := bindO hm
     refine g_callH [] [] rfl rfl rfl rfl rfl rfl rfl (fun a w => Try.call70 a w) (fun w hh => c_tide_Longest_1 t39.r0 j_7.some9 l_1.1.q l_1.1.n l_1.1.cap l_1.2.1.q l_1.2.1.n l_1.2.1.cap l_1.2.2.q l_1.2.2.n l_1.2.2.cap l_35.1.q l_35.1.n l_35.1.cap w (HV.callee (S0 := []) (vs0 := []) hh (roC (hh.vsep (S0 := []) (vs0 := []) 2 rfl h5) (roC (hh.vsep (S0 := []) (vs0 := []) 3 rfl h6) (roC (hh.vsep (S0 := []) (vs0 := []) 4 rfl h7) (roC (hh.vsep (S0 := []) (vs0 := []) 0 rfl h208) roN))))) (vlen RW h5 rfl) (vne h5) (h5).hle (vlen RI h6 rfl) (vne h6) (h6).hle (vlen RS h7 rfl) (vne h7) (h7).hle (vlen RI h208 rfl) (vne h208) (h208).hle h227) (fun l_39 h228 => ?_)
     refine g_val rfl rfl rfl (fun _ _ => v_move rfl) ?_
     refine g_val rfl rfl rfl (fun _ _ => v_extract rfl rfl) ?_
     refine g_val rfl rfl rfl (fun _ _ => v_extract rfl rfl) ?_
     refine g_allocV (fun w => Try.zeroValue25 w) rfl (fun b_3 h229 => ?_)
     refine g_stSA (us := #[_, _]) (cs' := [_, _]) (S' := [_, _, _, _]) 0 (fun w => Try.sizeOf25 w) rfl rfl rfl rfl rfl rfl rfl ?_
     refine g_val rfl rfl rfl (fun _ _ => v_assign rfl) ?_
     refine g_nil ?_
     refine g_n_then ?_
     refine g_seq ?_
     refine g_region ?_
     refine g_val rfl rfl rfl (fun _ _ => v_assign rfl) ?_
     refine g_val rfl rfl rfl (fun _ _ => v_assign rfl) ?_
     refine g_nil ?_
     refine g_n_then ?_
     refine g_seq ?_
     refine g_seq ?_
     refine g_draw none (.hoist 0 (.hoist 2 (.free 6 (.one 1 (.one 3 (.free 4 (.free 5 .done))))))) _ rfl (by decide +kernel) (fun w k hh => hh.draw k) (fun w hh => hh) ?_
     refine p_hoist rfl rfl rfl rfl (fun w hh => v_loadAgg (vs := [_, _, _, _, _]) (Try.isAgg29 w) (Try.sizeOf29 w) rfl (hh.cells 2 rfl rfl)) ?_
     refine p_hoist rfl rfl rfl rfl (fun w hh => v_loadAgg (vs := [_, _, _, _, _]) (Try.isAgg29 w) (Try.sizeOf29 w) rfl (hh.cells 2 rfl rfl)) ?_
     refine p_free rfl rfl rfl rfl (fun _ _ => v_move rfl) ?_
     refine p_one rfl ?_
     obtain ⟨t332, h230, hm⟩ := bindO hm
     refine g_callH [] [] rfl rfl rfl rfl rfl rfl rfl (fun a w => Try.call27 a w) (fun w hh => c_laurellaw01_last t39.r0 (qA l_1.1.q) l_1.1.n l_1.1.cap (qA l_1.2.1.q) l_1.2.1.n l_1.2.1.cap (qA l_1.2.2.q) l_1.2.2.n l_1.2.2.cap w (HV.callee (S0 := []) (vs0 := []) hh (roC (hh.vsepA (S0 := []) (vs0 := []) 2 rfl h5) (roC (hh.vsepA (S0 := []) (vs0 := []) 3 rfl h6) (roC (hh.vsepA (S0 := []) (vs0 := []) 4 rfl h7) roN)))) (vlen RW h5 rfl) (AOK.q (vne h5)) (h5).hle (vlen RI h6 rfl) (AOK.q (vne h6)) (h6).hle (vlen RS h7 rfl) (AOK.q (vne h7)) (h7).hle h230) (fun l_40 h231 => ?_)
     refine p_next (fun w hh => hh) ?_
     refine p_one rfl ?_
     obtain ⟨t334, h232, hm⟩ := bindO hm
     refine g_callH [] [] rfl rfl rfl rfl rfl rfl rfl (fun a w => Try.call26 a w) (fun w hh => c_laurellaw01_first t39.r0 (qA l_1.1.q) l_1.1.n l_1.1.cap (qA l_1.2.1.q) l_1.2.1.n l_1.2.1.cap (qA l_1.2.2.q) l_1.2.2.n l_1.2.2.cap w (HV.callee (S0 := []) (vs0 := []) hh (roC (hh.vsepA (S0 := []) (vs0 := []) 2 rfl h5) (roC (hh.vsepA (S0 := []) (vs0 := []) 3 rfl h6) (roC (hh.vsepA (S0 := []) (vs0 := []) 4 rfl h7) roN)))) (vlen RW h5 rfl) (AOK.q (vne h5)) (h5).hle (vlen RI h6 rfl) (AOK.q (vne h6)) (h6).hle (vlen RS h7 rfl) (AOK.q (vne h7)) (h7).hle h232) (fun l_41 h233 => ?_)
     refine p_next (fun w hh => hh) ?_
     obtain ⟨t335, h234, hm⟩ := bindO hm
     refine p_free rfl rfl rfl rfl (fun _ _ => v_subc h234 rfl rfl) ?_
     obtain ⟨t336, h235, hm⟩ := bindO hm
     refine p_free rfl rfl rfl rfl (fun _ _ => v_addc h235 rfl rfl) ?_
     refine p_done ?_
     refine g_n_then ?_
     obtain ⟨o_14, h236, h237⟩ := bindO hm
     refine g_cut (ι := Unit) (fun l_42 => True) (fun l_42 => [(7, ptr b 0), (9, slv l_35.1.q l_35.1.n l_35.1.cap), (12, ptr b_1 0), (31, .int .i64 t328.r1), (32, ptr b_3 0), (33, .int .i64 o_14)]) (fun l_42 => [(b_3, .cells #[.int .i64 t328.r0.lo, .int .i64 t328.r0.hi] 25 (0, 0)), (b_1, .cells #[slv l_35.2.2.v.q l_35.2.2.v.n l_35.2.2.v.cap] 127 (0, 0)), (b, .cells #[slv l_1.1.q l_1.1.n l_1.1.cap, .int .i64 t39.r0.wind.lo, .int .i64 t39.r0.wind.hi, slv l_1.2.1.q l_1.2.1.n l_1.2.1.cap, slv l_1.2.2.q l_1.2.2.n l_1.2.2.cap] 29 (0, 0)), (l, .cells #[.slice qa0 na0 ca0, .int .i64 t39.b0_1, .int .u32 t39.b0_2] 138 (0, 0))]) (fun l_42 => [⟨3, RI.enc j_7.some9, l_35.1.sp, l_35.1.q, []⟩, ⟨43, RwH.enc l_35.2.2.rs, l_35.2.2.v.sp, l_35.2.2.v.q, dbl 46 RI j_7.states12 l_35.2.2.rs⟩, ⟨68, RW.enc t39.r0.table, l_1.1.sp, l_1.1.q, []⟩, ⟨3, RI.enc t39.r0.floors, l_1.2.1.sp, l_1.2.1.q, []⟩, ⟨51, RS.enc t39.r0.sills, l_1.2.2.sp, l_1.2.2.q, []⟩]) ?_ ?_
     ·replace hm := h236
      refine g_block ?_
      refine g_loopF (ι := Unit) hm (fun s_6 l_43 => True) (fun s_6 l_43 => [(7, ptr b 0), (9, slv l_35.1.q l_35.1.n l_35.1.cap), (12, ptr b_1 0), (31, .int .i64 t328.r1), (32, ptr b_3 0), (33, .int .i64 s_6.long33), (34, .int .i64 s_6.now34), (336, .int .i64 t336), (337, .int .i64 s_6.t337)]) (fun s_6 l_43 => [(b_3, .cells #[.int .i64 t328.r0.lo, .int .i64 t328.r0.hi] 25 (0, 0)), (b_1, .cells #[slv l_35.2.2.v.q l_35.2.2.v.n l_35.2.2.v.cap] 127 (0, 0)), (b, .cells #[slv l_1.1.q l_1.1.n l_1.1.cap, .int .i64 t39.r0.wind.lo, .int .i64 t39.r0.wind.hi, slv l_1.2.1.q l_1.2.1.n l_1.2.1.cap, slv l_1.2.2.q l_1.2.2.n l_1.2.2.cap] 29 (0, 0)), (l, .cells #[.slice qa0 na0 ca0, .int .i64 t39.b0_1, .int .u32 t39.b0_2] 138 (0, 0))]) (fun s_6 l_43 => [⟨3, RI.enc j_7.some9, l_35.1.sp, l_35.1.q, []⟩, ⟨43, RwH.enc l_35.2.2.rs, l_35.2.2.v.sp, l_35.2.2.v.q, dbl 46 RI j_7.states12 l_35.2.2.rs⟩, ⟨68, RW.enc t39.r0.table, l_1.1.sp, l_1.1.q, []⟩, ⟨3, RI.enc t39.r0.floors, l_1.2.1.sp, l_1.2.1.q, []⟩, ⟨51, RS.enc t39.r0.sills, l_1.2.2.sp, l_1.2.2.q, []⟩]) () (trivial) ((.cons rfl (.cons rfl (.cons rfl (.cons rfl (.cons rfl (.cons rfl (.cons rfl (.cons rfl (.cons rfl .nil)))))))))) (fun w hh => hh) (fun s_6 l_43 r_11 hpl hm h238 => ?_)
      unfold m_laurellaw01_TideParted_L6 at hm
      refine g_seq ?_
      refine g_region ?_
      refine g_val rfl rfl rfl (fun _ _ => v_lss rfl rfl) ?_
      refine g_nil ?_
      refine g_n_then ?_
      refine g_seq ?_
      refine g_cond rfl (fun h239 => ?_) (fun h239 => ?_)
      ·replace hm := ifT (of_decide_eq_true h239) hm
       refine g_skip ?_
       refine g_n_then ?_
       refine g_seq ?_
       refine g_block ?_
       refine g_seq ?_
       refine g_region ?_
       refine g_val rfl rfl rfl (fun _ _ => v_move rfl) ?_
       refine g_allocV (fun w => Try.zeroValue3 w) rfl (fun b_4 h240 => ?_)
       refine g_stS (cs' := #[_]) (S' := [_, _, _, _, _]) 0 (fun w => Try.sizeOf3 w) rfl rfl rfl rfl rfl rfl rfl ?_
       refine g_nil ?_
       refine g_n_then ?_
       refine g_seq ?_
       obtain ⟨o_15, h241, h242⟩ := bindO hm
       refine g_cut (ι := Unit) (fun l_44 => True) (fun l_44 => [(7, ptr b 0), (9, slv l_35.1.q l_35.1.n l_35.1.cap), (12, ptr b_1 0), (31, .int .i64 t328.r1), (32, ptr b_3 0), (33, .int .i64 s_6.long33), (34, .int .i64 o_15), (336, .int .i64 t336), (337, .int .i64 s_6.t337)]) (fun l_44 => [(b_4, .cells #[.int .i64 s_6.t337] 3 (0, 0)), (b_3, .cells #[.int .i64 t328.r0.lo, .int .i64 t328.r0.hi] 25 (0, 0)), (b_1, .cells #[slv l_35.2.2.v.q l_35.2.2.v.n l_35.2.2.v.cap] 127 (0, 0)), (b, .cells #[slv l_1.1.q l_1.1.n l_1.1.cap, .int .i64 t39.r0.wind.lo, .int .i64 t39.r0.wind.hi, slv l_1.2.1.q l_1.2.1.n l_1.2.1.cap, slv l_1.2.2.q l_1.2.2.n l_1.2.2.cap] 29 (0, 0)), (l, .cells #[.slice qa0 na0 ca0, .int .i64 t39.b0_1, .int .u32 t39.b0_2] 138 (0, 0))]) (fun l_44 => [⟨3, RI.enc j_7.some9, l_35.1.sp, l_35.1.q, []⟩, ⟨43, RwH.enc l_35.2.2.rs, l_35.2.2.v.sp, l_35.2.2.v.q, dbl 46 RI j_7.states12 l_35.2.2.rs⟩, ⟨68, RW.enc t39.r0.table, l_1.1.sp, l_1.1.q, []⟩, ⟨3, RI.enc t39.r0.floors, l_1.2.1.sp, l_1.2.1.q, []⟩, ⟨51, RS.enc t39.r0.sills, l_1.2.2.sp, l_1.2.2.q, []⟩]) ?_ ?_
       ·replace hm := h241
        refine g_seq ?_
        refine g_region ?_
        refine g_val rfl rfl rfl (fun _ _ => v_move rfl) ?_
        obtain ⟨t341, h243, hm⟩ := bindO hm
        refine g_val rfl rfl rfl (fun _ _ => v_addc h243 rfl rfl) ?_
        refine g_val rfl rfl rfl (fun _ _ => v_assign rfl) ?_
        refine g_nil ?_
        refine g_n_then ?_
        refine g_seq ?_
        refine g_region ?_
        refine g_val rfl rfl rfl (fun _ _ => v_move rfl) ?_
        refine g_val rfl rfl rfl (fun _ _ => v_makeFunc (u := #[]) (u' := #[_, _]) rfl rfl) ?_
        obtain ⟨t344, h244, hm⟩ := bindO hm
        refine g_sel (S' := [_, _, _, _, _]) (vs' := [_, _, _, _, _]) [2, 0, 1, 3, 4] [0, 1, 2, 3, 4] 0 (by decide) (by decide) rfl rfl rfl ?_
        refine g_callH [_, _] [] rfl rfl rfl rfl rfl rfl rfl (fun a w => Try.call78 a w) (fun w hh => c_slices_ContainsFunc_intint_4 j_7.some9 j_7.states12 s_6.t337 l_35.1.q l_35.1.n l_35.1.cap b_1 (qA l_35.2.2.v.q) l_35.2.2.v.n l_35.2.2.v.cap (toAL l_35.2.2.rs) b_4 w (HV.callee (S0 := [_, _]) (vs0 := []) hh (roC (hh.vsep (S0 := [_, _]) (vs0 := []) 0 rfl h208) (roC (hh.vsepD (S0 := [_, _]) (vs0 := []) 1 rfl h210) roN))) (vlen RI h208 rfl) (vne h208) (h208).hle (Eq.trans (h211).len (vlen RwH h210 rfl)) (AOK.q (vne h210)) (h210).hle ((h211).toDRO rfl) (hh.dsepT (S0 := [_, _]) (vs0 := []) 1 rfl h211) h244) (fun l_45 h245 => ?_)
        refine g_sel (S' := [_, _, _, _, _]) (vs' := [_, _, _, _, _]) [0, 1, 2, 3, 4] [0, 1, 2, 3, 4] 0 (by decide) (by decide) rfl rfl rfl ?_
        refine g_nil ?_
        refine g_n_then ?_
        refine g_cond rfl (fun h246 => ?_) (fun h246 => ?_)
        ·replace hm := ifT (h246) hm
         refine g_region ?_
         refine g_val rfl rfl rfl (fun _ _ => v_assign rfl) ?_
         refine g_nil ?_
         obtain rfl := Option.some.inj hm
         exact g_leaf () (trivial) ((.cons rfl (.cons rfl (.cons rfl (.cons rfl (.cons rfl (.cons rfl (.cons rfl (.cons rfl (.cons rfl .nil)))))))))) (fun w hh => hh.sel [1, 2, 0, 3, 4] [0, 1, 2, 3, 4] 0 (by decide) (by decide) rfl rfl rfl)
        ·replace hm := ifF ((fun hh => Bool.noConfusion ((h246).symm.trans hh))) hm
         refine g_skip ?_
         obtain rfl := Option.some.inj hm
         exact g_leaf () (trivial) ((.cons rfl (.cons rfl (.cons rfl (.cons rfl (.cons rfl (.cons rfl (.cons rfl (.cons rfl (.cons rfl .nil)))))))))) (fun w hh => hh.sel [1, 2, 0, 3, 4] [0, 1, 2, 3, 4] 0 (by decide) (by decide) rfl rfl rfl)
       ·intro l_44 hj
        replace hm := h242
        refine g_n_then ?_
        refine g_region ?_
        refine g_val rfl rfl rfl (fun _ _ => v_move rfl) ?_
        refine g_val rfl rfl rfl (fun _ _ => v_move rfl) ?_
        refine g_val rfl rfl rfl (fun _ _ => v_max rfl rfl) ?_
        refine g_val rfl rfl rfl (fun _ _ => v_assign rfl) ?_
        refine g_nil ?_
        refine g_n_blk ?_
        refine g_n_then ?_
        refine g_region ?_
        obtain ⟨t348, h247, hm⟩ := bindO hm
        refine g_val rfl rfl rfl (fun _ _ => v_addc h247 rfl rfl) ?_
        refine g_val rfl rfl rfl (fun _ _ => v_move rfl) ?_
        refine g_nil ?_
        obtain rfl := Option.some.inj hm
        refine g_n_then ?_
        exact g_again' _ () rfl (trivial) ((.cons rfl (.cons rfl (.cons rfl (.cons rfl (.cons rfl (.cons rfl (.cons rfl (.cons rfl (.cons rfl .nil)))))))))) (fun w hh => hh.sel [1, 2, 3, 4] [0, 1, 2, 3, 4] 0 (by decide) (by decide) rfl rfl rfl)
      ·replace hm := ifF (of_decide_eq_false h239) hm
       refine g_exit ?_
       refine g_x_then ?_
       refine g_x_then ?_
       refine g_x_blk ?_
       obtain rfl := Option.some.inj hm
       have hbo := h238 _ rfl
       subst hbo
       exact g_leaf () (trivial) ((.cons rfl (.cons rfl (.cons rfl (.cons rfl (.cons rfl (.cons rfl .nil))))))) (fun w hh => hh)
     ·intro l_42 hj
      replace hm := h237
      refine g_n_then ?_
      refine g_seq ?_
      refine g_seq ?_
      refine g_region ?_
      refine g_val rfl rfl rfl (fun _ _ => v_move rfl) ?_
      refine g_val rfl rfl rfl (fun _ _ => v_eql rfl rfl) ?_
      refine g_nil ?_
      refine g_n_then ?_
      refine g_cond rfl (fun h248 => ?_) (fun h248 => ?_)
      ·replace hm := ifT (of_decide_eq_true h248) hm
       refine g_seq ?_
       obtain ⟨o_16, h249, h250⟩ := bindO hm
       refine g_cut (ι := Unit) (fun l_46 => True) (fun l_46 => [(6, .bool o_16)]) (fun l_46 => [(b_3, .cells #[.int .i64 t328.r0.lo, .int .i64 t328.r0.hi] 25 (0, 0)), (b_1, .cells #[slv l_35.2.2.v.q l_35.2.2.v.n l_35.2.2.v.cap] 127 (0, 0)), (b, .cells #[slv l_1.1.q l_1.1.n l_1.1.cap, .int .i64 t39.r0.wind.lo, .int .i64 t39.r0.wind.hi, slv l_1.2.1.q l_1.2.1.n l_1.2.1.cap, slv l_1.2.2.q l_1.2.2.n l_1.2.2.cap] 29 (0, 0)), (l, .cells #[.slice qa0 na0 ca0, .int .i64 t39.b0_1, .int .u32 t39.b0_2] 138 (0, 0))]) (fun l_46 => [⟨43, RwH.enc l_35.2.2.rs, l_35.2.2.v.sp, l_35.2.2.v.q, dbl 46 RI j_7.states12 l_35.2.2.rs⟩, ⟨68, RW.enc t39.r0.table, l_1.1.sp, l_1.1.q, []⟩, ⟨3, RI.enc t39.r0.floors, l_1.2.1.sp, l_1.2.1.q, []⟩, ⟨51, RS.enc t39.r0.sills, l_1.2.2.sp, l_1.2.2.q, []⟩]) ?_ ?_
       ·replace hm := h249
        refine g_region ?_
        refine g_val rfl rfl rfl (fun _ _ => v_move rfl) ?_
        refine g_val rfl rfl rfl (fun _ _ => v_eql rfl rfl) ?_
        refine g_val rfl rfl rfl (fun _ _ => v_move rfl) ?_
        refine g_case 353 rfl (fun h251 => ?_) (fun h251 => ?_)
        ·replace hm := ifT (of_decide_eq_true h251) hm
         refine v_unguard rfl rfl ?_
         obtain ⟨t354, h252, hm⟩ := bindO hm
         refine g_callH [] [] rfl rfl rfl rfl rfl rfl rfl (fun a w => Try.call30 a w) (fun w hh => cx_awake  w (HV.callee (S0 := []) (vs0 := []) hh roN)  h252) (fun l_47 h253 => ?_)
         refine g_val rfl rfl rfl (fun _ _ => v_pickT rfl rfl) ?_
         refine g_val rfl rfl rfl (fun _ _ => v_assign rfl) ?_
         refine g_nil ?_
         obtain rfl := Option.some.inj hm
         exact g_leaf () (trivial) ((.cons rfl .nil)) (fun w hh => hh.sel [0, 1, 2, 3] [1, 2, 3, 4] 0 (by decide) (by decide) rfl rfl rfl)
        ·replace hm := ifF (of_decide_eq_false h251) hm
         refine g_skipG rfl rfl rfl rfl rfl rfl ?_
         refine g_val rfl rfl rfl (fun _ _ => v_pickF rfl rfl) ?_
         refine g_val rfl rfl rfl (fun _ _ => v_assign rfl) ?_
         refine g_nil ?_
         obtain rfl := Option.some.inj hm
         exact g_leaf () (trivial) ((.cons rfl .nil)) (fun w hh => hh.sel [0, 1, 2, 3] [1, 2, 3, 4] 0 (by decide) (by decide) rfl rfl rfl)
       ·intro l_46 hj
        replace hm := h250
        refine g_n_then ?_
        refine g_ret ?_
        refine g_r_then ?_
        obtain rfl := Option.some.inj hm
        refine g_done rfl (fun w hh => (.tmp rfl .nil)) (fun w hh => ⟨(), rfl, trivial, hh.sel [] [] 1 (by decide) (by decide) rfl rfl rfl⟩)
      ·replace hm := ifF (of_decide_eq_false h248) hm
       refine g_skip ?_
       refine g_n_then ?_
       refine g_seq ?_
       refine g_seq ?_
       obtain ⟨o_17, h254, h255⟩ := bindO hm
       refine g_cut (ι := Unit) (fun l_48 => True) (fun l_48 => [(7, ptr b 0), (9, slv l_35.1.q l_35.1.n l_35.1.cap), (12, ptr b_1 0), (32, ptr b_3 0), (381, .bool o_17)]) (fun l_48 => [(b_3, .cells #[.int .i64 t328.r0.lo, .int .i64 t328.r0.hi] 25 (0, 0)), (b_1, .cells #[slv l_35.2.2.v.q l_35.2.2.v.n l_35.2.2.v.cap] 127 (0, 0)), (b, .cells #[slv l_1.1.q l_1.1.n l_1.1.cap, .int .i64 t39.r0.wind.lo, .int .i64 t39.r0.wind.hi, slv l_1.2.1.q l_1.2.1.n l_1.2.1.cap, slv l_1.2.2.q l_1.2.2.n l_1.2.2.cap] 29 (0, 0)), (l, .cells #[.slice qa0 na0 ca0, .int .i64 t39.b0_1, .int .u32 t39.b0_2] 138 (0, 0))]) (fun l_48 => [⟨3, RI.enc j_7.some9, l_35.1.sp, l_35.1.q, []⟩, ⟨43, RwH.enc l_35.2.2.rs, l_35.2.2.v.sp, l_35.2.2.v.q, dbl 46 RI j_7.states12 l_35.2.2.rs⟩, ⟨68, RW.enc t39.r0.table, l_1.1.sp, l_1.1.q, []⟩, ⟨3, RI.enc t39.r0.floors, l_1.2.1.sp, l_1.2.1.q, []⟩, ⟨51, RS.enc t39.r0.sills, l_1.2.2.sp, l_1.2.2.q, []⟩]) ?_ ?_
       ·replace hm := h254
        refine g_draw none (.free 0 (.free 1 (.free 2 (.free 3 (.hoist 4 (.free 5 (.hoist 6 (.free 7 (.free 8 (.free 9 (.free 10 (.free 11 (.free 12 (.free 13 (.hoist 14 (.hoist 15 (.one 16 (.free 17 (.free 18 (.free 19 (.free 20 (.hoist 21 (.hoist 22 (.one 23 (.free 24 (.free 25 .done)))))))))))))))))))))))))) _ rfl (by decide +kernel) (fun w k hh => hh.draw k) (fun w hh => hh) ?_
        refine p_free rfl rfl rfl rfl (fun _ _ => v_move rfl) ?_
        refine p_free rfl rfl rfl rfl (fun _ _ => v_neq rfl rfl) ?_
        refine p_free rfl rfl rfl rfl (fun _ _ => v_move rfl) ?_
        refine g_case 358 rfl (fun h256 => ?_) (fun h256 => ?_)
        ·replace hm := ifF (of_ndec_true h256) hm
         refine p_skipF rfl rfl rfl rfl rfl rfl rfl ?_
         refine p_skip rfl rfl rfl rfl rfl rfl rfl ?_
         refine p_skipF rfl rfl rfl rfl rfl rfl rfl ?_
         refine p_skip rfl rfl rfl rfl rfl rfl rfl ?_
         refine p_skipF rfl rfl rfl rfl rfl rfl rfl ?_
         refine p_skipF rfl rfl rfl rfl rfl rfl rfl ?_
         refine p_skipF rfl rfl rfl rfl rfl rfl rfl ?_
         refine p_skipF rfl rfl rfl rfl rfl rfl rfl ?_
         refine p_free rfl rfl rfl rfl (fun _ _ => v_pickT rfl rfl) ?_
         refine p_free rfl rfl rfl rfl (fun _ _ => v_move rfl) ?_
         refine p_skipF rfl rfl rfl rfl rfl rfl rfl ?_
         refine p_skip rfl rfl rfl rfl rfl rfl rfl ?_
         refine p_skip rfl rfl rfl rfl rfl rfl rfl ?_
         refine p_one rfl ?_
         refine g_skipG rfl rfl rfl rfl rfl rfl ?_
         refine p_next (fun w hh => hh) ?_
         refine p_skipF rfl rfl rfl rfl rfl rfl rfl ?_
         refine p_free rfl rfl rfl rfl (fun _ _ => v_pickT rfl rfl) ?_
         refine p_free rfl rfl rfl rfl (fun _ _ => v_move rfl) ?_
         refine p_skipF rfl rfl rfl rfl rfl rfl rfl ?_
         refine p_skip rfl rfl rfl rfl rfl rfl rfl ?_
         refine p_skip rfl rfl rfl rfl rfl rfl rfl ?_
         refine p_one rfl ?_
         refine g_skipG rfl rfl rfl rfl rfl rfl ?_
         refine p_next (fun w hh => hh) ?_
         refine p_skipF rfl rfl rfl rfl rfl rfl rfl ?_
         refine p_free rfl rfl rfl rfl (fun _ _ => v_pickT rfl rfl) ?_
         refine p_done ?_
         obtain rfl := Option.some.inj hm
         exact g_leaf () (trivial) ((.cons rfl (.cons rfl (.cons rfl (.cons rfl (.cons rfl .nil)))))) (fun w hh => hh)
        ·replace hm := ifT (of_ndec_false h256) hm
         refine p_freeG rfl rfl rfl rfl rfl rfl (fun w _ => v_fieldAddr 1 (Try.runUnderlying25 w) rfl (Try.sizeOf3 w) rfl) ?_
         refine p_hoistG rfl rfl rfl rfl rfl rfl (fun w hh => v_load (Try.isAgg3 w) rfl (hh.cell 0 rfl rfl)) ?_
         refine p_freeG rfl rfl rfl rfl rfl rfl (fun w _ => v_fieldAddr 0 (Try.runUnderlying25 w) rfl (Try.sizeOf3 w) rfl) ?_
         refine p_hoistG rfl rfl rfl rfl rfl rfl (fun w hh => v_load (Try.isAgg3 w) rfl (hh.cell 0 rfl rfl)) ?_
         obtain ⟨t363, h257, hm⟩ := bindO hm
         refine p_freeG rfl rfl rfl rfl rfl rfl (fun _ _ => v_subc h257 rfl rfl) ?_
         obtain ⟨t364, h258, hm⟩ := bindO hm
         refine p_freeG rfl rfl rfl rfl rfl rfl (fun _ _ => v_addc h258 rfl rfl) ?_
         refine p_freeG rfl rfl rfl rfl rfl rfl (fun _ _ => v_move rfl) ?_
         refine p_freeG rfl rfl rfl rfl rfl rfl (fun _ _ => v_neq rfl rfl) ?_
         refine p_free rfl rfl rfl rfl (fun _ _ => v_pickF rfl rfl) ?_
         refine p_free rfl rfl rfl rfl (fun _ _ => v_move rfl) ?_
         refine g_case 368 rfl (fun h259 => ?_) (fun h259 => ?_)
         ·replace hm := ifF (of_ndec_true h259) hm
          refine p_skipF rfl rfl rfl rfl rfl rfl rfl ?_
          refine p_skip rfl rfl rfl rfl rfl rfl rfl ?_
          refine p_skip rfl rfl rfl rfl rfl rfl rfl ?_
          refine p_one rfl ?_
          refine g_skipG rfl rfl rfl rfl rfl rfl ?_
          refine p_next (fun w hh => hh) ?_
          refine p_skipF rfl rfl rfl rfl rfl rfl rfl ?_
          refine p_free rfl rfl rfl rfl (fun _ _ => v_pickT rfl rfl) ?_
          refine p_free rfl rfl rfl rfl (fun _ _ => v_move rfl) ?_
          refine p_skipF rfl rfl rfl rfl rfl rfl rfl ?_
          refine p_skip rfl rfl rfl rfl rfl rfl rfl ?_
          refine p_skip rfl rfl rfl rfl rfl rfl rfl ?_
          refine p_one rfl ?_
          refine g_skipG rfl rfl rfl rfl rfl rfl ?_
          refine p_next (fun w hh => hh) ?_
          refine p_skipF rfl rfl rfl rfl rfl rfl rfl ?_
          refine p_free rfl rfl rfl rfl (fun _ _ => v_pickT rfl rfl) ?_
          refine p_done ?_
          obtain rfl := Option.some.inj hm
          exact g_leaf () (trivial) ((.cons rfl (.cons rfl (.cons rfl (.cons rfl (.cons rfl .nil)))))) (fun w hh => hh)
         ·replace hm := ifT (of_ndec_false h259) hm
          refine p_freeG rfl rfl rfl rfl rfl rfl (fun w _ => v_fieldAddr 0 (Try.runUnderlying25 w) rfl (Try.sizeOf3 w) rfl) ?_
          refine p_hoistG rfl rfl rfl rfl rfl rfl (fun w hh => v_load (Try.isAgg3 w) rfl (hh.cell 0 rfl rfl)) ?_
          refine p_hoistG rfl rfl rfl rfl rfl rfl (fun w hh => v_loadAgg (vs := [_, _, _, _, _]) (Try.isAgg29 w) (Try.sizeOf29 w) rfl (hh.cells 2 rfl rfl)) ?_
          refine p_one rfl ?_
          refine v_unguard rfl rfl ?_
          obtain ⟨t372, h260, hm⟩ := bindO hm
          refine g_callH [] [] rfl rfl rfl rfl rfl rfl rfl (fun a w => Try.call26 a w) (fun w hh => c_laurellaw01_first t39.r0 (qA l_1.1.q) l_1.1.n l_1.1.cap (qA l_1.2.1.q) l_1.2.1.n l_1.2.1.cap (qA l_1.2.2.q) l_1.2.2.n l_1.2.2.cap w (HV.callee (S0 := []) (vs0 := []) hh (roC (hh.vsepA (S0 := []) (vs0 := []) 2 rfl h5) (roC (hh.vsepA (S0 := []) (vs0 := []) 3 rfl h6) (roC (hh.vsepA (S0 := []) (vs0 := []) 4 rfl h7) roN)))) (vlen RW h5 rfl) (AOK.q (vne h5)) (h5).hle (vlen RI h6 rfl) (AOK.q (vne h6)) (h6).hle (vlen RS h7 rfl) (AOK.q (vne h7)) (h7).hle h260) (fun l_49 h261 => ?_)
          refine p_next (fun w hh => hh) ?_
          refine p_freeG rfl rfl rfl rfl rfl rfl (fun _ _ => v_lss rfl rfl) ?_
          refine p_free rfl rfl rfl rfl (fun _ _ => v_pickF rfl rfl) ?_
          refine p_free rfl rfl rfl rfl (fun _ _ => v_move rfl) ?_
          refine g_case 375 rfl (fun h262 => ?_) (fun h262 => ?_)
          ·replace hm := ifT (of_decide_eq_true h262) hm
           refine p_skipF rfl rfl rfl rfl rfl rfl rfl ?_
           refine p_skip rfl rfl rfl rfl rfl rfl rfl ?_
           refine p_skip rfl rfl rfl rfl rfl rfl rfl ?_
           refine p_one rfl ?_
           refine g_skipG rfl rfl rfl rfl rfl rfl ?_
           refine p_next (fun w hh => hh) ?_
           refine p_skipF rfl rfl rfl rfl rfl rfl rfl ?_
           refine p_free rfl rfl rfl rfl (fun _ _ => v_pickT rfl rfl) ?_
           refine p_done ?_
           obtain rfl := Option.some.inj hm
           exact g_leaf () (trivial) ((.cons rfl (.cons rfl (.cons rfl (.cons rfl (.cons rfl .nil)))))) (fun w hh => hh)
          ·replace hm := ifF (of_decide_eq_false h262) hm
           refine p_freeG rfl rfl rfl rfl rfl rfl (fun w _ => v_fieldAddr 1 (Try.runUnderlying25 w) rfl (Try.sizeOf3 w) rfl) ?_
           refine p_hoistG rfl rfl rfl rfl rfl rfl (fun w hh => v_load (Try.isAgg3 w) rfl (hh.cell 0 rfl rfl)) ?_
           refine p_hoistG rfl rfl rfl rfl rfl rfl (fun w hh => v_loadAgg (vs := [_, _, _, _, _]) (Try.isAgg29 w) (Try.sizeOf29 w) rfl (hh.cells 2 rfl rfl)) ?_
           refine p_one rfl ?_
           refine v_unguard rfl rfl ?_
           obtain ⟨t379, h263, hm⟩ := bindO hm
           refine g_callH [] [] rfl rfl rfl rfl rfl rfl rfl (fun a w => Try.call27 a w) (fun w hh => c_laurellaw01_last t39.r0 (qA l_1.1.q) l_1.1.n l_1.1.cap (qA l_1.2.1.q) l_1.2.1.n l_1.2.1.cap (qA l_1.2.2.q) l_1.2.2.n l_1.2.2.cap w (HV.callee (S0 := []) (vs0 := []) hh (roC (hh.vsepA (S0 := []) (vs0 := []) 2 rfl h5) (roC (hh.vsepA (S0 := []) (vs0 := []) 3 rfl h6) (roC (hh.vsepA (S0 := []) (vs0 := []) 4 rfl h7) roN)))) (vlen RW h5 rfl) (AOK.q (vne h5)) (h5).hle (vlen RI h6 rfl) (AOK.q (vne h6)) (h6).hle (vlen RS h7 rfl) (AOK.q (vne h7)) (h7).hle h263) (fun l_50 h264 => ?_)
           refine p_next (fun w hh => hh) ?_
           refine p_freeG rfl rfl rfl rfl rfl rfl (fun _ _ => v_gtr rfl rfl) ?_
           refine p_free rfl rfl rfl rfl (fun _ _ => v_pickF rfl rfl) ?_
           refine p_done ?_
           obtain rfl := Option.some.inj hm
           exact g_leaf () (trivial) ((.cons rfl (.cons rfl (.cons rfl (.cons rfl (.cons rfl .nil)))))) (fun w hh => hh)
       ·intro l_48 hj
        replace hm := h255
        refine g_n_then ?_
        refine g_cond rfl (fun h265 => ?_) (fun h265 => ?_)
        ·replace hm := ifT (h265) hm
         refine g_seq ?_
         refine g_region ?_
         refine g_val rfl rfl rfl (fun _ _ => v_assign rfl) ?_
         refine g_nil ?_
         refine g_n_then ?_
         refine g_ret ?_
         refine g_r_then ?_
         obtain rfl := Option.some.inj hm
         refine g_done rfl (fun w hh => (.tmp rfl .nil)) (fun w hh => ⟨(), rfl, trivial, hh.sel [] [] 1 (by decide) (by decide) rfl rfl rfl⟩)
        ·replace hm := ifF ((fun hh => Bool.noConfusion ((h265).symm.trans hh))) hm
         refine g_skip ?_
         refine g_n_then ?_
         refine g_seq ?_
         refine g_seq ?_
         refine g_region ?_
         refine g_val rfl rfl rfl (fun w _ => v_fieldAddr 0 (Try.runUnderlying25 w) rfl (Try.sizeOf3 w) rfl) ?_
         refine g_val rfl rfl rfl (fun w hh => v_load (Try.isAgg3 w) rfl (hh.cell 0 rfl rfl)) ?_
         refine g_allocV (fun w => Try.zeroValue3 w) rfl (fun b_5 h266 => ?_)
         refine g_stS (cs' := #[_]) (S' := [_, _, _, _, _]) 0 (fun w => Try.sizeOf3 w) rfl rfl rfl rfl rfl rfl rfl ?_
         refine g_nil ?_
         refine g_n_then ?_
         obtain ⟨o_18, h267, h268⟩ := bindO hm
         refine g_cut (ι := Unit) (fun j_8 => o_18 = .inl j_8) (fun j_8 => []) (fun j_8 => [(b_3, .cells #[.int .i64 t328.r0.lo, .int .i64 t328.r0.hi] 25 (0, 0)), (b_1, .cells #[slv l_35.2.2.v.q l_35.2.2.v.n l_35.2.2.v.cap] 127 (0, 0)), (b, .cells #[slv l_1.1.q l_1.1.n l_1.1.cap, .int .i64 t39.r0.wind.lo, .int .i64 t39.r0.wind.hi, slv l_1.2.1.q l_1.2.1.n l_1.2.1.cap, slv l_1.2.2.q l_1.2.2.n l_1.2.2.cap] 29 (0, 0)), (l, .cells #[.slice qa0 na0 ca0, .int .i64 t39.b0_1, .int .u32 t39.b0_2] 138 (0, 0))]) (fun j_8 => [⟨43, RwH.enc l_35.2.2.rs, l_35.2.2.v.sp, l_35.2.2.v.q, dbl 46 RI j_7.states12 l_35.2.2.rs⟩, ⟨68, RW.enc t39.r0.table, l_1.1.sp, l_1.1.q, []⟩, ⟨3, RI.enc t39.r0.floors, l_1.2.1.sp, l_1.2.1.q, []⟩, ⟨51, RS.enc t39.r0.sills, l_1.2.2.sp, l_1.2.2.q, []⟩]) ?_ ?_
         ·replace hm := h267
          refine g_block ?_
          refine g_loopF (ι := Nat) hm (fun s_7 l_51 => True) (fun s_7 l_51 => [(7, ptr b 0), (9, slv l_35.1.q l_35.1.n l_35.1.cap), (12, ptr b_1 0), (32, ptr b_3 0), (36, ptr l_51 0)]) (fun s_7 l_51 => [(b_3, .cells #[.int .i64 t328.r0.lo, .int .i64 t328.r0.hi] 25 (0, 0)), (b_1, .cells #[slv l_35.2.2.v.q l_35.2.2.v.n l_35.2.2.v.cap] 127 (0, 0)), (b, .cells #[slv l_1.1.q l_1.1.n l_1.1.cap, .int .i64 t39.r0.wind.lo, .int .i64 t39.r0.wind.hi, slv l_1.2.1.q l_1.2.1.n l_1.2.1.cap, slv l_1.2.2.q l_1.2.2.n l_1.2.2.cap] 29 (0, 0)), (l, .cells #[.slice qa0 na0 ca0, .int .i64 t39.b0_1, .int .u32 t39.b0_2] 138 (0, 0)), (l_51, .cells #[.int .i64 s_7] 3 (0, 0))]) (fun s_7 l_51 => [⟨3, RI.enc j_7.some9, l_35.1.sp, l_35.1.q, []⟩, ⟨43, RwH.enc l_35.2.2.rs, l_35.2.2.v.sp, l_35.2.2.v.q, dbl 46 RI j_7.states12 l_35.2.2.rs⟩, ⟨68, RW.enc t39.r0.table, l_1.1.sp, l_1.1.q, []⟩, ⟨3, RI.enc t39.r0.floors, l_1.2.1.sp, l_1.2.1.q, []⟩, ⟨51, RS.enc t39.r0.sills, l_1.2.2.sp, l_1.2.2.q, []⟩]) b_5 (trivial) ((.cons rfl (.cons rfl (.cons rfl (.cons rfl (.cons rfl .nil)))))) (fun w hh => hh.sel [1, 2, 3, 4, 0] [0, 1, 2, 3, 4] 0 (by decide) (by decide) rfl rfl rfl) (fun s_7 l_51 r_12 hpl hm h269 => ?_)
          unfold m_laurellaw01_TideParted_L7 at hm
          refine g_seq ?_
          refine g_seq ?_
          refine g_region ?_
          refine g_val rfl rfl rfl (fun w hh => v_load (Try.isAgg3 w) rfl (hh.cell 4 rfl rfl)) ?_
          refine g_val rfl rfl rfl (fun w _ => v_fieldAddr 1 (Try.runUnderlying25 w) rfl (Try.sizeOf3 w) rfl) ?_
          refine g_val rfl rfl rfl (fun w hh => v_load (Try.isAgg3 w) rfl (hh.cell 0 rfl rfl)) ?_
          refine g_val rfl rfl rfl (fun _ _ => v_leq rfl rfl) ?_
          refine g_nil ?_
          refine g_n_then ?_
          refine g_cond rfl (fun h270 => ?_) (fun h270 => ?_)
          ·replace hm := ifT (of_decide_eq_true h270) hm
           refine g_skip ?_
           refine g_n_then ?_
           refine g_seq ?_
           refine g_block ?_
           refine g_seq ?_
           refine g_region ?_
           refine g_val rfl rfl rfl (fun _ _ => v_move rfl) ?_
           refine g_val rfl rfl rfl (fun _ _ => v_makeFunc (u := #[]) (u' := #[_, _, _]) rfl rfl) ?_
           obtain ⟨t392, h271, hm⟩ := bindO hm
           refine g_sel (S' := [_, _, _, _, _]) (vs' := [_, _, _, _, _]) [1, 4, 2, 0, 3] [0, 1, 2, 3, 4] 0 (by decide) (by decide) rfl rfl rfl ?_
           refine g_callH [_, _, _] [] rfl rfl rfl rfl rfl rfl rfl (fun a w => Try.call78 a w) (fun w hh => c_slices_ContainsFunc_intint_5 j_7.some9 j_7.states12 s_7 t39.r0.table t39.r0.wind.lo t39.r0.wind.hi t39.r0.floors t39.r0.sills l_35.1.q l_35.1.n l_35.1.cap b_1 (qA l_35.2.2.v.q) l_35.2.2.v.n l_35.2.2.v.cap (toAL l_35.2.2.rs) l_51 b l_1.1.q l_1.1.n l_1.1.cap l_1.2.1.q l_1.2.1.n l_1.2.1.cap l_1.2.2.q l_1.2.2.n l_1.2.2.cap w (HV.callee (S0 := [_, _, _]) (vs0 := []) hh (roC (hh.vsep (S0 := [_, _, _]) (vs0 := []) 0 rfl h208) (roC (hh.vsepD (S0 := [_, _, _]) (vs0 := []) 1 rfl h210) (roC (hh.vsep (S0 := [_, _, _]) (vs0 := []) 2 rfl h5) (roC (hh.vsep (S0 := [_, _, _]) (vs0 := []) 3 rfl h6) (roC (hh.vsep (S0 := [_, _, _]) (vs0 := []) 4 rfl h7) roN)))))) (vlen RI h208 rfl) (vne h208) (h208).hle (Eq.trans (h211).len (vlen RwH h210 rfl)) (AOK.q (vne h210)) (h210).hle ((h211).toDRO rfl) (hh.dsepT (S0 := [_, _, _]) (vs0 := []) 1 rfl h211) (vlen RW h5 rfl) (vne h5) (h5).hle (vlen RI h6 rfl) (vne h6) (h6).hle (vlen RS h7 rfl) (vne h7) (h7).hle h271) (fun l_52 h272 => ?_)
           refine g_sel (S' := [_, _, _, _, _]) (vs' := [_, _, _, _, _]) [0, 1, 2, 3, 4] [0, 1, 2, 3, 4] 0 (by decide) (by decide) rfl rfl rfl ?_
           refine g_nil ?_
           refine g_n_then ?_
           refine g_cond rfl (fun h273 => ?_) (fun h273 => ?_)
           ·replace hm := ifT (h273) hm
            refine g_seq ?_
            refine g_region ?_
            refine g_val rfl rfl rfl (fun _ _ => v_assign rfl) ?_
            refine g_nil ?_
            refine g_n_then ?_
            refine g_ret ?_
            refine g_r_blk ?_
            refine g_r_then ?_
            refine g_r_then ?_
            refine g_r_blk ?_
            obtain rfl := Option.some.inj hm
            have hbo := h269 _ rfl
            subst hbo
            refine g_r_then ?_
            replace hm := ocR h268
            refine g_r_then ?_
            obtain rfl := Option.some.inj hm
            refine g_done rfl (fun w hh => (.tmp rfl .nil)) (fun w hh => ⟨(), rfl, trivial, hh.sel [] [] 1 (by decide) (by decide) rfl rfl rfl⟩)
           ·replace hm := ifF ((fun hh => Bool.noConfusion ((h273).symm.trans hh))) hm
            refine g_skip ?_
            refine g_n_blk ?_
            refine g_n_then ?_
            refine g_seq ?_
            refine g_seq ?_
            refine g_region ?_
            refine g_val rfl rfl rfl (fun w hh => v_load (Try.isAgg3 w) rfl (hh.cell 1 rfl rfl)) ?_
            refine g_nil ?_
            refine g_n_then ?_
            refine g_region ?_
            refine g_allocV (fun w => Try.zeroValue3 w) rfl (fun b_6 h274 => ?_)
            refine g_stS (cs' := #[_]) (S' := [_, _, _, _, _, _]) 0 (fun w => Try.sizeOf3 w) rfl rfl rfl rfl rfl rfl rfl ?_
            refine g_nil ?_
            refine g_n_then ?_
            refine g_region ?_
            refine g_val rfl rfl rfl (fun w hh => v_load (Try.isAgg3 w) rfl (hh.cell 0 rfl rfl)) ?_
            obtain ⟨t389, h275, hm⟩ := bindO hm
            refine g_val rfl rfl rfl (fun _ _ => v_addc h275 rfl rfl) ?_
            refine g_stS (cs' := #[_]) (S' := [_, _, _, _, _, _]) 0 (fun w => Try.sizeOf3 w) rfl rfl rfl rfl rfl rfl rfl ?_
            refine g_nil ?_
            obtain rfl := Option.some.inj hm
            refine g_n_then ?_
            exact g_again' _ b_6 rfl (trivial) ((.cons rfl (.cons rfl (.cons rfl (.cons rfl (.cons rfl .nil)))))) (fun w hh => hh.sel [4, 1, 3, 5, 0] [0, 1, 2, 3, 4] 0 (by decide) (by decide) rfl rfl rfl)
          ·replace hm := ifF (of_decide_eq_false h270) hm
           refine g_exit ?_
           refine g_x_then ?_
           refine g_x_then ?_
           refine g_x_blk ?_
           obtain rfl := Option.some.inj hm
           have hbo := h269 _ rfl
           subst hbo
           exact g_leaf () (rfl) (.nil) (fun w hh => hh.sel [0, 1, 2, 3] [1, 2, 3, 4] 0 (by decide) (by decide) rfl rfl rfl)
         ·intro j_8 hj
          have h276 := hj
          subst h276
          replace hm := ocL h268
          refine g_n_then ?_
          refine g_seq ?_
          refine g_region ?_
          obtain ⟨t394, h277, hm⟩ := bindO hm
          refine g_callH [] [] rfl rfl rfl rfl rfl rfl rfl (fun a w => Try.call30 a w) (fun w hh => cx_awake  w (HV.callee (S0 := []) (vs0 := []) hh roN)  h277) (fun l_53 h278 => ?_)
          refine g_val rfl rfl rfl (fun _ _ => v_assign rfl) ?_
          refine g_nil ?_
          refine g_n_then ?_
          refine g_ret ?_
          obtain rfl := Option.some.inj hm
          refine g_done rfl (fun w hh => (.tmp rfl .nil)) (fun w hh => ⟨(), rfl, trivial, hh.sel [] [] 1 (by decide) (by decide) rfl rfl rfl⟩)
end Go.Proofs.Wk

namespace Go.Proofs.Wk
open Go Go.Gx Go.Pl
set_option linter.unusedVariables false
/-! ### spans lie in order, and fill the row of a place -/
theorem spansN_sorted {p : Int → Bool} {a : Int} : ∀ k, (spansN p a k).acc.Pairwise (fun x y => x.hi + 1 < y.lo)
  | 0 => by simp [spansN]
  | k + 1 => by
    have ih := spansN_sorted (p := p) (a := a) k
    have hs := si_n (p := p) (a := a) k
    rw [spansN_succ]
    generalize spansN p a k = x at ih hs
    unfold spanStep
    cases hp : p (a + k) with
    | true => cases ho : x.op <;> exact ih
    | false =>
      unfold shutF
      cases ho : x.op with
      | false => exact ih
      | true =>
        refine List.pairwise_append.2 ⟨ih, List.pairwise_singleton _ _, fun y hy z hz => ?_⟩
        rw [List.mem_singleton] at hz
        subst hz
        have h1 := hs.acc y hy
        have h2 := hs.op ho
        refine Int.not_le.1 fun hle => ?_
        have := h2.2.2.1 (y.hi + 1) hle (by omega)
        rw [h1.2.2.2.2.1] at this
        exact absurd this (by decide)
theorem spans_sorted {s : Sands} (hG : Good s) {p : Int → Bool} : (spansF s p).Pairwise (fun x y => x.hi + 1 < y.lo) := by
  have ih := spansN_sorted (p := p) (a := firstM s) (dayN s)
  have hs := si_n (p := p) (a := firstM s) (dayN s)
  unfold spansF
  generalize spansN p (firstM s) (dayN s) = x at ih hs
  unfold shutF
  cases ho : x.op with
  | false => exact ih
  | true =>
    refine List.pairwise_append.2 ⟨ih, List.pairwise_singleton _ _, fun y hy z hz => ?_⟩
    rw [List.mem_singleton] at hz
    subst hz
    have h1 := hs.acc y hy
    have h2 := hs.op ho
    refine Int.not_le.1 fun hle => ?_
    have := h2.2.2.1 (y.hi + 1) hle (by omega)
    rw [h1.2.2.2.2.1] at this
    exact absurd this (by decide)
theorem pw_getD {α : Type} {R : α → α → Prop} {d : α} {l : List α} (h : l.Pairwise R) {i j : Nat} (hij : i < j) (hj : j < l.length) : R (l.getD i d) (l.getD j d) := by
  have h1 := List.pairwise_iff_getElem.1 h i j (by omega) hj hij
  simpa [List.getD_eq_getElem?_getD, hj, show i < l.length by omega] using h1
/-- between two spans nothing is so -/
theorem spans_gap {s : Sands} (hG : Good s) {p : Int → Bool} {i : Nat} (hi : i ≤ (spansF s p).length) {m : Int} (hd : dayF s m = true) (h0 : ∀ j, j < i → ((spansF s p).getD j default).hi < m) (h1 : i < (spansF s p).length → m < ((spansF s p).getD i default).lo) : p m = false := by
  cases hp : p m with
  | false => rfl
  | true =>
    obtain ⟨y, hy, hy1, hy2⟩ := (spans_runs hG (p := p)).2 m hd hp
    obtain ⟨j, hj, rfl⟩ := List.getElem_of_mem hy
    have hg : (spansF s p).getD j default = (spansF s p)[j] := by simp [List.getD_eq_getElem?_getD, hj]
    rcases Nat.lt_trichotomy j i with h | h | h
    · have := h0 j h; rw [hg] at this; omega
    · subst h
      have := h1 hj; rw [hg] at this; omega
    · have h2 := h1 (by omega)
      have h3 := pw_getD (d := default) (spans_sorted hG (p := p)) h hj
      have h4 := ((spans_runs hG (p := p)).1 _ (mem_getD (d := default) (show i < (spansF s p).length by omega))).2.1
      rw [hg] at h3
      omega
/-- a row, filled up to some minute -/
def fillR (p : Int → Bool) (st a : Int) (N t : Nat) (r0 : Nat → Int) : List Int := (List.range N).map fun k : Nat => if k < t ∧ p (a + (k : Int)) = true then st else r0 k
def cntR (p : Int → Bool) (a : Int) (t : Nat) : Nat := ((List.range t).filter fun k : Nat => p (a + (k : Int))).length
theorem fill_len {p : Int → Bool} {st a : Int} {N t : Nat} {r0 : Nat → Int} : (fillR p st a N t r0).length = N := by simp [fillR]
theorem fill_step {p : Int → Bool} {st a : Int} {N t : Nat} {r0 : Nat → Int} (ht : t < N) (hp : p (a + (t : Int)) = true) : (fillR p st a N t r0).set t st = fillR p st a N (t + 1) r0 := by
  unfold fillR
  rw [range_set]
  apply List.map_congr_left
  intro k hk
  by_cases h : k = t
  · subst h
    rw [if_pos rfl, if_pos ⟨by omega, hp⟩]
  · rw [if_neg h]
    by_cases h2 : k < t
    · simp only [h2, true_and, show k < t + 1 by omega]
    · simp only [h2, false_and, show ¬ k < t + 1 by omega]
theorem fill_gap {p : Int → Bool} {st a : Int} {N t u : Nat} {r0 : Nat → Int} (htu : t ≤ u) (hp : ∀ k : Nat, t ≤ k → k < u → p (a + (k : Int)) = false) : fillR p st a N u r0 = fillR p st a N t r0 := by
  unfold fillR
  apply List.map_congr_left
  intro k _
  by_cases h : k < t
  · simp only [h, show k < u by omega]
  · by_cases h2 : k < u
    · simp [h, hp k (by omega) h2]
    · simp [h, h2]
theorem cnt_step {p : Int → Bool} {a : Int} {t : Nat} (hp : p (a + (t : Int)) = true) : cntR p a (t + 1) = cntR p a t + 1 := by
  unfold cntR
  rw [List.range_succ, List.filter_append, List.length_append]
  simp [hp]
theorem cnt_skip {p : Int → Bool} {a : Int} {t : Nat} (hp : p (a + (t : Int)) = false) : cntR p a (t + 1) = cntR p a t := by
  unfold cntR
  rw [List.range_succ, List.filter_append, List.length_append]
  simp [hp]
theorem cnt_gap {p : Int → Bool} {a : Int} {t : Nat} : ∀ (d : Nat), (∀ k : Nat, t ≤ k → k < t + d → p (a + (k : Int)) = false) → cntR p a (t + d) = cntR p a t
  | 0, _ => rfl
  | d + 1, hp => by
    rw [← Nat.add_assoc, cnt_skip (hp (t + d) (by omega) (by omega))]
    exact cnt_gap d (fun k h1 h2 => hp k h1 (by omega))
theorem cnt_le {p : Int → Bool} {a : Int} {t : Nat} : cntR p a t ≤ t := by
  unfold cntR
  have := List.length_filter_le (fun k : Nat => p (a + (k : Int))) (List.range t)
  simpa using this
theorem ix_set {α : Type} {l : List α} {p : Nat} {x : α} (h : p < l.length) : ix (l.set p x) (p : Int) = some x := by
  unfold ix
  rw [if_neg (by omega), Int.toNat_natCast, List.getElem?_set_self h]
/-- the minutes up to which the first spans have filled the row -/
def tpos (L : List Span) (a : Int) : Nat → Nat
  | 0 => 0
  | i + 1 => ((L.getD i default).hi + 1 - a).toNat
theorem parted_L3 {s : Sands} (hG : Good s) {o : m_laurellaw01_Made_R} (ho : o.r0 = s) {p : Int → Bool} {x : Span} (h1 : firstM s ≤ x.lo) (h2 : x.lo ≤ x.hi) (h3 : x.hi ≤ lastM s) (hp : ∀ m, x.lo ≤ m → m ≤ x.hi → p m = true) {S0 : m_laurellaw01_TideParted_S0} {P : Nat} (hP : S0.t62 = (P : Int)) {st : Int} {SS : List (List Int)} (hS : P < SS.length) {r0 : Nat → Int} {m0 : Nat} (hm : m0 ≤ 1000000) :
    iterM FU (m_laurellaw01_TideParted_L3 x S0 o st) ⟨((m0 + cntR p (firstM s) (x.lo - firstM s).toNat : Nat) : Int), x.lo, SS.set P (fillR p st (firstM s) (dayN s) (x.lo - firstM s).toNat r0)⟩ =
      some ⟨((m0 + cntR p (firstM s) (x.hi + 1 - firstM s).toNat : Nat) : Int), SS.set P (fillR p st (firstM s) (dayN s) (x.hi + 1 - firstM s).toNat r0)⟩ := by
  subst ho
  have htl := hG.tl
  have hds := day_span hG
  obtain ⟨hn, hn2⟩ := Go.Pl.dayN_eq hG
  have key := iterM_run (f := m_laurellaw01_TideParted_L3 x S0 o st) (b := ⟨((m0 + cntR p (firstM o.r0) (x.hi + 1 - firstM o.r0).toNat : Nat) : Int), SS.set P (fillR p st (firstM o.r0) (dayN o.r0) (x.hi + 1 - firstM o.r0).toNat r0)⟩)
    (fun k : Nat => (⟨((m0 + cntR p (firstM o.r0) ((x.lo - firstM o.r0).toNat + k) : Nat) : Int), x.lo + (k : Int), SS.set P (fillR p st (firstM o.r0) (dayN o.r0) ((x.lo - firstM o.r0).toNat + k) r0)⟩ : m_laurellaw01_TideParted_S3)) (x.hi + 1 - x.lo).toNat (fun k hk => by
    have hpk : p (firstM o.r0 + (((x.lo - firstM o.r0).toNat + k : Nat) : Int)) = true := hp _ (by omega) (by omega)
    have hcl := cnt_le (p := p) (a := firstM o.r0) (t := (x.lo - firstM o.r0).toNat + k)
    unfold m_laurellaw01_TideParted_L3
    dsimp only
    rw [if_pos (by omega), hP, ix_set hS, Option.bind_some, lawfirst_eq (by omega), Option.bind_some, subc_eq (by omega), Option.bind_some,
      show x.lo + (k : Int) - firstM o.r0 = (((x.lo - firstM o.r0).toNat + k : Nat) : Int) by omega, ix_nat 0 (by rw [fill_len]; omega), Option.bind_some, Option.bind_some, Option.bind_some, addc_eq (by omega), Option.bind_some, addc_eq (by omega), Option.bind_some, Int.toNat_natCast, Int.toNat_natCast, fill_step (by omega) hpk, List.set_set]
    rw [show (x.lo - firstM o.r0).toNat + (k + 1) = (x.lo - firstM o.r0).toNat + k + 1 by omega, cnt_step hpk]
    congr 3
    omega) (by
    unfold m_laurellaw01_TideParted_L3
    dsimp only
    rw [if_neg (by omega), show (x.lo - firstM o.r0).toNat + (x.hi + 1 - x.lo).toNat = (x.hi + 1 - firstM o.r0).toNat by omega]) FU (FU_lt (by omega))
  simpa using key
/-- what the spans say of each other, by their places in the list -/
theorem tpos_le {s : Sands} (hG : Good s) {p : Int → Bool} {i : Nat} (hi : i < (spansF s p).length) : tpos (spansF s p) (firstM s) i ≤ (((spansF s p).getD i default).lo - firstM s).toNat ∧ (0 < i → ((spansF s p).getD (i - 1) default).hi + 1 < ((spansF s p).getD i default).lo) := by
  cases i with
  | zero => exact ⟨Nat.zero_le _, fun h => absurd h (Nat.lt_irrefl 0)⟩
  | succ i =>
    have h := pw_getD (d := default) (spans_sorted hG (p := p)) (show i < i + 1 by omega) hi
    refine ⟨?_, fun _ => h⟩
    have e : tpos (spansF s p) (firstM s) (i + 1) = (((spansF s p).getD i default).hi + 1 - firstM s).toNat := rfl
    rw [e]
    omega
theorem gap_false {s : Sands} (hG : Good s) {p : Int → Bool} {i : Nat} (hi : i ≤ (spansF s p).length) {k : Nat} (h0 : tpos (spansF s p) (firstM s) i ≤ k) (hk : k < dayN s) (h1 : i < (spansF s p).length → (k : Int) < ((spansF s p).getD i default).lo - firstM s) : p (firstM s + (k : Int)) = false := by
  obtain ⟨hn, hn2⟩ := Go.Pl.dayN_eq hG
  refine spans_gap hG hi (by simp only [dayF, inr_iff]; omega) (fun j hj => ?_) (fun h => by have := h1 h; omega)
  cases i with
  | zero => omega
  | succ i =>
    simp only [tpos] at h0
    have hr := (spans_runs hG (p := p)).1 _ (mem_getD (d := (default : Span)) (l := spansF s p) (j := i) (by omega))
    by_cases h : j = i
    · subst h; omega
    · have h2 := pw_getD (d := default) (spans_sorted hG (p := p)) (show j < i by omega) (by omega)
      omega
theorem parted_L2 {s : Sands} (hG : Good s) {o : m_laurellaw01_Made_R} (ho : o.r0 = s) {p : Int → Bool} {e : Int} {S0 : m_laurellaw01_TideParted_S0} {P : Nat} (hP : S0.t62 = (P : Int)) {st : Int} {SS : List (List Int)} (hS : P < SS.length) {r0 : Nat → Int} {m0 : Nat} (hm : m0 ≤ 1000000) :
    iterM FU (m_laurellaw01_TideParted_L2 (spansF s p, e) o S0 st) ⟨(m0 : Int), 0, SS.set P (fillR p st (firstM s) (dayN s) 0 r0)⟩ =
      some (.inl ⟨((m0 + cntR p (firstM s) (dayN s) : Nat) : Int), SS.set P (fillR p st (firstM s) (dayN s) (dayN s) r0)⟩) := by
  have htl := hG.tl
  have hds := day_span hG
  have hSh := Good.short hG
  obtain ⟨hn, hn2⟩ := Go.Pl.dayN_eq hG
  have hlen := spansF_short hG (p := p)
  have key := iterM_run (f := m_laurellaw01_TideParted_L2 (spansF s p, e) o S0 st) (b := .inl ⟨((m0 + cntR p (firstM s) (dayN s) : Nat) : Int), SS.set P (fillR p st (firstM s) (dayN s) (dayN s) r0)⟩)
    (fun i : Nat => (⟨((m0 + cntR p (firstM s) (tpos (spansF s p) (firstM s) i) : Nat) : Int), (i : Int), SS.set P (fillR p st (firstM s) (dayN s) (tpos (spansF s p) (firstM s) i) r0)⟩ : m_laurellaw01_TideParted_S2)) (spansF s p).length (fun i hi => by
    obtain ⟨h1, h2, h3, h4, h5, h6⟩ := (spans_runs hG (p := p)).1 _ (mem_getD (d := (default : Span)) (l := spansF s p) (j := i) hi)
    obtain ⟨ht, ht2⟩ := tpos_le hG hi
    have hgap : ∀ k : Nat, tpos (spansF s p) (firstM s) i ≤ k → k < (((spansF s p).getD i default).lo - firstM s).toNat → p (firstM s + (k : Int)) = false := fun k a b => gap_false hG (by omega) a (by omega) (fun _ => by omega)
    have hc : cntR p (firstM s) (tpos (spansF s p) (firstM s) i) = cntR p (firstM s) (((spansF s p).getD i default).lo - firstM s).toNat := by
      have := cnt_gap (p := p) (a := firstM s) (t := tpos (spansF s p) (firstM s) i) ((((spansF s p).getD i default).lo - firstM s).toNat - tpos (spansF s p) (firstM s) i) (fun k a b => hgap k a (by omega))
      rw [← this]
      congr 1
      omega
    have hf := fill_gap (st := st) (N := dayN s) (r0 := r0) ht hgap
    unfold m_laurellaw01_TideParted_L2
    dsimp only
    rw [if_pos (by omega), ix_nat default hi, Option.bind_some, ho, lawfirst_eq (by omega), Option.bind_some, if_neg (by omega), lawlast_eq hSh (by omega), Option.bind_some, if_neg (by omega), if_neg (by omega)]
    have hcond : (if (0 : Int) < (i : Int) then ((subc (i : Int) 1).bind fun t133 => (ix (spansF s p) t133).bind fun t134 => (addc t134.hi 1).bind fun t137 => some (decide (((spansF s p).getD i default).lo ≤ t137))) else some false) = some false := by
      by_cases h0 : (0 : Int) < (i : Int)
      · have h7 := (spans_runs hG (p := p)).1 _ (mem_getD (d := (default : Span)) (l := spansF s p) (j := i - 1) (by omega))
        have h8 := ht2 (by omega)
        rw [if_pos h0, subc_eq (by omega), Option.bind_some, show (i : Int) - 1 = ((i - 1 : Nat) : Int) by omega, ix_nat default (by omega), Option.bind_some, addc_eq (by omega), Option.bind_some, decide_eq_false (by omega)]
      · rw [if_neg h0]
    rw [hcond, Option.bind_some, if_neg (by decide), hc, ← hf, parted_L3 hG ho h1 h2 h3 h4 hP hS hm, Option.bind_some, addc_eq (by omega), Option.bind_some]
    rfl) (by
    have hgap : ∀ k : Nat, tpos (spansF s p) (firstM s) (spansF s p).length ≤ k → k < dayN s → p (firstM s + (k : Int)) = false := fun k a b => gap_false hG (Nat.le_refl _) a b (fun h => absurd h (Nat.lt_irrefl _))
    have ht : tpos (spansF s p) (firstM s) (spansF s p).length ≤ dayN s := by
      cases hl : (spansF s p).length with
      | zero => exact Nat.zero_le _
      | succ i =>
        have := (spans_runs hG (p := p)).1 _ (mem_getD (d := (default : Span)) (l := spansF s p) (j := i) (by omega))
        simp only [tpos]
        omega
    have hc : cntR p (firstM s) (dayN s) = cntR p (firstM s) (tpos (spansF s p) (firstM s) (spansF s p).length) := by
      have := cnt_gap (p := p) (a := firstM s) (t := tpos (spansF s p) (firstM s) (spansF s p).length) (dayN s - tpos (spansF s p) (firstM s) (spansF s p).length) (fun k a b => hgap k a (by omega))
      rw [← this]
      congr 1
      omega
    unfold m_laurellaw01_TideParted_L2
    dsimp only
    rw [if_neg (by omega), hc, fill_gap ht hgap]) FU (FU_lt (by omega))
  have hz : cntR p (firstM s) 0 = 0 := rfl
  have e0 : tpos (spansF s p) (firstM s) 0 = 0 := rfl
  simpa [e0, hz] using key
end Go.Proofs.Wk

namespace Go.Proofs.Wk
open Go Go.Gx Go.Pl
set_option linter.unusedVariables false
/-! ### the rows of all places -/
def rowF (s : Sands) (P : Nat) : List Int := (List.range (dayN s)).map fun k : Nat => stateF s (firstM s + (k : Int)) (P : Int)
theorem rowF_len {s : Sands} {P : Nat} : (rowF s P).length = dayN s := by simp [rowF]
theorem rowF_ix {s : Sands} {P : Nat} {m : Int} (hG : Good s) (hd : dayF s m = true) : ix (rowF s P) (m - firstM s) = some (stateF s m (P : Int)) := by
  obtain ⟨hn, hn2⟩ := Go.Pl.dayN_eq hG
  simp only [dayF, inr_iff] at hd
  rw [show m - firstM s = (((m - firstM s).toNat : Nat) : Int) by omega]
  unfold rowF
  rw [range_ix (by omega)]
  congr 2
  omega
theorem state_three {s : Sands} {m p : Int} : stateF s m p = 0 ∨ stateF s m p = 1 ∨ stateF s m p = 2 := by
  unfold stateF stateG
  split
  · exact .inl rfl
  · split
    · exact .inr (.inr rfl)
    · exact .inr (.inl rfl)
theorem cnt_three {s : Sands} {P a : Int} : ∀ t, cntR (isState s P 0) a t + cntR (isState s P 1) a t + cntR (isState s P 2) a t = t
  | 0 => rfl
  | t + 1 => by
    have ih := cnt_three (s := s) (P := P) (a := a) t
    rcases state_three (s := s) (m := a + (t : Int)) (p := P) with h | h | h
    · rw [cnt_step (p := isState s P 0) (by simp [isState, h]), cnt_skip (p := isState s P 1) (by simp [isState, h]), cnt_skip (p := isState s P 2) (by simp [isState, h])]; omega
    · rw [cnt_skip (p := isState s P 0) (by simp [isState, h]), cnt_step (p := isState s P 1) (by simp [isState, h]), cnt_skip (p := isState s P 2) (by simp [isState, h])]; omega
    · rw [cnt_skip (p := isState s P 0) (by simp [isState, h]), cnt_skip (p := isState s P 1) (by simp [isState, h]), cnt_step (p := isState s P 2) (by simp [isState, h])]; omega
theorem spansR_good {s : Sands} (hG : Good s) {P : Nat} (hp : P < s.floors.length) {st : Int} (hs : 0 ≤ st ∧ st ≤ 2) : SpansR s (P : Int) st = (spansF s (isState s (P : Int) st), 0) := by
  have hE : spansE s (P : Int) st = 0 := by
    unfold spansE
    rw [check_of_good hG, isPlace_iff.2 ⟨by omega, by omega⟩, inr_iff.2 hs]
    rfl
  unfold SpansR
  rw [hE, if_neg (by simp)]
def rowJ (s : Sands) (P j : Nat) (k : Nat) : Int := if stateF s (firstM s + (k : Int)) (P : Int) < (j : Int) then stateF s (firstM s + (k : Int)) (P : Int) else 0
theorem fill_zero {p : Int → Bool} {st a : Int} {N : Nat} {r0 : Nat → Int} : fillR p st a N 0 r0 = (List.range N).map r0 := by
  unfold fillR
  apply List.map_congr_left
  intro k _
  simp
theorem fill_next {s : Sands} {P j : Nat} : fillR (isState s (P : Int) (j : Int)) (j : Int) (firstM s) (dayN s) (dayN s) (rowJ s P j) = (List.range (dayN s)).map (rowJ s P (j + 1)) := by
  unfold fillR rowJ isState
  apply List.map_congr_left
  intro k hk
  have hk' : k < dayN s := by simpa using hk
  generalize stateF s (firstM s + (k : Int)) (P : Int) = v
  simp only [hk', true_and, decide_eq_true_eq]
  split
  · rename_i h; subst h; rw [if_pos (by omega)]
  · rename_i h
    split
    · rw [if_pos (by omega)]
    · rw [if_neg (by omega)]
theorem parted_L1 {s : Sands} (hG : Good s) {o : m_laurellaw01_Made_R} (ho : o.r0 = s) {S0 : m_laurellaw01_TideParted_S0} {P : Nat} (hP : S0.t62 = (P : Int)) (hPf : P < s.floors.length) {SS : List (List Int)} (hS : P < SS.length) :
    iterM FU (m_laurellaw01_TideParted_L1 o S0) ⟨0, 0, SS.set P (List.replicate (dayN s) 0)⟩ = some (.inl ⟨(dayN s : Int), SS.set P (rowF s P)⟩) := by
  have hSh := Good.short hG
  obtain ⟨hn, hn2⟩ := Go.Pl.dayN_eq hG
  have hc := cnt_three (s := s) (P := (P : Int)) (a := firstM s) (dayN s)
  let c : Nat → Nat := fun j => match j with
    | 0 => 0
    | 1 => cntR (isState s (P : Int) 0) (firstM s) (dayN s)
    | 2 => cntR (isState s (P : Int) 0) (firstM s) (dayN s) + cntR (isState s (P : Int) 1) (firstM s) (dayN s)
    | _ => dayN s
  have key := iterM_run (f := m_laurellaw01_TideParted_L1 o S0) (b := .inl ⟨(dayN s : Int), SS.set P (rowF s P)⟩)
    (fun j : Nat => (⟨(c j : Int), (j : Int), SS.set P ((List.range (dayN s)).map (rowJ s P j))⟩ : m_laurellaw01_TideParted_S1)) 3 (fun j hj => by
    have hcj : c j ≤ 1000000 := by
      rcases (by omega : j = 0 ∨ j = 1 ∨ j = 2) with rfl | rfl | rfl <;> simp only [c] <;> omega
    have hcs : c j + cntR (isState s (P : Int) (j : Int)) (firstM s) (dayN s) = c (j + 1) := by
      rcases (by omega : j = 0 ∨ j = 1 ∨ j = 2) with rfl | rfl | rfl
      · show 0 + cntR (isState s (P : Int) 0) (firstM s) (dayN s) = cntR (isState s (P : Int) 0) (firstM s) (dayN s)
        omega
      · rfl
      · exact hc
    have hix : ix [(0 : Int), 1, 2] (j : Int) = some (j : Int) := by
      rcases (by omega : j = 0 ∨ j = 1 ∨ j = 2) with rfl | rfl | rfl <;> rfl
    unfold m_laurellaw01_TideParted_L1
    dsimp only
    rw [if_pos (by simp only [List.length_cons, List.length_nil]; omega), hix, Option.bind_some, hP, ho, x_Spans_eq hSh, Option.bind_some, spansR_good hG hPf (by omega)]
    dsimp only
    rw [if_pos rfl, ← fill_zero (p := isState s (P : Int) (j : Int)) (st := (j : Int)) (a := firstM s), parted_L2 hG ho hP hS hcj, Option.bind_some, oc_inl, addc_eq (by omega), Option.bind_some, fill_next, hcs]
    rfl) (by
    unfold m_laurellaw01_TideParted_L1
    dsimp only
    rw [if_neg (by decide)]
    have e : (List.range (dayN s)).map (rowJ s P 3) = rowF s P := by
      unfold rowF rowJ
      apply List.map_congr_left
      intro k _
      rcases state_three (s := s) (m := firstM s + (k : Int)) (p := (P : Int)) with h | h | h <;> rw [h] <;> rfl
    rw [e]
    rfl) FU (FU_lt (by omega))
  have e0 : (List.range (dayN s)).map (rowJ s P 0) = List.replicate (dayN s) 0 := by
    rw [List.eq_replicate_iff]
    refine ⟨by simp, fun x hx => ?_⟩
    obtain ⟨k, _, rfl⟩ := List.mem_map.1 hx
    unfold rowJ
    rw [if_neg]
    rcases state_three (s := s) (m := firstM s + (k : Int)) (p := (P : Int)) with h | h | h <;> rw [h] <;> decide
  rw [e0] at key
  exact key
theorem parted_L4 {s : Sands} (hG : Good s) {o : m_laurellaw01_Made_R} (ho : o.r0 = s) {S0 : m_laurellaw01_TideParted_S0} {P : Nat} (hP : S0.t62 = (P : Int)) (hPf : P < s.floors.length) :
    iterM FU (m_laurellaw01_TideParted_L4 (rowF s P) o S0) 0 = some (.inl ()) := by
  have htl := hG.tl
  have hSh := Good.short hG
  obtain ⟨hn, hn2⟩ := Go.Pl.dayN_eq hG
  have hds := day_span hG
  have key := iterM_run (f := m_laurellaw01_TideParted_L4 (rowF s P) o S0) (b := .inl ()) (fun k : Nat => (k : Int)) (dayN s) (fun k hk => by
    have hd : dayF s (firstM s + (k : Int)) = true := by simp only [dayF, inr_iff]; omega
    unfold m_laurellaw01_TideParted_L4
    rw [rowF_len, if_pos (by omega), show ix (rowF s P) (k : Int) = some (stateF s (firstM s + (k : Int)) (P : Int)) from range_ix hk, Option.bind_some, ho, lawfirst_eq (by omega), Option.bind_some, addc_eq (by omega), Option.bind_some, hP, x_At_eq hSh, Option.bind_some, atR_good hG (isPlace_iff.2 ⟨by omega, by omega⟩) hd]
    dsimp only
    rw [if_pos rfl, decide_eq_true rfl, Bool.not_true, Option.bind_some, if_neg (by decide), addc_eq (by omega), Option.bind_some]
    rfl) (by
    unfold m_laurellaw01_TideParted_L4
    rw [rowF_len, if_neg (by omega)]) FU (FU_lt (by omega))
  exact key
theorem parted_L5 {s : Sands} (hG : Good s) {o : m_laurellaw01_Made_R} (ho : o.r0 = s) {S0 : m_laurellaw01_TideParted_S0} {P : Nat} (hP : S0.t62 = (P : Int)) (hPf : P < s.floors.length) {j : m_laurellaw01_TideParted_C3} (hj : ix j.states12 (P : Int) = some (rowF s P)) {m T e : Int} (hd : dayF s m = true) (hT : m ≤ T ∧ T ≤ lastM s) (h0 : ∀ k, m ≤ k → k ≤ T → stateF s k (P : Int) = 0) :
    iterM FU (m_laurellaw01_TideParted_L5 (T, e) j S0 o) m = some (.inl ()) := by
  have htl := hG.tl
  obtain ⟨hn, hn2⟩ := Go.Pl.dayN_eq hG
  have hds := day_span hG
  simp only [dayF, inr_iff] at hd
  have key := iterM_run (f := m_laurellaw01_TideParted_L5 (T, e) j S0 o) (b := .inl ()) (fun k : Nat => m + (k : Int)) (T + 1 - m).toNat (fun k hk => by
    have hd : dayF s (m + (k : Int)) = true := by simp only [dayF, inr_iff]; omega
    unfold m_laurellaw01_TideParted_L5
    dsimp only
    rw [if_pos (by omega), hP, hj, Option.bind_some, ho, lawfirst_eq (by omega), Option.bind_some, subc_eq (by omega), Option.bind_some, rowF_ix hG hd, Option.bind_some, if_pos (h0 _ (by omega) (by omega)), addc_eq (by omega), Option.bind_some]
    congr 2
    omega) (by
    unfold m_laurellaw01_TideParted_L5
    dsimp only
    rw [if_neg (by omega)]) FU (FU_lt (by omega))
  simpa using key
end Go.Proofs.Wk

namespace Go.Proofs.Wk
open Go Go.Gx Go.Pl
set_option linter.unusedVariables false
/-! ### places, one after the other -/
def rowsK (s : Sands) (k : Nat) : List (List Int) := (List.range s.floors.length).map fun p : Nat => if p < k then rowF s p else []
def bitW (which : Int) (k : Nat) : Bool := decide ((IntKind.u8.wrap (BitVec.ofInt IntKind.u8.bits (Int.fdiv which (2 ^ min (Int.toNat (k : Int)) IntKind.u8.bits)) &&& BitVec.ofInt IntKind.u8.bits 1).toNat) = 1)
def dryK (s : Sands) (m : Int) (k : Nat) : Bool := decide (stateF s m (k : Int) = 0)
def tuK (s : Sands) (m : Int) (k : Nat) : Int := (TurnR s (k : Int) m).1
def soonK (s : Sands) (m : Int) : Nat → Int
  | 0 => lastM s + 1
  | k + 1 => if dryK s m k = true ∧ tuK s m k + 1 < soonK s m k then tuK s m k + 1 else soonK s m k
def flK (s : Sands) (m : Int) : Nat → List Int
  | 0 => []
  | k + 1 => (if dryK s m k = true ∧ tuK s m k + 1 < soonK s m k then [] else flK s m k) ++ (if dryK s m k = true ∧ tuK s m k + 1 = soonK s m (k + 1) ∧ tuK s m k < lastM s then [(k : Int)] else [])
theorem flK_len {s : Sands} {m : Int} : ∀ k, (flK s m k).length ≤ k
  | 0 => Nat.le_refl _
  | k + 1 => by
    have := flK_len (s := s) (m := m) k
    unfold flK
    rw [List.length_append]
    split <;> split <;> simp only [List.length_nil, List.length_singleton] <;> omega
theorem rows_ix {s : Sands} {k P : Nat} (hP : P < s.floors.length) : ix (rowsK s k) (P : Int) = some (if P < k then rowF s P else []) := range_ix hP
theorem rows_set {s : Sands} {k : Nat} (hk : k < s.floors.length) : (rowsK s k).set k (rowF s k) = rowsK s (k + 1) := by
  unfold rowsK
  rw [range_set]
  apply List.map_congr_left
  intro p hp
  by_cases h : p = k
  · subst h; rw [if_pos rfl, if_pos (by omega)]
  · rw [if_neg h]
    by_cases h2 : p < k
    · rw [if_pos h2, if_pos (by omega)]
    · rw [if_neg h2, if_neg (by omega)]
theorem rows_len {s : Sands} {k : Nat} : (rowsK s k).length = s.floors.length := by simp [rowsK]
theorem parted_L0 {s : Sands} (hG : Good s) {o : m_laurellaw01_Made_R} (ho : o.r0 = s) {which m : Int} (hd : dayF s m = true) :
    iterM FU (m_laurellaw01_TideParted_L0 o which m) ⟨lastM s + 1, 0, [], [], rowsK s 0⟩ = some (.inl ⟨soonK s m s.floors.length, filtL (bitW which) s.floors.length, flK s m s.floors.length, rowsK s s.floors.length⟩) := by
  have htl := hG.tl
  have hfl := hG.fl
  have hSh := Good.short hG
  obtain ⟨hn, hn2⟩ := Go.Pl.dayN_eq hG
  have hds := day_span hG
  have hd' := hd
  simp only [dayF, inr_iff] at hd'
  have key := iterM_run (f := m_laurellaw01_TideParted_L0 o which m) (b := .inl ⟨soonK s m s.floors.length, filtL (bitW which) s.floors.length, flK s m s.floors.length, rowsK s s.floors.length⟩)
    (fun k : Nat => (⟨soonK s m k, (k : Int), filtL (bitW which) k, flK s m k, rowsK s k⟩ : m_laurellaw01_TideParted_S0)) s.floors.length (fun k hk => by
    have hpl : isPlace s (k : Int) = true := isPlace_iff.2 ⟨by omega, by omega⟩
    have hl1 := filtL_len (p := bitW which) (k := k)
    have hl2 := flK_len (s := s) (m := m) k
    have hrl : k < (rowsK s k).length := by rw [rows_len]; exact hk
    have hbit : (if (0 : Int) ≤ (k : Int) then (if (IntKind.u8.wrap (BitVec.ofInt IntKind.u8.bits (Int.fdiv which (2 ^ min (Int.toNat (k : Int)) IntKind.u8.bits)) &&& BitVec.ofInt IntKind.u8.bits 1).toNat) = 1 then
        ((appc 8 (filtL (bitW which) k) [(k : Int)]).bind fun t73 => some t73) else (some (filtL (bitW which) k))) else none) = some (filtL (bitW which) (k + 1)) := by
      rw [if_pos (by omega), filtL_succ]
      unfold bitW
      by_cases hb : (IntKind.u8.wrap (BitVec.ofInt IntKind.u8.bits (Int.fdiv which (2 ^ min (Int.toNat (k : Int)) IntKind.u8.bits)) &&& BitVec.ofInt IntKind.u8.bits 1).toNat) = 1
      · rw [if_pos hb, if_pos (decide_eq_true hb), appc_eq (by simp only [List.length_singleton]; unfold bitW at hl1; omega), Option.bind_some]
      · rw [if_neg hb, if_neg (by simpa using hb)]
    unfold m_laurellaw01_TideParted_L0
    dsimp only
    rw [ho, if_pos (by omega), hbit, Option.bind_some, lawlast_eq hSh (by omega), Option.bind_some, lawfirst_eq (by omega), Option.bind_some, subc_eq (by omega), Option.bind_some, addc_eq (by omega), Option.bind_some, makec_eq ⟨by omega, Int.le_refl _, by omega, by omega⟩, Option.bind_some, rows_ix hk, Option.bind_some, Option.bind_some, Int.toNat_natCast,
      show (lastM s - firstM s + 1).toNat = dayN s from rfl, parted_L1 hG ho rfl hk hrl, Option.bind_some, oc_inl]
    dsimp only
    rw [ix_set hrl, Option.bind_some, rowF_len, if_pos rfl, Option.bind_some, parted_L4 hG ho rfl hk, Option.bind_some, oc_inl, x_Turn_eq hSh, Option.bind_some, Option.bind_some, Option.bind_some, subc_eq (by omega), Option.bind_some, rowF_ix hG hd, Option.bind_some, rows_set hk]
    by_cases h0 : stateF s m (k : Int) = 0
    · obtain ⟨T, hT, t1, t2, t3, t4⟩ := turn_spec hG hpl hd h0
      have hdk : dryK s m k = true := decide_eq_true h0
      have hTk : tuK s m k = T := by unfold tuK; rw [hT]
      rw [if_pos h0, hT]
      dsimp only
      have hcond : (if T < m then (some true) else (if lastM s < T then (some true) else (if T < lastM s then ((some (rowF s k)).bind fun t239 => (addc T 1).bind fun t242 => (some (firstM s)).bind fun t244 => (subc t242 t244).bind fun t245 => (ix t239 t245).bind fun t246 => some (decide (t246 = 0))) else (some false)))) = some false := by
        rw [if_neg (by omega), if_neg (by omega)]
        by_cases hl : T < lastM s
        · rcases t4 with t4 | t4
          · omega
          · have hd2 : dayF s (T + 1) = true := by simp only [dayF, inr_iff]; omega
            rw [if_pos hl, Option.bind_some, addc_eq (by omega), Option.bind_some, Option.bind_some, subc_eq (by omega), Option.bind_some, rowF_ix hG hd2, Option.bind_some, decide_eq_false t4]
        · rw [if_neg hl]
      rw [if_pos rfl, Option.bind_some, Option.bind_some, hcond, Option.bind_some, if_neg (by decide), parted_L5 hG ho rfl hk (by show ix (rowsK s (k + 1)) (k : Int) = some (rowF s k); rw [rows_ix hk, if_pos (by omega)]) hd ⟨t1, t2⟩ t3, Option.bind_some, oc_inl, addc_eq (by omega), Option.bind_some]
      have e1 : soonK s m (k + 1) = if T + 1 < soonK s m k then T + 1 else soonK s m k := by
        rw [soonK, hdk, hTk]
        simp only [true_and]
      have e2 : flK s m (k + 1) = (if T + 1 < soonK s m k then [] else flK s m k) ++ (if T + 1 = soonK s m (k + 1) ∧ T < lastM s then [(k : Int)] else []) := by
        rw [flK, hdk, hTk]
        simp only [true_and]
      have hsel : (if T + 1 < soonK s m k then (some (⟨T + 1, []⟩ : m_laurellaw01_TideParted_C11)) else some ⟨soonK s m k, flK s m k⟩) = some (⟨soonK s m (k + 1), if T + 1 < soonK s m k then [] else flK s m k⟩ : m_laurellaw01_TideParted_C11) := by
        rw [e1]
        by_cases h : T + 1 < soonK s m k
        · rw [if_pos h, if_pos h, if_pos h]
        · rw [if_neg h, if_neg h, if_neg h]
      have hl3 : (if T + 1 < soonK s m k then [] else flK s m k).length ≤ k := by
        split
        · exact Nat.zero_le _
        · exact hl2
      rw [Option.bind_some, hsel, Option.bind_some]
      dsimp only
      rw [e2]
      generalize hB : (if T + 1 < soonK s m k then [] else flK s m k) = base at hl3
      by_cases h5 : T + 1 = soonK s m (k + 1)
      · rw [Option.bind_some, if_pos h5, Option.bind_some]
        by_cases h6 : T < lastM s
        · rw [decide_eq_true h6, Option.bind_some, if_pos rfl, if_pos ⟨h5, h6⟩, appc_eq (by simp only [List.length_singleton]; omega), Option.bind_some, Option.bind_some, oc_inl]
          dsimp only
          rw [addc_eq (by omega), Option.bind_some]
          rfl
        · rw [decide_eq_false h6, Option.bind_some, if_neg (by decide), if_neg (fun h => h6 h.2), Option.bind_some, oc_inl, List.append_nil]
          dsimp only
          rw [addc_eq (by omega), Option.bind_some]
          rfl
      · rw [Option.bind_some, if_neg h5, Option.bind_some, if_neg (by decide), if_neg (fun h => h5 h.1), Option.bind_some, oc_inl, List.append_nil]
        dsimp only
        rw [addc_eq (by omega), Option.bind_some]
        rfl
    · have hdk : dryK s m k = false := decide_eq_false h0
      have e1 : soonK s m (k + 1) = soonK s m k := by rw [soonK, hdk, if_neg (by simp)]
      have e2 : flK s m (k + 1) = flK s m k := by rw [flK, hdk, if_neg (by simp), if_neg (by simp), List.append_nil]
      rw [if_neg h0, turn_none hG hpl hd h0]
      dsimp only
      rw [if_pos rfl, Option.bind_some, oc_inl, addc_eq (by omega), Option.bind_some, e1, e2]
      rfl) (by
    unfold m_laurellaw01_TideParted_L0
    dsimp only
    rw [ho, if_neg (by omega)]) FU (FU_lt (by omega))
  exact key
end Go.Proofs.Wk

namespace Go.Proofs.Wk
open Go Go.Gx Go.Pl
set_option linter.unusedVariables false
/-! ### what floods first -/
theorem filtL_congr {p q : Nat → Bool} {k : Nat} (h : ∀ i, i < k → p i = q i) : filtL p k = filtL q k := by
  unfold filtL
  rw [List.filter_congr (fun x hx => h x (by simpa using hx))]
theorem filtL_nil {p : Nat → Bool} {k : Nat} : filtL p k = [] ↔ ∀ i, i < k → p i = false := by
  unfold filtL
  rw [List.map_eq_nil_iff, List.filter_eq_nil_iff]
  constructor
  · intro h i hi
    have := h i (by simpa using hi)
    simpa using this
  · intro h i hi
    rw [h i (by simpa using hi)]
    simp
def flQ (s : Sands) (m soon : Int) (p : Nat) : Bool := dryK s m p && decide (tuK s m p + 1 = soon) && decide (tuK s m p < lastM s)
theorem soon_spec {s : Sands} {m : Int} : ∀ k, (∀ p, p < k → dryK s m p = true → soonK s m k ≤ tuK s m p + 1) ∧ (soonK s m k = lastM s + 1 ∨ ∃ p, p < k ∧ dryK s m p = true ∧ tuK s m p + 1 = soonK s m k) ∧ flK s m k = filtL (flQ s m (soonK s m k)) k
  | 0 => ⟨fun p hp => by omega, .inl rfl, rfl⟩
  | k + 1 => by
    obtain ⟨h1, h2, h3⟩ := soon_spec (s := s) (m := m) k
    rw [flK]
    rw [soonK]
    by_cases hc : dryK s m k = true ∧ tuK s m k + 1 < soonK s m k
    · rw [if_pos hc, if_pos hc]
      refine ⟨fun p hp hd => ?_, .inr ⟨k, by omega, hc.1, rfl⟩, ?_⟩
      · by_cases h : p = k
        · subst h; omega
        · have := h1 p (by omega) hd; omega
      · rw [filtL_succ]
        have e : filtL (flQ s m (tuK s m k + 1)) k = [] := by
          rw [filtL_nil]
          intro p hp
          unfold flQ
          cases hd : dryK s m p with
          | false => rfl
          | true =>
            have := h1 p hp hd
            rw [decide_eq_false (by omega)]
            rfl
        rw [e]
        unfold flQ
        rw [hc.1]
        by_cases hl : tuK s m k < lastM s
        · simp [hl]
        · simp [hl]
    · rw [if_neg hc, if_neg hc, filtL_succ, ← h3]
      refine ⟨fun p hp hd => ?_, ?_, ?_⟩
      · by_cases h : p = k
        · subst h
          have : ¬ tuK s m p + 1 < soonK s m p := fun hh => hc ⟨hd, hh⟩
          omega
        · exact h1 p (by omega) hd
      · rcases h2 with h2 | ⟨p, hp, h2⟩
        · exact .inl h2
        · exact .inr ⟨p, by omega, h2⟩
      · unfold flQ
        by_cases hh : dryK s m k = true ∧ tuK s m k + 1 = soonK s m k ∧ tuK s m k < lastM s
        · rw [if_pos hh, if_pos (by simp [hh.1, hh.2.1, hh.2.2])]
        · rw [if_neg hh, if_neg (by simpa [and_assoc] using hh), List.append_nil]
theorem tu_spec {s : Sands} (hG : Good s) {m : Int} (hd : dayF s m = true) {p : Nat} (hp : p < s.floors.length) (h0 : dryK s m p = true) : m ≤ tuK s m p ∧ tuK s m p ≤ lastM s ∧ (∀ k, m ≤ k → k ≤ tuK s m p → stateF s k (p : Int) = 0) ∧ (tuK s m p = lastM s ∨ stateF s (tuK s m p + 1) (p : Int) ≠ 0) := by
  obtain ⟨T, hT, t⟩ := turn_spec hG (isPlace_iff.2 ⟨by omega, by omega⟩ : isPlace s (p : Int) = true) hd (of_decide_eq_true h0)
  have : tuK s m p = T := by unfold tuK; rw [hT]
  rw [this]
  exact t
theorem wets_false {s : Sands} (hG : Good s) {m a : Int} (hd : dayF s m = true) {p : Nat} (hp : p < s.floors.length) (ha : m < a) (h : dryK s m p = true → a ≤ tuK s m p) : wets s m a p = false := by
  unfold wets
  cases h0 : decide (stateF s m (p : Int) = 0) with
  | false => rfl
  | true =>
    have := (tu_spec hG hd hp h0).2.2.1 a (by omega) (h h0)
    rw [this]
    rfl
theorem flood_spec {s : Sands} (hG : Good s) {m : Int} (hd : dayF s m = true) : FloodR s m = if flK s m s.floors.length = [] then ((0, []), 6) else ((soonK s m s.floors.length, flK s m s.floors.length), 0) := by
  obtain ⟨h1, h2, h3⟩ := soon_spec (s := s) (m := m) s.floors.length
  have hd' := hd
  simp only [dayF, inr_iff] at hd'
  unfold FloodR
  rw [check_of_good hG, hd, if_neg (by simp), if_neg (by simp)]
  by_cases he : flK s m s.floors.length = []
  · have hk : floodK s m = none := by
      unfold floodK
      rw [List.find?_eq_none]
      intro j hj
      have hj' : j < (lastM s - m).toNat := by simpa using hj
      have : floodL s m (m + 1 + (j : Int)) = [] := by
        unfold floodL
        rw [filtL_nil]
        intro p hp
        refine wets_false hG hd hp (by omega) (fun h0 => ?_)
        have ht := tu_spec hG hd hp h0
        have : ¬ tuK s m p < lastM s := by
          intro hlt
          have hs := h1 p hp h0
          rcases h2 with h2 | ⟨q, hq, hq0, hq1⟩
          · omega
          · rw [h3, filtL_nil] at he
            have := he q hq
            unfold flQ at this
            rw [hq0, decide_eq_true hq1, decide_eq_true (by omega)] at this
            exact absurd this (by decide)
        omega
      simp [this]
    rw [hk, if_pos he]
  · rw [if_neg he]
    obtain ⟨q, hq, hq1⟩ : ∃ q, q < s.floors.length ∧ flQ s m (soonK s m s.floors.length) q = true := by
      rw [h3, filtL_nil] at he
      simp only [Classical.not_forall] at he
      obtain ⟨q, hq, hn⟩ := he
      exact ⟨q, hq, by simpa using hn⟩
    unfold flQ at hq1
    simp only [Bool.and_eq_true, decide_eq_true_eq] at hq1
    obtain ⟨⟨q1, q2⟩, q3⟩ := hq1
    have tq := tu_spec hG hd hq q1
    generalize hso : soonK s m s.floors.length = so at h1 h2 h3 q2
    have hfl : floodL s m so = flK s m s.floors.length := by
      rw [h3]
      unfold floodL
      refine filtL_congr fun p hp => ?_
      unfold flQ
      cases h0 : dryK s m p with
      | false =>
        unfold dryK at h0
        unfold wets
        rw [h0]
        rfl
      | true =>
        have tp := tu_spec hG hd hp h0
        have hs := h1 p hp h0
        by_cases h5 : tuK s m p + 1 = so
        · rw [decide_eq_true h5, decide_eq_true (by omega)]
          unfold wets
          unfold dryK at h0
          rw [h0]
          rcases tp.2.2.2 with h | h
          · omega
          · rw [h5] at h
            rw [decide_eq_false h]
            rfl
        · rw [decide_eq_false h5, wets_false hG hd hp (by omega) (fun _ => by omega)]
          rfl
    have hk : floodK s m = some (so - m - 1).toNat := by
      unfold floodK
      rw [List.find?_range_eq_some]
      refine ⟨?_, by simp; omega, fun j hj => ?_⟩
      · rw [show m + 1 + (((so - m - 1).toNat : Nat) : Int) = so by omega, hfl]
        simpa using he
      · have : floodL s m (m + 1 + (j : Int)) = [] := by
          unfold floodL
          rw [filtL_nil]
          intro p hp
          exact wets_false hG hd hp (by omega) (fun h0 => by have := h1 p hp h0; omega)
        simp [this]
    rw [hk]
    dsimp only
    rw [show m + 1 + (((so - m - 1).toNat : Nat) : Int) = so by omega, hfl]
/-! ### the longest run -/
def nowN (q : Nat → Bool) : Nat → Nat
  | 0 => 0
  | k + 1 => if q k = true then nowN q k + 1 else 0
def longN (q : Nat → Bool) : Nat → Nat
  | 0 => 0
  | k + 1 => max (longN q k) (nowN q (k + 1))
theorem now_run {q : Nat → Bool} : ∀ k, nowN q k ≤ k ∧ ∀ j, k - nowN q k ≤ j → j < k → q j = true
  | 0 => ⟨Nat.le_refl _, fun j _ h => by omega⟩
  | k + 1 => by
    obtain ⟨h1, h2⟩ := now_run (q := q) k
    rw [nowN]
    by_cases hq : q k = true
    · rw [if_pos hq]
      refine ⟨by omega, fun j h3 h4 => ?_⟩
      by_cases hj : j = k
      · subst hj; exact hq
      · exact h2 j (by omega) (by omega)
    · rw [if_neg hq]
      exact ⟨by omega, fun j h3 h4 => by omega⟩
theorem run_now {q : Nat → Bool} {a : Nat} : ∀ k, a ≤ k → (∀ j, a ≤ j → j < k → q j = true) → k - a ≤ nowN q k
  | 0, _, _ => by omega
  | k + 1, ha, h => by
    by_cases hk : a = k + 1
    · omega
    · have ih := run_now (q := q) (a := a) k (by omega) (fun j h1 h2 => h j h1 (by omega))
      rw [nowN, if_pos (h k (by omega) (by omega))]
      omega
theorem now_long {q : Nat → Bool} {e : Nat} : ∀ k, e ≤ k → nowN q e ≤ longN q k
  | 0, h => by
    have : e = 0 := by omega
    subst this
    exact Nat.le_refl _
  | k + 1, h => by
    rw [longN]
    by_cases he : e = k + 1
    · subst he; omega
    · have := now_long (q := q) (e := e) k (by omega)
      omega
theorem long_now {q : Nat → Bool} : ∀ k, ∃ e, e ≤ k ∧ nowN q e = longN q k
  | 0 => ⟨0, Nat.le_refl _, rfl⟩
  | k + 1 => by
    obtain ⟨e, he, h⟩ := long_now (q := q) k
    rw [longN]
    by_cases hm : longN q k ≤ nowN q (k + 1)
    · exact ⟨k + 1, Nat.le_refl _, by omega⟩
    · exact ⟨e, by omega, by omega⟩
/-- the longest run is the longest span -/
theorem long_span {s : Sands} (hG : Good s) {p : Int → Bool} : (longN (fun k => p (firstM s + (k : Int))) (dayN s) = 0 ↔ spansF s p = []) ∧ (spansF s p ≠ [] → (maxSpan (spansF s p)).hi - (maxSpan (spansF s p)).lo + 1 = (longN (fun k => p (firstM s + (k : Int))) (dayN s) : Int)) := by
  obtain ⟨hn, hn2⟩ := Go.Pl.dayN_eq hG
  obtain ⟨hr, hc⟩ := spans_runs hG (p := p)
  have up : ∀ y, y ∈ spansF s p → y.hi - y.lo + 1 ≤ (longN (fun k => p (firstM s + (k : Int))) (dayN s) : Int) := fun y hy => by
    obtain ⟨h1, h2, h3, h4, _⟩ := hr y hy
    have a1 := run_now (q := fun k => p (firstM s + (k : Int))) (a := (y.lo - firstM s).toNat) (y.hi + 1 - firstM s).toNat (by omega) (fun j b1 b2 => h4 _ (by omega) (by omega))
    have a2 := now_long (q := fun k => p (firstM s + (k : Int))) (e := (y.hi + 1 - firstM s).toNat) (dayN s) (by omega)
    omega
  have dn : longN (fun k => p (firstM s + (k : Int))) (dayN s) ≠ 0 → ∃ z, z ∈ spansF s p ∧ (longN (fun k => p (firstM s + (k : Int))) (dayN s) : Int) ≤ z.hi - z.lo + 1 := fun h0 => by
    obtain ⟨e, he, h⟩ := long_now (q := fun k => p (firstM s + (k : Int))) (dayN s)
    obtain ⟨h1, h2⟩ := now_run (q := fun k => p (firstM s + (k : Int))) e
    rw [h] at h1 h2
    generalize longN (fun k => p (firstM s + (k : Int))) (dayN s) = lo at h0 h1 h2 ⊢
    have hp0 : p (firstM s + ((e - lo : Nat) : Int)) = true := h2 (e - lo) (Nat.le_refl _) (by omega)
    obtain ⟨z, hz, z1, z2⟩ := hc (firstM s + ((e - lo : Nat) : Int)) (by simp only [dayF, inr_iff]; omega) hp0
    refine ⟨z, hz, ?_⟩
    obtain ⟨r1, r2, r3, r4, r5, r6⟩ := hr z hz
    have hhi : firstM s + (e : Int) - 1 ≤ z.hi := by
      refine Int.not_lt.1 fun hlt => ?_
      rcases r5 with r5 | r5
      · omega
      · have this : p (firstM s + (((z.hi + 1 - firstM s).toNat : Nat) : Int)) = true := h2 (z.hi + 1 - firstM s).toNat (by omega) (by omega)
        rw [show firstM s + (((z.hi + 1 - firstM s).toNat : Nat) : Int) = z.hi + 1 by omega, r5] at this
        exact absurd this (by decide)
    omega
  refine ⟨⟨fun h => ?_, fun h => ?_⟩, fun hne => ?_⟩
  · cases hs : spansF s p with
    | nil => rfl
    | cons y L =>
      have h1 := up y (by rw [hs]; exact List.mem_cons_self)
      have h2 := hr y (by rw [hs]; exact List.mem_cons_self)
      omega
  · refine Classical.byContradiction fun h0 => ?_
    obtain ⟨z, hz, _⟩ := dn h0
    rw [h] at hz
    simp at hz
  · obtain ⟨m1, m2⟩ := maxSpan_spec hne
    have h1 := up _ m1
    have h2 := hr _ m1
    have h0 : longN (fun k => p (firstM s + (k : Int))) (dayN s) ≠ 0 := by omega
    obtain ⟨z, hz, hz2⟩ := dn h0
    have := m2 z hz
    omega
end Go.Proofs.Wk

namespace Go.Proofs.Wk
open Go Go.Gx Go.Pl
set_option linter.unusedVariables false
theorem dry_con {s : Sands} (hG : Good s) {pl : List Int} (hpl : pl.all (isPlace s) = true) (hl : pl.length ≤ 1000) {k : Nat} (hk : k < dayN s) : m_slices_ContainsFunc_intint_4 pl (rowsK s s.floors.length) (k : Int) = some (!allDry s pl (firstM s + (k : Int))) := by
  unfold m_slices_ContainsFunc_intint_4 m_slices_IndexFunc_intint_4
  have key := contains_loop (f := m_slices_IndexFunc_intint_4_L0 pl (rowsK s s.floors.length) (k : Int)) pl 0 (fun x => !decide (stateF s (firstM s + (k : Int)) x = 0)) (by omega) (fun i hi => by
    have hp := isPlace_iff.1 (all_getD hpl hi : isPlace s (pl.getD i 0) = true)
    unfold m_slices_IndexFunc_intint_4_L0 m_laurellaw01_TideParted_1
    rw [if_pos (by omega), ix_nat 0 hi, Option.bind_some]
    generalize pl.getD i 0 = x at hp
    rw [show x = ((x.toNat : Nat) : Int) by omega, rows_ix (by omega), if_pos (by omega), Option.bind_some, show ix (rowF s x.toNat) (k : Int) = some (stateF s (firstM s + (k : Int)) ((x.toNat : Nat) : Int)) from range_ix hk, Option.bind_some, Option.bind_some]
    by_cases h : (!decide (stateF s (firstM s + (k : Int)) ((x.toNat : Nat) : Int) = 0)) = true
    · rw [if_pos h, if_pos h]
    · rw [if_neg h, if_neg h, addc_eq (by omega), Option.bind_some]) (by
    unfold m_slices_IndexFunc_intint_4_L0
    rw [if_neg (by omega)])
  rw [key]
  unfold allDry
  rw [← not_any_not, Bool.not_not]
theorem dry_con5 {s : Sands} (hG : Good s) {pl : List Int} (hpl : pl.all (isPlace s) = true) (hl : pl.length ≤ 1000) {m : Int} (hd : dayF s m = true) : m_slices_ContainsFunc_intint_5 pl (rowsK s s.floors.length) m s.table s.wind.lo s.wind.hi s.floors s.sills = some (!allDry s pl m) := by
  have htl := hG.tl
  have hds := day_span hG
  have hd' := hd
  simp only [dayF, inr_iff] at hd'
  unfold m_slices_ContainsFunc_intint_5 m_slices_IndexFunc_intint_5
  have key := contains_loop (f := m_slices_IndexFunc_intint_5_L0 pl (rowsK s s.floors.length) m s.table s.wind.lo s.wind.hi s.floors s.sills) pl 0 (fun x => !decide (stateF s m x = 0)) (by omega) (fun i hi => by
    have hp := isPlace_iff.1 (all_getD hpl hi : isPlace s (pl.getD i 0) = true)
    have e : (⟨s.table, (⟨s.wind.lo, s.wind.hi⟩ : Span), s.floors, s.sills⟩ : Sands) = s := rfl
    unfold m_slices_IndexFunc_intint_5_L0 m_laurellaw01_TideParted_2
    rw [if_pos (by omega), ix_nat 0 hi, Option.bind_some, e]
    generalize pl.getD i 0 = x at hp
    rw [show x = ((x.toNat : Nat) : Int) by omega, rows_ix (by omega), if_pos (by omega), Option.bind_some, lawfirst_eq (by omega), Option.bind_some, subc_eq (by omega), Option.bind_some, rowF_ix hG hd, Option.bind_some, Option.bind_some]
    by_cases h : (!decide (stateF s m ((x.toNat : Nat) : Int) = 0)) = true
    · rw [if_pos h, if_pos h]
    · rw [if_neg h, if_neg h, addc_eq (by omega), Option.bind_some]) (by
    unfold m_slices_IndexFunc_intint_5_L0
    rw [if_neg (by omega)])
  rw [key]
  unfold allDry
  rw [← not_any_not, Bool.not_not]
theorem parted_L6 {s : Sands} (hG : Good s) {pl : List Int} (hpl : pl.all (isPlace s) = true) (hl : pl.length ≤ 1000) {j : m_laurellaw01_TideParted_C0} (hj : j.some9 = pl) (hs : j.states12 = rowsK s s.floors.length) :
    iterM FU (m_laurellaw01_TideParted_L6 (dayN s : Int) j) ⟨0, 0, 0⟩ = some (longN (fun k => allDry s pl (firstM s + (k : Int))) (dayN s) : Int) := by
  obtain ⟨hn, hn2⟩ := Go.Pl.dayN_eq hG
  have key := iterM_run (f := m_laurellaw01_TideParted_L6 (dayN s : Int) j) (b := (longN (fun k => allDry s pl (firstM s + (k : Int))) (dayN s) : Int))
    (fun k : Nat => (⟨(longN (fun k => allDry s pl (firstM s + (k : Int))) k : Int), (nowN (fun k => allDry s pl (firstM s + (k : Int))) k : Int), (k : Int)⟩ : m_laurellaw01_TideParted_S6)) (dayN s) (fun k hk => by
    have h1 := (now_run (q := fun k => allDry s pl (firstM s + (k : Int))) k).1
    unfold m_laurellaw01_TideParted_L6
    dsimp only
    rw [if_pos (by omega), addc_eq (by omega), Option.bind_some, hj, hs, dry_con hG hpl hl hk, Option.bind_some, longN, nowN]
    cases hq : allDry s pl (firstM s + (k : Int)) with
    | true =>
      rw [Bool.not_true, if_neg (by decide), Option.bind_some, addc_eq (by omega), Option.bind_some, if_pos rfl]
      congr 3
      omega
    | false =>
      rw [Bool.not_false, if_pos rfl, Option.bind_some, addc_eq (by omega), Option.bind_some, if_neg (by decide)]
      congr 3
      omega) (by
    unfold m_laurellaw01_TideParted_L6
    dsimp only
    rw [if_neg (by omega)]) FU (FU_lt (by omega))
  exact key
theorem parted_L7 {s : Sands} (hG : Good s) {o : m_laurellaw01_Made_R} (ho : o.r0 = s) {pl : List Int} (hpl : pl.all (isPlace s) = true) (hl : pl.length ≤ 1000) {j : m_laurellaw01_TideParted_C0} (hj : j.some9 = pl) (hs : j.states12 = rowsK s s.floors.length) {t : m_tide_Longest_1_R} {x : Span} (ht : t.r0 = x) (h1 : firstM s ≤ x.lo) (h2 : x.lo ≤ x.hi) (h3 : x.hi ≤ lastM s) (hx : ∀ m, x.lo ≤ m → m ≤ x.hi → allDry s pl m = true) :
    iterM FU (m_laurellaw01_TideParted_L7 t j o) x.lo = some (.inl ()) := by
  have hds := day_span hG
  have key := iterM_run (f := m_laurellaw01_TideParted_L7 t j o) (b := .inl ()) (fun k : Nat => x.lo + (k : Int)) (x.hi + 1 - x.lo).toNat (fun k hk => by
    have hd : dayF s (x.lo + (k : Int)) = true := by simp only [dayF, inr_iff]; omega
    unfold m_laurellaw01_TideParted_L7
    rw [ht, if_pos (by omega), hj, hs, ho, dry_con5 hG hpl hl hd, hx _ (by omega) (by omega), Option.bind_some, Bool.not_true, if_neg (by decide), addc_eq (by omega), Option.bind_some]
    congr 2
    omega) (by
    unfold m_laurellaw01_TideParted_L7
    rw [ht, if_neg (by omega)]) FU (FU_lt (by omega))
  simpa using key
/-- TideParted is true of all bytes -/
theorem parted_true {l : List Int} {when which : Int} (hl : l.length ≤ 9223372036854775807) (hw : 0 ≤ when ∧ when ≤ 255) : m_laurellaw01_TideParted l when which = some true := by
  unfold m_laurellaw01_TideParted
  obtain ⟨o, ho, hM, _⟩ := made_ok (r := 0) hl (p := 0) ⟨Int.le_refl _, .inr rfl⟩ (pl := 6) (sl := 9) (by omega) (by omega)
  have hG := MadeOK.good hM (by omega) (by omega)
  have hS := Good.short hG
  have htl := hG.tl
  have hfl := hG.fl
  have hds := day_span hG
  obtain ⟨hn, hn2⟩ := Go.Pl.dayN_eq hG
  obtain ⟨s, hs⟩ : ∃ s, o.r0 = s := ⟨_, rfl⟩
  rw [pile_eqM, Option.bind_some, ho, Option.bind_some, hs]
  rw [hs] at hG hS htl hfl hds hn hn2
  obtain ⟨t, ht, ht1⟩ : ∃ t, remc (IntKind.i64.wrap when) (lastM s - firstM s + 1) = some t ∧ 0 ≤ t ∧ t < lastM s - firstM s + 1 := by
    have hwr : IntKind.i64.wrap when = when := Go.Fw.wrap_i64 (by omega)
    rw [hwr, remc_eq (by omega)]
    exact ⟨_, rfl, Int.tmod_nonneg _ hw.1, Int.tmod_lt_of_pos _ (by omega)⟩
  rw [lawfirst_eq (by omega), Option.bind_some, lawlast_eq hS (by omega), Option.bind_some, Option.bind_some, subc_eq (by omega), Option.bind_some, addc_eq (by omega), Option.bind_some, ht, Option.bind_some, addc_eq (by omega), Option.bind_some, Option.bind_some, addc_eq (by omega), Option.bind_some, makec_eq ⟨by omega, Int.le_refl _, by omega, by omega⟩, Option.bind_some]
  have hd : dayF s (firstM s + t) = true := by simp only [dayF, inr_iff]; omega
  have e0 : List.replicate ((s.floors.length : Int)).toNat ([] : List Int) = rowsK s 0 := by
    symm
    rw [List.eq_replicate_iff]
    refine ⟨by simp [rowsK], fun x hx => ?_⟩
    obtain ⟨k, _, rfl⟩ := List.mem_map.1 hx
    exact if_neg (by omega)
  rw [e0, parted_L0 hG hs hd, Option.bind_some, oc_inl, flood_eq hS, Option.bind_some, flood_spec hG hd]
  have hlf := flK_len (s := s) (m := firstM s + t) s.floors.length
  have hpl : (filtL (bitW which) s.floors.length).all (isPlace s) = true := by
    rw [List.all_eq_true]
    intro x hx
    obtain ⟨k, hk, rfl⟩ := List.mem_map.1 hx
    have : k < s.floors.length := by simpa using (List.mem_filter.1 hk).1
    exact isPlace_iff.2 ⟨by omega, by omega⟩
  have hll : (filtL (bitW which) s.floors.length).length ≤ 1000 := by
    have := filtL_len (p := bitW which) (k := s.floors.length)
    omega
  have hcond : ∀ (F : (Int × List Int) × Int), F = (if flK s (firstM s + t) s.floors.length = [] then ((0, []), 6) else ((soonK s (firstM s + t) s.floors.length, flK s (firstM s + t) s.floors.length), 0)) →
      (if (!((decide (F.2 = 0)) == (decide (0 < ((flK s (firstM s + t) s.floors.length).length : Int))))) = true then (some true) else
      (if F.2 = 0 then
      (if F.1.1 = soonK s (firstM s + t) s.floors.length then
      ((m_laurelkit_Eq_int F.1.2 (flK s (firstM s + t) s.floors.length)).bind fun t312 =>
      if (!t312) = true then
      (some true) else
      (if F.2 = 0 then
      (some false) else
      (some (!decide (F.2 = 6))))) else
      (some true)) else
      (if F.2 = 0 then
      (some false) else
      (some (!decide (F.2 = 6)))))) = some false := by
    intro F hF
    by_cases he : flK s (firstM s + t) s.floors.length = []
    · rw [hF, if_pos he, he]
      rfl
    · rw [hF, if_neg he]
      have hp : 0 < ((flK s (firstM s + t) s.floors.length).length : Int) := len_pos.2 he
      dsimp only
      rw [decide_eq_true hp, if_neg (by simp), if_pos rfl, if_pos rfl, eq_int _ (by omega), Option.bind_some, if_neg (by decide), if_pos rfl]
  have hc2 := hcond _ rfl
  dsimp only
  rw [hc2, Option.bind_some, if_neg (by decide), longest_eq hS hll, Option.bind_some, Option.bind_some, Option.bind_some, subc_eq (by omega), Option.bind_some, addc_eq (by omega), Option.bind_some]
  have hL6 := parted_L6 hG (pl := filtL (bitW which) s.floors.length) hpl hll (j := ⟨soonK s (firstM s + t) s.floors.length, filtL (bitW which) s.floors.length, flK s (firstM s + t) s.floors.length, rowsK s s.floors.length⟩) rfl rfl
  rw [hn] at hL6
  rw [hL6, Option.bind_some, longestR_good hG hpl]
  obtain ⟨q1, q2⟩ := long_span hG (p := allDry s (filtL (bitW which) s.floors.length))
  by_cases he : spansF s (allDry s (filtL (bitW which) s.floors.length)) = []
  · rw [q1.2 he, if_pos he]
    dsimp only
    rw [if_pos (by rfl), if_pos rfl, x_awake_eq, Option.bind_some, Option.bind_some]
  · obtain ⟨m1, m2⟩ := maxSpan_spec he
    obtain ⟨r1, r2, r3, r4, _⟩ := (spans_runs hG (p := allDry s (filtL (bitW which) s.floors.length))).1 _ m1
    have q3 := q2 he
    rw [if_neg he]
    dsimp only
    rw [if_neg (by omega), if_pos rfl, subc_eq (by omega), Option.bind_some, addc_eq (by omega), Option.bind_some, if_pos q3, Option.bind_some, if_neg (by omega), Option.bind_some, decide_eq_false (by omega), Option.bind_some, if_neg (by decide)]
    have hL7 := parted_L7 hG hs (pl := filtL (bitW which) s.floors.length) hpl hll (j := ⟨soonK s (firstM s + t) s.floors.length, filtL (bitW which) s.floors.length, flK s (firstM s + t) s.floors.length, rowsK s s.floors.length⟩) rfl rfl (t := ⟨maxSpan (spansF s (allDry s (filtL (bitW which) s.floors.length))), 0⟩) rfl r1 r2 r3 r4
    rw [hL7, Option.bind_some, oc_inl, x_awake_eq, Option.bind_some]
end Go.Proofs.Wk

