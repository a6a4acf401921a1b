/- What the functions that the law TideStays reaches come to, and why it holds: part 6. -/
import Derived.Test.YtaicfimbclibpaaTideStays5
namespace Go.Proofs.Wk
open Go Go.Fw Go.Gx Go.Pl
set_option linter.unusedVariables false

def m_tide_every_int_1_2 (x0 : Int) (a11_f0 : Sands) : Option Bool :=
 (x_place a11_f0 x0).bind fun t6 =>
 some (!t6)
set_option maxRecDepth 100000 in
set_option maxHeartbeats 4000000 in
theorem c_tide_every_int_1_2 (x0 : Int) (a11_f0 : Sands) (pb : Nat) (qa0 : Option (Nat × Nat)) (na0 ca0 : Nat) (qa1 : Option (Nat × Nat)) (na1 ca1 : Nat) (qa2 : Option (Nat × Nat)) (na2 ca2 : Nat) (w : World) (hw : HV w (keys [(pb, .cells #[.func (.func 89) #[.agg #[slv qa0 na0 ca0, .int .i64 a11_f0.wind.lo, .int .i64 a11_f0.wind.hi, slv qa1 na1 ca1, slv qa2 na2 ca2]] #[]] 129 (0, 0))] []) [(pb, .cells #[.func (.func 89) #[.agg #[slv qa0 na0 ca0, .int .i64 a11_f0.wind.lo, .int .i64 a11_f0.wind.hi, slv qa1 na1 ca1, slv qa2 na2 ca2]] #[]] 129 (0, 0))] [] [(bk qa0, off qa0, RW.enc a11_f0.table), (bk qa1, off qa1, RI.enc a11_f0.floors), (bk qa2, off qa2, RS.enc a11_f0.sills)] w) (hna0 : a11_f0.table.length = na0) (hqa0 : 0 < na0 → qa0 ≠ none) (hla0 : na0 ≤ ca0) (hna1 : a11_f0.floors.length = na1) (hqa1 : 0 < na1 → qa1 ≠ none) (hla1 : na1 ≤ ca1) (hna2 : a11_f0.sills.length = na2) (hqa2 : 0 < na2 → qa2 ≠ none) (hla2 : na2 ≤ ca2) {res : Bool} (hm : m_tide_every_int_1_2 x0 a11_f0 = some res) :
    Calls Try.prog 151 #[.int .i64 x0, ptr pb 0] w (fun en w' => ∃ l : Unit, en = .returned (.bool res) ∧ (True) ∧ HV w (keys [(pb, .cells #[.func (.func 89) #[.agg #[slv qa0 na0 ca0, .int .i64 a11_f0.wind.lo, .int .i64 a11_f0.wind.hi, slv qa1 na1 ca1, slv qa2 na2 ca2]] #[]] 129 (0, 0))] []) [(pb, .cells #[.func (.func 89) #[.agg #[slv qa0 na0 ca0, .int .i64 a11_f0.wind.lo, .int .i64 a11_f0.wind.hi, slv qa1 na1 ca1, slv qa2 na2 ca2]] #[]] 129 (0, 0))] [] [] w') := by
  unfold m_tide_every_int_1_2 at hm
  refine g_enter (args := [.int .i64 x0, ptr pb 0]) Try.func151 rfl Try.ntmps151 rfl (e := [(0, _), (1, _)]) rfl (H := HV w (keys [(pb, .cells #[.func (.func 89) #[.agg #[slv qa0 na0 ca0, .int .i64 a11_f0.wind.lo, .int .i64 a11_f0.wind.hi, slv qa1 na1 ca1, slv qa2 na2 ca2]] #[]] 129 (0, 0))] []) [(pb, .cells #[.func (.func 89) #[.agg #[slv qa0 na0 ca0, .int .i64 a11_f0.wind.lo, .int .i64 a11_f0.wind.hi, slv qa1 na1 ca1, slv qa2 na2 ca2]] #[]] 129 (0, 0))] [] [(bk qa0, off qa0, RW.enc a11_f0.table), (bk qa1, off qa1, RI.enc a11_f0.floors), (bk qa2, off qa2, RS.enc a11_f0.sills)]) hw ?_
  refine g_seq ?_
  refine g_region ?_
  refine g_val rfl rfl rfl (fun _ _ => v_assign rfl) ?_
  refine g_nil ?_
  refine g_n_then ?_
  refine g_seq ?_
  refine g_region ?_
  refine g_val rfl rfl rfl (fun w hh => v_load (Try.isAgg129 w) rfl (hh.cell 0 rfl rfl)) ?_
  refine g_val rfl rfl rfl (fun _ _ => v_move rfl) ?_
  obtain ⟨t6, h1, hm⟩ := bindO hm
  refine g_callH [] [] rfl rfl rfl rfl rfl rfl rfl (fun a w => Try.call89 a w) (fun w hh => cx_place a11_f0 x0 qa0 na0 ca0 qa1 na1 ca1 qa2 na2 ca2 w (HV.callee (S0 := []) (vs0 := []) hh (roC (hh.rsep (S0 := []) (vs0 := []) 0 rfl) (roC (hh.rsep (S0 := []) (vs0 := []) 1 rfl) (roC (hh.rsep (S0 := []) (vs0 := []) 2 rfl) roN)))) hna0 hqa0 hla0 hna1 hqa1 hla1 hna2 hqa2 hla2 h1) (fun l h2 => ?_)
  refine g_val rfl rfl rfl (fun _ _ => v_not rfl) ?_
  refine g_val rfl rfl rfl (fun _ _ => v_assign rfl) ?_
  refine g_nil ?_
  refine g_n_then ?_
  refine g_ret ?_
  obtain rfl := Option.some.inj hm
  refine g_done rfl (fun w hh => (.tmp rfl .nil)) (fun w hh => ⟨(), rfl, trivial, hh.sel [0] [] 3 (by decide) (by decide) rfl rfl rfl⟩)
def m_slices_IndexFunc_intint_2_L0 (s0 : (List Int)) (f1_c0_f0 : Sands) (s : Int) : Option (Int ⊕ (Unit ⊕ Int)) :=
 if s < (s0.length : Int) then
 ((ix s0 s).bind fun t14 =>
 (m_tide_every_int_1_2 t14 f1_c0_f0).bind fun t16 =>
 if t16 = true then
 (some (.inr (.inr s))) else
 ((addc s 1).bind fun t18 =>
 some (.inl t18))) else
 (some (.inr (.inl ())))
def m_slices_IndexFunc_intint_2 (s0 : (List Int)) (f1_c0_f0 : Sands) : Option Int :=
 (iterM FU (m_slices_IndexFunc_intint_2_L0 s0 f1_c0_f0) 0).bind fun o =>
 oc o (fun j => some (-1)) (fun r_1 => some r_1)
set_option maxRecDepth 100000 in
set_option maxHeartbeats 4000000 in
theorem c_slices_IndexFunc_intint_2 (s0 : (List Int)) (f1_c0_f0 : Sands) (qa0 : Option (Nat × Nat)) (na0 ca0 : Nat) (pb : Nat) (qa1 : Option (Nat × Nat)) (na1 ca1 : Nat) (qa2 : Option (Nat × Nat)) (na2 ca2 : Nat) (qa3 : Option (Nat × Nat)) (na3 ca3 : Nat) (w : World) (hw : HV w (keys [(pb, .cells #[.func (.func 89) #[.agg #[slv qa1 na1 ca1, .int .i64 f1_c0_f0.wind.lo, .int .i64 f1_c0_f0.wind.hi, slv qa2 na2 ca2, slv qa3 na3 ca3]] #[]] 129 (0, 0))] []) [(pb, .cells #[.func (.func 89) #[.agg #[slv qa1 na1 ca1, .int .i64 f1_c0_f0.wind.lo, .int .i64 f1_c0_f0.wind.hi, slv qa2 na2 ca2, slv qa3 na3 ca3]] #[]] 129 (0, 0))] [] [(bk qa0, off qa0, RI.enc s0), (bk qa1, off qa1, RW.enc f1_c0_f0.table), (bk qa2, off qa2, RI.enc f1_c0_f0.floors), (bk qa3, off qa3, RS.enc f1_c0_f0.sills)] w) (hna0 : s0.length = na0) (hqa0 : 0 < na0 → qa0 ≠ none) (hla0 : na0 ≤ ca0) (hna1 : f1_c0_f0.table.length = na1) (hqa1 : 0 < na1 → qa1 ≠ none) (hla1 : na1 ≤ ca1) (hna2 : f1_c0_f0.floors.length = na2) (hqa2 : 0 < na2 → qa2 ≠ none) (hla2 : na2 ≤ ca2) (hna3 : f1_c0_f0.sills.length = na3) (hqa3 : 0 < na3 → qa3 ≠ none) (hla3 : na3 ≤ ca3) {res : Int} (hm : m_slices_IndexFunc_intint_2 s0 f1_c0_f0 = some res) :
    Calls Try.prog 143 #[slv qa0 na0 ca0, .func (.func 151) #[] #[ptr pb 0]] w (fun en w' => ∃ l : Unit, en = .returned (.int .i64 res) ∧ (True) ∧ HV w (keys [(pb, .cells #[.func (.func 89) #[.agg #[slv qa1 na1 ca1, .int .i64 f1_c0_f0.wind.lo, .int .i64 f1_c0_f0.wind.hi, slv qa2 na2 ca2, slv qa3 na3 ca3]] #[]] 129 (0, 0))] []) [(pb, .cells #[.func (.func 89) #[.agg #[slv qa1 na1 ca1, .int .i64 f1_c0_f0.wind.lo, .int .i64 f1_c0_f0.wind.hi, slv qa2 na2 ca2, slv qa3 na3 ca3]] #[]] 129 (0, 0))] [] [] w') := by
  unfold m_slices_IndexFunc_intint_2 at hm
  refine g_enter (args := [slv qa0 na0 ca0, .func (.func 151) #[] #[ptr pb 0]]) Try.func143 rfl Try.ntmps143 rfl (e := [(0, _), (1, _)]) rfl (H := HV w (keys [(pb, .cells #[.func (.func 89) #[.agg #[slv qa1 na1 ca1, .int .i64 f1_c0_f0.wind.lo, .int .i64 f1_c0_f0.wind.hi, slv qa2 na2 ca2, slv qa3 na3 ca3]] #[]] 129 (0, 0))] []) [(pb, .cells #[.func (.func 89) #[.agg #[slv qa1 na1 ca1, .int .i64 f1_c0_f0.wind.lo, .int .i64 f1_c0_f0.wind.hi, slv qa2 na2 ca2, slv qa3 na3 ca3]] #[]] 129 (0, 0))] [] [(bk qa0, off qa0, RI.enc s0), (bk qa1, off qa1, RW.enc f1_c0_f0.table), (bk qa2, off qa2, RI.enc f1_c0_f0.floors), (bk qa3, off qa3, RS.enc f1_c0_f0.sills)]) hw ?_
  refine g_seq ?_
  refine g_region ?_
  refine g_val rfl rfl rfl (fun _ _ => v_assign rfl) ?_
  refine g_nil ?_
  refine g_n_then ?_
  refine g_seq ?_
  refine g_seq ?_
  refine g_region ?_
  refine g_val rfl rfl rfl (fun _ _ => v_move rfl) ?_
  refine g_val rfl rfl rfl (fun w _ => v_lenN hna0 (Try.runUnderlying26 w) rfl) ?_
  refine g_val rfl rfl rfl (fun _ _ => v_move rfl) ?_
  refine g_nil ?_
  refine g_n_then ?_
  obtain ⟨o, h1, h2⟩ := bindO hm
  refine g_cut (ι := Unit) (fun j => o = .inl j) (fun j => []) (fun j => [(pb, .cells #[.func (.func 89) #[.agg #[slv qa1 na1 ca1, .int .i64 f1_c0_f0.wind.lo, .int .i64 f1_c0_f0.wind.hi, slv qa2 na2 ca2, slv qa3 na3 ca3]] #[]] 129 (0, 0))]) (fun j => []) ?_ ?_
  ·replace hm := h1
   refine g_block ?_
   refine g_loopF (ι := Unit) hm (fun s l => True) (fun s l => [(0, slv qa0 na0 ca0), (1, .func (.func 151) #[] #[ptr pb 0]), (7, .int .i64 (s0.length : Int)), (8, .int .i64 s)]) (fun s l => [(pb, .cells #[.func (.func 89) #[.agg #[slv qa1 na1 ca1, .int .i64 f1_c0_f0.wind.lo, .int .i64 f1_c0_f0.wind.hi, slv qa2 na2 ca2, slv qa3 na3 ca3]] #[]] 129 (0, 0))]) (fun s l => []) () (trivial) ((.cons rfl (.cons rfl (.cons rfl (.cons rfl .nil))))) (fun w hh => hh) (fun s l r hpl hm h3 => ?_)
   unfold m_slices_IndexFunc_intint_2_L0 at hm
   refine g_seq ?_
   refine g_region ?_
   refine g_val rfl rfl rfl (fun _ _ => v_lss rfl rfl) ?_
   refine g_nil ?_
   refine g_n_then ?_
   refine g_seq ?_
   refine g_cond rfl (fun h4 => ?_) (fun h4 => ?_)
   ·replace hm := ifT (of_decide_eq_true h4) hm
    refine g_skip ?_
    refine g_n_then ?_
    refine g_seq ?_
    refine g_block ?_
    refine g_seq ?_
    refine g_region ?_
    refine g_val rfl rfl rfl (fun _ _ => v_move rfl) ?_
    refine g_val rfl rfl rfl (fun _ _ => v_assign rfl) ?_
    refine g_nil ?_
    refine g_n_then ?_
    refine g_seq ?_
    refine g_region ?_
    refine g_val rfl rfl rfl (fun _ _ => v_move rfl) ?_
    refine g_val rfl rfl rfl (fun _ _ => v_move rfl) ?_
    refine g_val rfl rfl rfl (fun _ _ => v_move rfl) ?_
    obtain ⟨t14, h5, hm⟩ := bindO hm
    refine g_val rfl rfl rfl (fun w _ => v_ixA h5 (Try.runUnderlying26 w) (Try.sizeOf3 w) rfl rfl hna0 hqa0) ?_
    refine g_val rfl rfl rfl (fun w hh => v_ldE RI 0 h5 (Try.isAgg3 w) rfl (hh.seg 0 rfl) rfl (Nat.add_zero _).symm) ?_
    obtain ⟨t16, h6, hm⟩ := bindO hm
    refine g_callH [_] [] rfl rfl rfl rfl rfl rfl rfl (fun a w => Try.call151 a w) (fun w hh => c_tide_every_int_1_2 t14 f1_c0_f0 pb qa1 na1 ca1 qa2 na2 ca2 qa3 na3 ca3 w (HV.callee (S0 := [_]) (vs0 := []) hh (roC (hh.rsep (S0 := [_]) (vs0 := []) 1 rfl) (roC (hh.rsep (S0 := [_]) (vs0 := []) 2 rfl) (roC (hh.rsep (S0 := [_]) (vs0 := []) 3 rfl) roN)))) hna1 hqa1 hla1 hna2 hqa2 hla2 hna3 hqa3 hla3 h6) (fun l_1 h7 => ?_)
    refine g_sel (S' := [_]) (vs' := []) [0] [] 0 (by decide) (by decide) rfl rfl rfl ?_
    refine g_nil ?_
    refine g_n_then ?_
    refine g_cond rfl (fun h8 => ?_) (fun h8 => ?_)
    ·replace hm := ifT (h8) hm
     refine g_seq ?_
     refine g_region ?_
     refine g_val rfl rfl rfl (fun _ _ => v_move rfl) ?_
     refine g_val rfl rfl rfl (fun _ _ => v_assign rfl) ?_
     refine g_nil ?_
     refine g_n_then ?_
     refine g_ret ?_
     refine g_r_blk ?_
     refine g_r_then ?_
     refine g_r_then ?_
     refine g_r_blk ?_
     obtain rfl := Option.some.inj hm
     have hbo := h3 _ rfl
     subst hbo
     refine g_r_then ?_
     replace hm := ocR h2
     refine g_r_then ?_
     obtain rfl := Option.some.inj hm
     refine g_done rfl (fun w hh => (.tmp rfl .nil)) (fun w hh => ⟨(), rfl, trivial, hh.sel [0] [] 4 (by decide) (by decide) rfl rfl rfl⟩)
    ·replace hm := ifF ((fun hh => Bool.noConfusion ((h8).symm.trans hh))) hm
     refine g_skip ?_
     refine g_n_blk ?_
     refine g_n_then ?_
     refine g_region ?_
     obtain ⟨t18, h9, hm⟩ := bindO hm
     refine g_val rfl rfl rfl (fun _ _ => v_addc h9 rfl rfl) ?_
     refine g_val rfl rfl rfl (fun _ _ => v_move rfl) ?_
     refine g_nil ?_
     obtain rfl := Option.some.inj hm
     refine g_n_then ?_
     exact g_again' _ () rfl (trivial) ((.cons rfl (.cons rfl (.cons rfl (.cons rfl .nil))))) (fun w hh => hh)
   ·replace hm := ifF (of_decide_eq_false h4) hm
    refine g_exit ?_
    refine g_x_then ?_
    refine g_x_then ?_
    refine g_x_blk ?_
    obtain rfl := Option.some.inj hm
    have hbo := h3 _ rfl
    subst hbo
    exact g_leaf () (rfl) (.nil) (fun w hh => hh)
  ·intro j hj
   have h10 := hj
   subst h10
   replace hm := ocL h2
   refine g_n_then ?_
   refine g_seq ?_
   refine g_region ?_
   refine g_val rfl rfl rfl (fun _ _ => v_assign rfl) ?_
   refine g_nil ?_
   refine g_n_then ?_
   refine g_ret ?_
   obtain rfl := Option.some.inj hm
   refine g_done rfl (fun w hh => (.tmp rfl .nil)) (fun w hh => ⟨(), rfl, trivial, hh.sel [0] [] 4 (by decide) (by decide) rfl rfl rfl⟩)
def m_slices_ContainsFunc_intint_2 (s0 : (List Int)) (f1_c0_f0 : Sands) : Option Bool :=
 (m_slices_IndexFunc_intint_2 s0 f1_c0_f0).bind fun t7 =>
 some (decide (0 ≤ t7))
set_option maxRecDepth 100000 in
set_option maxHeartbeats 4000000 in
theorem c_slices_ContainsFunc_intint_2 (s0 : (List Int)) (f1_c0_f0 : Sands) (qa0 : Option (Nat × Nat)) (na0 ca0 : Nat) (pb : Nat) (qa1 : Option (Nat × Nat)) (na1 ca1 : Nat) (qa2 : Option (Nat × Nat)) (na2 ca2 : Nat) (qa3 : Option (Nat × Nat)) (na3 ca3 : Nat) (w : World) (hw : HV w (keys [(pb, .cells #[.func (.func 89) #[.agg #[slv qa1 na1 ca1, .int .i64 f1_c0_f0.wind.lo, .int .i64 f1_c0_f0.wind.hi, slv qa2 na2 ca2, slv qa3 na3 ca3]] #[]] 129 (0, 0))] []) [(pb, .cells #[.func (.func 89) #[.agg #[slv qa1 na1 ca1, .int .i64 f1_c0_f0.wind.lo, .int .i64 f1_c0_f0.wind.hi, slv qa2 na2 ca2, slv qa3 na3 ca3]] #[]] 129 (0, 0))] [] [(bk qa0, off qa0, RI.enc s0), (bk qa1, off qa1, RW.enc f1_c0_f0.table), (bk qa2, off qa2, RI.enc f1_c0_f0.floors), (bk qa3, off qa3, RS.enc f1_c0_f0.sills)] w) (hna0 : s0.length = na0) (hqa0 : 0 < na0 → qa0 ≠ none) (hla0 : na0 ≤ ca0) (hna1 : f1_c0_f0.table.length = na1) (hqa1 : 0 < na1 → qa1 ≠ none) (hla1 : na1 ≤ ca1) (hna2 : f1_c0_f0.floors.length = na2) (hqa2 : 0 < na2 → qa2 ≠ none) (hla2 : na2 ≤ ca2) (hna3 : f1_c0_f0.sills.length = na3) (hqa3 : 0 < na3 → qa3 ≠ none) (hla3 : na3 ≤ ca3) {res : Bool} (hm : m_slices_ContainsFunc_intint_2 s0 f1_c0_f0 = some res) :
    Calls Try.prog 78 #[slv qa0 na0 ca0, .func (.func 151) #[] #[ptr pb 0]] w (fun en w' => ∃ l : Unit, en = .returned (.bool res) ∧ (True) ∧ HV w (keys [(pb, .cells #[.func (.func 89) #[.agg #[slv qa1 na1 ca1, .int .i64 f1_c0_f0.wind.lo, .int .i64 f1_c0_f0.wind.hi, slv qa2 na2 ca2, slv qa3 na3 ca3]] #[]] 129 (0, 0))] []) [(pb, .cells #[.func (.func 89) #[.agg #[slv qa1 na1 ca1, .int .i64 f1_c0_f0.wind.lo, .int .i64 f1_c0_f0.wind.hi, slv qa2 na2 ca2, slv qa3 na3 ca3]] #[]] 129 (0, 0))] [] [] w') := by
  unfold m_slices_ContainsFunc_intint_2 at hm
  refine g_enter (args := [slv qa0 na0 ca0, .func (.func 151) #[] #[ptr pb 0]]) Try.func78 rfl Try.ntmps78 rfl (e := [(0, _), (1, _)]) rfl (H := HV w (keys [(pb, .cells #[.func (.func 89) #[.agg #[slv qa1 na1 ca1, .int .i64 f1_c0_f0.wind.lo, .int .i64 f1_c0_f0.wind.hi, slv qa2 na2 ca2, slv qa3 na3 ca3]] #[]] 129 (0, 0))] []) [(pb, .cells #[.func (.func 89) #[.agg #[slv qa1 na1 ca1, .int .i64 f1_c0_f0.wind.lo, .int .i64 f1_c0_f0.wind.hi, slv qa2 na2 ca2, slv qa3 na3 ca3]] #[]] 129 (0, 0))] [] [(bk qa0, off qa0, RI.enc s0), (bk qa1, off qa1, RW.enc f1_c0_f0.table), (bk qa2, off qa2, RI.enc f1_c0_f0.floors), (bk qa3, off qa3, RS.enc f1_c0_f0.sills)]) hw ?_
  refine g_seq ?_
  refine g_region ?_
  refine g_val rfl rfl rfl (fun _ _ => v_assign rfl) ?_
  refine g_nil ?_
  refine g_n_then ?_
  refine g_seq ?_
  refine g_region ?_
  refine g_val rfl rfl rfl (fun _ _ => v_move rfl) ?_
  refine g_val rfl rfl rfl (fun _ _ => v_move rfl) ?_
  obtain ⟨t7, h1, hm⟩ := bindO hm
  refine g_callH [_] [] rfl rfl rfl rfl rfl rfl rfl (fun a w => Try.call143 a w) (fun w hh => c_slices_IndexFunc_intint_2 s0 f1_c0_f0 qa0 na0 ca0 pb qa1 na1 ca1 qa2 na2 ca2 qa3 na3 ca3 w (HV.callee (S0 := [_]) (vs0 := []) hh (roC (hh.rsep (S0 := [_]) (vs0 := []) 0 rfl) (roC (hh.rsep (S0 := [_]) (vs0 := []) 1 rfl) (roC (hh.rsep (S0 := [_]) (vs0 := []) 2 rfl) (roC (hh.rsep (S0 := [_]) (vs0 := []) 3 rfl) roN))))) hna0 hqa0 hla0 hna1 hqa1 hla1 hna2 hqa2 hla2 hna3 hqa3 hla3 h1) (fun l h2 => ?_)
  refine g_sel (S' := [_]) (vs' := []) [0] [] 0 (by decide) (by decide) rfl rfl rfl ?_
  refine g_val rfl rfl rfl (fun _ _ => v_geq rfl rfl) ?_
  refine g_val rfl rfl rfl (fun _ _ => v_assign rfl) ?_
  refine g_nil ?_
  refine g_n_then ?_
  refine g_ret ?_
  obtain rfl := Option.some.inj hm
  refine g_done rfl (fun w hh => (.tmp rfl .nil)) (fun w hh => ⟨(), rfl, trivial, hh.sel [0] [] 4 (by decide) (by decide) rfl rfl rfl⟩)
def m_tide_every_int_3 (l0 : (List Int)) (holds1_f0 : Sands) : Option Bool :=
 (m_slices_ContainsFunc_intint_2 l0 holds1_f0).bind fun t7 =>
 some (!t7)
set_option maxRecDepth 100000 in
set_option maxHeartbeats 4000000 in
theorem c_tide_every_int_3 (l0 : (List Int)) (holds1_f0 : Sands) (qa0 : Option (Nat × Nat)) (na0 ca0 : Nat) (qa1 : Option (Nat × Nat)) (na1 ca1 : Nat) (qa2 : Option (Nat × Nat)) (na2 ca2 : Nat) (qa3 : Option (Nat × Nat)) (na3 ca3 : Nat) (w : World) (hw : HV w (keys [] []) [] [] [(bk qa0, off qa0, RI.enc l0), (bk qa1, off qa1, RW.enc holds1_f0.table), (bk qa2, off qa2, RI.enc holds1_f0.floors), (bk qa3, off qa3, RS.enc holds1_f0.sills)] w) (hna0 : l0.length = na0) (hqa0 : 0 < na0 → qa0 ≠ none) (hla0 : na0 ≤ ca0) (hna1 : holds1_f0.table.length = na1) (hqa1 : 0 < na1 → qa1 ≠ none) (hla1 : na1 ≤ ca1) (hna2 : holds1_f0.floors.length = na2) (hqa2 : 0 < na2 → qa2 ≠ none) (hla2 : na2 ≤ ca2) (hna3 : holds1_f0.sills.length = na3) (hqa3 : 0 < na3 → qa3 ≠ none) (hla3 : na3 ≤ ca3) {res : Bool} (hm : m_tide_every_int_3 l0 holds1_f0 = some res) :
    Calls Try.prog 94 #[slv qa0 na0 ca0, .func (.func 89) #[.agg #[slv qa1 na1 ca1, .int .i64 holds1_f0.wind.lo, .int .i64 holds1_f0.wind.hi, slv qa2 na2 ca2, slv qa3 na3 ca3]] #[]] w (fun en w' => ∃ l : Unit, en = .returned (.bool res) ∧ (True) ∧ HV w (keys [] []) [] [] [] w') := by
  unfold m_tide_every_int_3 at hm
  refine g_enter (args := [slv qa0 na0 ca0, .func (.func 89) #[.agg #[slv qa1 na1 ca1, .int .i64 holds1_f0.wind.lo, .int .i64 holds1_f0.wind.hi, slv qa2 na2 ca2, slv qa3 na3 ca3]] #[]]) Try.func94 rfl Try.ntmps94 rfl (e := [(0, _), (1, _)]) rfl (H := HV w (keys [] []) [] [] [(bk qa0, off qa0, RI.enc l0), (bk qa1, off qa1, RW.enc holds1_f0.table), (bk qa2, off qa2, RI.enc holds1_f0.floors), (bk qa3, off qa3, RS.enc holds1_f0.sills)]) hw ?_
  refine g_seq ?_
  refine g_region ?_
  refine g_boxV rfl rfl (fun b h1 => ?_)
  refine g_val rfl rfl rfl (fun _ _ => v_assign rfl) ?_
  refine g_nil ?_
  refine g_n_then ?_
  refine g_seq ?_
  refine g_region ?_
  refine g_val rfl rfl rfl (fun _ _ => v_move rfl) ?_
  refine g_val rfl rfl rfl (fun _ _ => v_makeFunc (u := #[]) (u' := #[_]) rfl rfl) ?_
  obtain ⟨t7, h2, hm⟩ := bindO hm
  refine g_callH [_] [] rfl rfl rfl rfl rfl rfl rfl (fun a w => Try.call78 a w) (fun w hh => c_slices_ContainsFunc_intint_2 l0 holds1_f0 qa0 na0 ca0 b qa1 na1 ca1 qa2 na2 ca2 qa3 na3 ca3 w (HV.callee (S0 := [_]) (vs0 := []) hh (roC (hh.rsep (S0 := [_]) (vs0 := []) 0 rfl) (roC (hh.rsep (S0 := [_]) (vs0 := []) 1 rfl) (roC (hh.rsep (S0 := [_]) (vs0 := []) 2 rfl) (roC (hh.rsep (S0 := [_]) (vs0 := []) 3 rfl) roN))))) hna0 hqa0 hla0 hna1 hqa1 hla1 hna2 hqa2 hla2 hna3 hqa3 hla3 h2) (fun l h3 => ?_)
  refine g_sel (S' := [_]) (vs' := []) [0] [] 0 (by decide) (by decide) rfl rfl rfl ?_
  refine g_val rfl rfl rfl (fun _ _ => v_not rfl) ?_
  refine g_val rfl rfl rfl (fun _ _ => v_assign rfl) ?_
  refine g_nil ?_
  refine g_n_then ?_
  refine g_ret ?_
  obtain rfl := Option.some.inj hm
  refine g_done rfl (fun w hh => (.tmp rfl .nil)) (fun w hh => ⟨(), rfl, trivial, hh.sel [] [] 4 (by decide) (by decide) rfl rfl rfl⟩)
def m_tide_Longest_1_1_2 (p0 : Int) (a11 : Sands) (a22 : Int) : Option Bool :=
 (x_at a11 a22 p0).bind fun t8 =>
 some (decide (t8 = 0))
set_option maxRecDepth 100000 in
set_option maxHeartbeats 4000000 in
theorem c_tide_Longest_1_1_2 (p0 : Int) (a11 : Sands) (a22 : Int) (pb : Nat) (db0 : Nat) (qa1 : Option (Nat × Nat)) (na1 ca1 : Nat) (qa2 : Option (Nat × Nat)) (na2 ca2 : Nat) (qa3 : Option (Nat × Nat)) (na3 ca3 : Nat) (pb_1 : Nat) (w : World) (hw : HV w (keys [(pb, .cells #[ptr db0 0] 139 (0, 0)), (pb_1, .cells #[.int .i64 a22] 3 (0, 0))] []) [(pb, .cells #[ptr db0 0] 139 (0, 0)), (pb_1, .cells #[.int .i64 a22] 3 (0, 0))] [] [(db0, 0, [slv qa1 na1 ca1, .int .i64 a11.wind.lo, .int .i64 a11.wind.hi, slv qa2 na2 ca2, slv qa3 na3 ca3, .int .i64 ((gatesOf a11).getD 0 0), .int .i64 ((gatesOf a11).getD 1 0), .int .i64 ((gatesOf a11).getD 2 0), .int .i64 ((gatesOf a11).getD 3 0), .int .i64 ((gatesOf a11).getD 4 0), .int .i64 ((gatesOf a11).getD 5 0), .int .i64 ((gatesOf a11).getD 6 0), .int .i64 ((gatesOf a11).getD 7 0)]), (bk qa1, off qa1, RW.enc a11.table), (bk qa2, off qa2, RI.enc a11.floors), (bk qa3, off qa3, RS.enc a11.sills)] w)  (hna1 : a11.table.length = na1) (hqa1 : 0 < na1 → qa1 ≠ none) (hla1 : na1 ≤ ca1) (hna2 : a11.floors.length = na2) (hqa2 : 0 < na2 → qa2 ≠ none) (hla2 : na2 ≤ ca2) (hna3 : a11.sills.length = na3) (hqa3 : 0 < na3 → qa3 ≠ none) (hla3 : na3 ≤ ca3) {res : Bool} (hm : m_tide_Longest_1_1_2 p0 a11 a22 = some res) :
    Calls Try.prog 140 #[.int .i64 p0, ptr pb 0, ptr pb_1 0] w (fun en w' => ∃ l : Unit, en = .returned (.bool res) ∧ (True) ∧ HV w (keys [(pb, .cells #[ptr db0 0] 139 (0, 0)), (pb_1, .cells #[.int .i64 a22] 3 (0, 0))] []) [(pb, .cells #[ptr db0 0] 139 (0, 0)), (pb_1, .cells #[.int .i64 a22] 3 (0, 0))] [] [] w') := by
  unfold m_tide_Longest_1_1_2 at hm
  refine g_enter (args := [.int .i64 p0, ptr pb 0, ptr pb_1 0]) Try.func140 rfl Try.ntmps140 rfl (e := [(0, _), (1, _), (2, _)]) rfl (H := HV w (keys [(pb, .cells #[ptr db0 0] 139 (0, 0)), (pb_1, .cells #[.int .i64 a22] 3 (0, 0))] []) [(pb, .cells #[ptr db0 0] 139 (0, 0)), (pb_1, .cells #[.int .i64 a22] 3 (0, 0))] [] [(db0, 0, [slv qa1 na1 ca1, .int .i64 a11.wind.lo, .int .i64 a11.wind.hi, slv qa2 na2 ca2, slv qa3 na3 ca3, .int .i64 ((gatesOf a11).getD 0 0), .int .i64 ((gatesOf a11).getD 1 0), .int .i64 ((gatesOf a11).getD 2 0), .int .i64 ((gatesOf a11).getD 3 0), .int .i64 ((gatesOf a11).getD 4 0), .int .i64 ((gatesOf a11).getD 5 0), .int .i64 ((gatesOf a11).getD 6 0), .int .i64 ((gatesOf a11).getD 7 0)]), (bk qa1, off qa1, RW.enc a11.table), (bk qa2, off qa2, RI.enc a11.floors), (bk qa3, off qa3, RS.enc a11.sills)]) hw ?_
  refine g_seq ?_
  refine g_region ?_
  refine g_val rfl rfl rfl (fun _ _ => v_assign rfl) ?_
  refine g_nil ?_
  refine g_n_then ?_
  refine g_seq ?_
  refine g_region ?_
  refine g_val rfl rfl rfl (fun w hh => v_load (Try.isAgg139 w) rfl (hh.cell 0 rfl rfl)) ?_
  refine g_val rfl rfl rfl (fun w hh => v_load (Try.isAgg3 w) rfl (hh.cell 1 rfl rfl)) ?_
  refine g_val rfl rfl rfl (fun _ _ => v_move rfl) ?_
  obtain ⟨t8, h1, hm⟩ := bindO hm
  refine g_callN rfl rfl rfl rfl rfl rfl rfl (fun a w => Try.call104 a w) (fun w hh => cx_at a11 a22 p0 db0 qa1 na1 ca1 qa2 na2 ca2 qa3 na3 ca3 w (HV.callee (S0 := []) (vs0 := []) hh (roC (hh.rsep (S0 := []) (vs0 := []) 0 rfl) (roC (hh.rsep (S0 := []) (vs0 := []) 1 rfl) (roC (hh.rsep (S0 := []) (vs0 := []) 2 rfl) (roC (hh.rsep (S0 := []) (vs0 := []) 3 rfl) roN))))) hna1 hqa1 hla1 hna2 hqa2 hla2 hna3 hqa3 hla3 h1) (fun l h2 => ?_)
  refine g_val rfl rfl rfl (fun _ _ => v_eql rfl rfl) ?_
  refine g_val rfl rfl rfl (fun _ _ => v_assign rfl) ?_
  refine g_nil ?_
  refine g_n_then ?_
  refine g_ret ?_
  obtain rfl := Option.some.inj hm
  refine g_done rfl (fun w hh => (.tmp rfl .nil)) (fun w hh => ⟨(), rfl, trivial, hh.sel [0, 1] [] 4 (by decide) (by decide) rfl rfl rfl⟩)
def m_tide_every_int_1_3 (x0 : Int) (a11_c0 : Sands) (a11_c1 : Int) : Option Bool :=
 (m_tide_Longest_1_1_2 x0 a11_c0 a11_c1).bind fun t6 =>
 some (!t6)
set_option maxRecDepth 100000 in
set_option maxHeartbeats 4000000 in
theorem c_tide_every_int_1_3 (x0 : Int) (a11_c0 : Sands) (a11_c1 : Int) (pb : Nat) (pb_1 : Nat) (db0 : Nat) (qa1 : Option (Nat × Nat)) (na1 ca1 : Nat) (qa2 : Option (Nat × Nat)) (na2 ca2 : Nat) (qa3 : Option (Nat × Nat)) (na3 ca3 : Nat) (pb_2 : Nat) (w : World) (hw : HV w (keys [(pb, .cells #[.func (.func 140) #[] #[ptr pb_1 0, ptr pb_2 0]] 129 (0, 0)), (pb_1, .cells #[ptr db0 0] 139 (0, 0)), (pb_2, .cells #[.int .i64 a11_c1] 3 (0, 0))] []) [(pb, .cells #[.func (.func 140) #[] #[ptr pb_1 0, ptr pb_2 0]] 129 (0, 0)), (pb_1, .cells #[ptr db0 0] 139 (0, 0)), (pb_2, .cells #[.int .i64 a11_c1] 3 (0, 0))] [] [(db0, 0, [slv qa1 na1 ca1, .int .i64 a11_c0.wind.lo, .int .i64 a11_c0.wind.hi, slv qa2 na2 ca2, slv qa3 na3 ca3, .int .i64 ((gatesOf a11_c0).getD 0 0), .int .i64 ((gatesOf a11_c0).getD 1 0), .int .i64 ((gatesOf a11_c0).getD 2 0), .int .i64 ((gatesOf a11_c0).getD 3 0), .int .i64 ((gatesOf a11_c0).getD 4 0), .int .i64 ((gatesOf a11_c0).getD 5 0), .int .i64 ((gatesOf a11_c0).getD 6 0), .int .i64 ((gatesOf a11_c0).getD 7 0)]), (bk qa1, off qa1, RW.enc a11_c0.table), (bk qa2, off qa2, RI.enc a11_c0.floors), (bk qa3, off qa3, RS.enc a11_c0.sills)] w)  (hna1 : a11_c0.table.length = na1) (hqa1 : 0 < na1 → qa1 ≠ none) (hla1 : na1 ≤ ca1) (hna2 : a11_c0.floors.length = na2) (hqa2 : 0 < na2 → qa2 ≠ none) (hla2 : na2 ≤ ca2) (hna3 : a11_c0.sills.length = na3) (hqa3 : 0 < na3 → qa3 ≠ none) (hla3 : na3 ≤ ca3) {res : Bool} (hm : m_tide_every_int_1_3 x0 a11_c0 a11_c1 = some res) :
    Calls Try.prog 151 #[.int .i64 x0, ptr pb 0] w (fun en w' => ∃ l : Unit, en = .returned (.bool res) ∧ (True) ∧ HV w (keys [(pb, .cells #[.func (.func 140) #[] #[ptr pb_1 0, ptr pb_2 0]] 129 (0, 0)), (pb_1, .cells #[ptr db0 0] 139 (0, 0)), (pb_2, .cells #[.int .i64 a11_c1] 3 (0, 0))] []) [(pb, .cells #[.func (.func 140) #[] #[ptr pb_1 0, ptr pb_2 0]] 129 (0, 0)), (pb_1, .cells #[ptr db0 0] 139 (0, 0)), (pb_2, .cells #[.int .i64 a11_c1] 3 (0, 0))] [] [] w') := by
  unfold m_tide_every_int_1_3 at hm
  refine g_enter (args := [.int .i64 x0, ptr pb 0]) Try.func151 rfl Try.ntmps151 rfl (e := [(0, _), (1, _)]) rfl (H := HV w (keys [(pb, .cells #[.func (.func 140) #[] #[ptr pb_1 0, ptr pb_2 0]] 129 (0, 0)), (pb_1, .cells #[ptr db0 0] 139 (0, 0)), (pb_2, .cells #[.int .i64 a11_c1] 3 (0, 0))] []) [(pb, .cells #[.func (.func 140) #[] #[ptr pb_1 0, ptr pb_2 0]] 129 (0, 0)), (pb_1, .cells #[ptr db0 0] 139 (0, 0)), (pb_2, .cells #[.int .i64 a11_c1] 3 (0, 0))] [] [(db0, 0, [slv qa1 na1 ca1, .int .i64 a11_c0.wind.lo, .int .i64 a11_c0.wind.hi, slv qa2 na2 ca2, slv qa3 na3 ca3, .int .i64 ((gatesOf a11_c0).getD 0 0), .int .i64 ((gatesOf a11_c0).getD 1 0), .int .i64 ((gatesOf a11_c0).getD 2 0), .int .i64 ((gatesOf a11_c0).getD 3 0), .int .i64 ((gatesOf a11_c0).getD 4 0), .int .i64 ((gatesOf a11_c0).getD 5 0), .int .i64 ((gatesOf a11_c0).getD 6 0), .int .i64 ((gatesOf a11_c0).getD 7 0)]), (bk qa1, off qa1, RW.enc a11_c0.table), (bk qa2, off qa2, RI.enc a11_c0.floors), (bk qa3, off qa3, RS.enc a11_c0.sills)]) hw ?_
  refine g_seq ?_
  refine g_region ?_
  refine g_val rfl rfl rfl (fun _ _ => v_assign rfl) ?_
  refine g_nil ?_
  refine g_n_then ?_
  refine g_seq ?_
  refine g_region ?_
  refine g_val rfl rfl rfl (fun w hh => v_load (Try.isAgg129 w) rfl (hh.cell 0 rfl rfl)) ?_
  refine g_val rfl rfl rfl (fun _ _ => v_move rfl) ?_
  obtain ⟨t6, h1, hm⟩ := bindO hm
  refine g_sel (S' := [_, _, _]) (vs' := []) [1, 2, 0] [] 0 (by decide) (by decide) rfl rfl rfl ?_
  refine g_callH [_, _] [] rfl rfl rfl rfl rfl rfl rfl (fun a w => Try.call140 a w) (fun w hh => c_tide_Longest_1_1_2 x0 a11_c0 a11_c1 pb_1 db0 qa1 na1 ca1 qa2 na2 ca2 qa3 na3 ca3 pb_2 w (HV.callee (S0 := [_, _]) (vs0 := []) hh (roC (hh.rsep (S0 := [_, _]) (vs0 := []) 0 rfl) (roC (hh.rsep (S0 := [_, _]) (vs0 := []) 1 rfl) (roC (hh.rsep (S0 := [_, _]) (vs0 := []) 2 rfl) (roC (hh.rsep (S0 := [_, _]) (vs0 := []) 3 rfl) roN))))) hna1 hqa1 hla1 hna2 hqa2 hla2 hna3 hqa3 hla3 h1) (fun l h2 => ?_)
  refine g_sel (S' := [_, _, _]) (vs' := []) [0, 1, 2] [] 0 (by decide) (by decide) rfl rfl rfl ?_
  refine g_val rfl rfl rfl (fun _ _ => v_not rfl) ?_
  refine g_val rfl rfl rfl (fun _ _ => v_assign rfl) ?_
  refine g_nil ?_
  refine g_n_then ?_
  refine g_ret ?_
  obtain rfl := Option.some.inj hm
  refine g_done rfl (fun w hh => (.tmp rfl .nil)) (fun w hh => ⟨(), rfl, trivial, hh.sel [2, 0, 1] [] 4 (by decide) (by decide) rfl rfl rfl⟩)
def m_slices_IndexFunc_intint_3_L0 (s0 : (List Int)) (f1_c0_c0 : Sands) (f1_c0_c1 : Int) (s : Int) : Option (Int ⊕ (Unit ⊕ Int)) :=
 if s < (s0.length : Int) then
 ((ix s0 s).bind fun t14 =>
 (m_tide_every_int_1_3 t14 f1_c0_c0 f1_c0_c1).bind fun t16 =>
 if t16 = true then
 (some (.inr (.inr s))) else
 ((addc s 1).bind fun t18 =>
 some (.inl t18))) else
 (some (.inr (.inl ())))
def m_slices_IndexFunc_intint_3 (s0 : (List Int)) (f1_c0_c0 : Sands) (f1_c0_c1 : Int) : Option Int :=
 (iterM FU (m_slices_IndexFunc_intint_3_L0 s0 f1_c0_c0 f1_c0_c1) 0).bind fun o =>
 oc o (fun j => some (-1)) (fun r_1 => some r_1)
set_option maxRecDepth 100000 in
set_option maxHeartbeats 4000000 in
theorem c_slices_IndexFunc_intint_3 (s0 : (List Int)) (f1_c0_c0 : Sands) (f1_c0_c1 : Int) (qa0 : Option (Nat × Nat)) (na0 ca0 : Nat) (pb : Nat) (pb_1 : Nat) (db1 : Nat) (qa2 : Option (Nat × Nat)) (na2 ca2 : Nat) (qa3 : Option (Nat × Nat)) (na3 ca3 : Nat) (qa4 : Option (Nat × Nat)) (na4 ca4 : Nat) (pb_2 : Nat) (w : World) (hw : HV w (keys [(pb, .cells #[.func (.func 140) #[] #[ptr pb_1 0, ptr pb_2 0]] 129 (0, 0)), (pb_1, .cells #[ptr db1 0] 139 (0, 0)), (pb_2, .cells #[.int .i64 f1_c0_c1] 3 (0, 0))] []) [(pb, .cells #[.func (.func 140) #[] #[ptr pb_1 0, ptr pb_2 0]] 129 (0, 0)), (pb_1, .cells #[ptr db1 0] 139 (0, 0)), (pb_2, .cells #[.int .i64 f1_c0_c1] 3 (0, 0))] [] [(bk qa0, off qa0, RI.enc s0), (db1, 0, [slv qa2 na2 ca2, .int .i64 f1_c0_c0.wind.lo, .int .i64 f1_c0_c0.wind.hi, slv qa3 na3 ca3, slv qa4 na4 ca4, .int .i64 ((gatesOf f1_c0_c0).getD 0 0), .int .i64 ((gatesOf f1_c0_c0).getD 1 0), .int .i64 ((gatesOf f1_c0_c0).getD 2 0), .int .i64 ((gatesOf f1_c0_c0).getD 3 0), .int .i64 ((gatesOf f1_c0_c0).getD 4 0), .int .i64 ((gatesOf f1_c0_c0).getD 5 0), .int .i64 ((gatesOf f1_c0_c0).getD 6 0), .int .i64 ((gatesOf f1_c0_c0).getD 7 0)]), (bk qa2, off qa2, RW.enc f1_c0_c0.table), (bk qa3, off qa3, RI.enc f1_c0_c0.floors), (bk qa4, off qa4, RS.enc f1_c0_c0.sills)] w) (hna0 : s0.length = na0) (hqa0 : 0 < na0 → qa0 ≠ none) (hla0 : na0 ≤ ca0)  (hna2 : f1_c0_c0.table.length = na2) (hqa2 : 0 < na2 → qa2 ≠ none) (hla2 : na2 ≤ ca2) (hna3 : f1_c0_c0.floors.length = na3) (hqa3 : 0 < na3 → qa3 ≠ none) (hla3 : na3 ≤ ca3) (hna4 : f1_c0_c0.sills.length = na4) (hqa4 : 0 < na4 → qa4 ≠ none) (hla4 : na4 ≤ ca4) {res : Int} (hm : m_slices_IndexFunc_intint_3 s0 f1_c0_c0 f1_c0_c1 = some res) :
    Calls Try.prog 143 #[slv qa0 na0 ca0, .func (.func 151) #[] #[ptr pb 0]] w (fun en w' => ∃ l : Unit, en = .returned (.int .i64 res) ∧ (True) ∧ HV w (keys [(pb, .cells #[.func (.func 140) #[] #[ptr pb_1 0, ptr pb_2 0]] 129 (0, 0)), (pb_1, .cells #[ptr db1 0] 139 (0, 0)), (pb_2, .cells #[.int .i64 f1_c0_c1] 3 (0, 0))] []) [(pb, .cells #[.func (.func 140) #[] #[ptr pb_1 0, ptr pb_2 0]] 129 (0, 0)), (pb_1, .cells #[ptr db1 0] 139 (0, 0)), (pb_2, .cells #[.int .i64 f1_c0_c1] 3 (0, 0))] [] [] w') := by
  unfold m_slices_IndexFunc_intint_3 at hm
  refine g_enter (args := [slv qa0 na0 ca0, .func (.func 151) #[] #[ptr pb 0]]) Try.func143 rfl Try.ntmps143 rfl (e := [(0, _), (1, _)]) rfl (H := HV w (keys [(pb, .cells #[.func (.func 140) #[] #[ptr pb_1 0, ptr pb_2 0]] 129 (0, 0)), (pb_1, .cells #[ptr db1 0] 139 (0, 0)), (pb_2, .cells #[.int .i64 f1_c0_c1] 3 (0, 0))] []) [(pb, .cells #[.func (.func 140) #[] #[ptr pb_1 0, ptr pb_2 0]] 129 (0, 0)), (pb_1, .cells #[ptr db1 0] 139 (0, 0)), (pb_2, .cells #[.int .i64 f1_c0_c1] 3 (0, 0))] [] [(bk qa0, off qa0, RI.enc s0), (db1, 0, [slv qa2 na2 ca2, .int .i64 f1_c0_c0.wind.lo, .int .i64 f1_c0_c0.wind.hi, slv qa3 na3 ca3, slv qa4 na4 ca4, .int .i64 ((gatesOf f1_c0_c0).getD 0 0), .int .i64 ((gatesOf f1_c0_c0).getD 1 0), .int .i64 ((gatesOf f1_c0_c0).getD 2 0), .int .i64 ((gatesOf f1_c0_c0).getD 3 0), .int .i64 ((gatesOf f1_c0_c0).getD 4 0), .int .i64 ((gatesOf f1_c0_c0).getD 5 0), .int .i64 ((gatesOf f1_c0_c0).getD 6 0), .int .i64 ((gatesOf f1_c0_c0).getD 7 0)]), (bk qa2, off qa2, RW.enc f1_c0_c0.table), (bk qa3, off qa3, RI.enc f1_c0_c0.floors), (bk qa4, off qa4, RS.enc f1_c0_c0.sills)]) hw ?_
  refine g_seq ?_
  refine g_region ?_
  refine g_val rfl rfl rfl (fun _ _ => v_assign rfl) ?_
  refine g_nil ?_
  refine g_n_then ?_
  refine g_seq ?_
  refine g_seq ?_
  refine g_region ?_
  refine g_val rfl rfl rfl (fun _ _ => v_move rfl) ?_
  refine g_val rfl rfl rfl (fun w _ => v_lenN hna0 (Try.runUnderlying26 w) rfl) ?_
  refine g_val rfl rfl rfl (fun _ _ => v_move rfl) ?_
  refine g_nil ?_
  refine g_n_then ?_
  obtain ⟨o, h1, h2⟩ := bindO hm
  refine g_cut (ι := Unit) (fun j => o = .inl j) (fun j => []) (fun j => [(pb, .cells #[.func (.func 140) #[] #[ptr pb_1 0, ptr pb_2 0]] 129 (0, 0)), (pb_1, .cells #[ptr db1 0] 139 (0, 0)), (pb_2, .cells #[.int .i64 f1_c0_c1] 3 (0, 0))]) (fun j => []) ?_ ?_
  ·replace hm := h1
   refine g_block ?_
   refine g_loopF (ι := Unit) hm (fun s l => True) (fun s l => [(0, slv qa0 na0 ca0), (1, .func (.func 151) #[] #[ptr pb 0]), (7, .int .i64 (s0.length : Int)), (8, .int .i64 s)]) (fun s l => [(pb, .cells #[.func (.func 140) #[] #[ptr pb_1 0, ptr pb_2 0]] 129 (0, 0)), (pb_1, .cells #[ptr db1 0] 139 (0, 0)), (pb_2, .cells #[.int .i64 f1_c0_c1] 3 (0, 0))]) (fun s l => []) () (trivial) ((.cons rfl (.cons rfl (.cons rfl (.cons rfl .nil))))) (fun w hh => hh) (fun s l r hpl hm h3 => ?_)
   unfold m_slices_IndexFunc_intint_3_L0 at hm
   refine g_seq ?_
   refine g_region ?_
   refine g_val rfl rfl rfl (fun _ _ => v_lss rfl rfl) ?_
   refine g_nil ?_
   refine g_n_then ?_
   refine g_seq ?_
   refine g_cond rfl (fun h4 => ?_) (fun h4 => ?_)
   ·replace hm := ifT (of_decide_eq_true h4) hm
    refine g_skip ?_
    refine g_n_then ?_
    refine g_seq ?_
    refine g_block ?_
    refine g_seq ?_
    refine g_region ?_
    refine g_val rfl rfl rfl (fun _ _ => v_move rfl) ?_
    refine g_val rfl rfl rfl (fun _ _ => v_assign rfl) ?_
    refine g_nil ?_
    refine g_n_then ?_
    refine g_seq ?_
    refine g_region ?_
    refine g_val rfl rfl rfl (fun _ _ => v_move rfl) ?_
    refine g_val rfl rfl rfl (fun _ _ => v_move rfl) ?_
    refine g_val rfl rfl rfl (fun _ _ => v_move rfl) ?_
    obtain ⟨t14, h5, hm⟩ := bindO hm
    refine g_val rfl rfl rfl (fun w _ => v_ixA h5 (Try.runUnderlying26 w) (Try.sizeOf3 w) rfl rfl hna0 hqa0) ?_
    refine g_val rfl rfl rfl (fun w hh => v_ldE RI 0 h5 (Try.isAgg3 w) rfl (hh.seg 0 rfl) rfl (Nat.add_zero _).symm) ?_
    obtain ⟨t16, h6, hm⟩ := bindO hm
    refine g_callH [_, _, _] [] rfl rfl rfl rfl rfl rfl rfl (fun a w => Try.call151 a w) (fun w hh => c_tide_every_int_1_3 t14 f1_c0_c0 f1_c0_c1 pb pb_1 db1 qa2 na2 ca2 qa3 na3 ca3 qa4 na4 ca4 pb_2 w (HV.callee (S0 := [_, _, _]) (vs0 := []) hh (roC (hh.rsep (S0 := [_, _, _]) (vs0 := []) 1 rfl) (roC (hh.rsep (S0 := [_, _, _]) (vs0 := []) 2 rfl) (roC (hh.rsep (S0 := [_, _, _]) (vs0 := []) 3 rfl) (roC (hh.rsep (S0 := [_, _, _]) (vs0 := []) 4 rfl) roN))))) hna2 hqa2 hla2 hna3 hqa3 hla3 hna4 hqa4 hla4 h6) (fun l_1 h7 => ?_)
    refine g_sel (S' := [_, _, _]) (vs' := []) [0, 1, 2] [] 0 (by decide) (by decide) rfl rfl rfl ?_
    refine g_nil ?_
    refine g_n_then ?_
    refine g_cond rfl (fun h8 => ?_) (fun h8 => ?_)
    ·replace hm := ifT (h8) hm
     refine g_seq ?_
     refine g_region ?_
     refine g_val rfl rfl rfl (fun _ _ => v_move rfl) ?_
     refine g_val rfl rfl rfl (fun _ _ => v_assign rfl) ?_
     refine g_nil ?_
     refine g_n_then ?_
     refine g_ret ?_
     refine g_r_blk ?_
     refine g_r_then ?_
     refine g_r_then ?_
     refine g_r_blk ?_
     obtain rfl := Option.some.inj hm
     have hbo := h3 _ rfl
     subst hbo
     refine g_r_then ?_
     replace hm := ocR h2
     refine g_r_then ?_
     obtain rfl := Option.some.inj hm
     refine g_done rfl (fun w hh => (.tmp rfl .nil)) (fun w hh => ⟨(), rfl, trivial, hh.sel [0, 1, 2] [] 5 (by decide) (by decide) rfl rfl rfl⟩)
    ·replace hm := ifF ((fun hh => Bool.noConfusion ((h8).symm.trans hh))) hm
     refine g_skip ?_
     refine g_n_blk ?_
     refine g_n_then ?_
     refine g_region ?_
     obtain ⟨t18, h9, hm⟩ := bindO hm
     refine g_val rfl rfl rfl (fun _ _ => v_addc h9 rfl rfl) ?_
     refine g_val rfl rfl rfl (fun _ _ => v_move rfl) ?_
     refine g_nil ?_
     obtain rfl := Option.some.inj hm
     refine g_n_then ?_
     exact g_again' _ () rfl (trivial) ((.cons rfl (.cons rfl (.cons rfl (.cons rfl .nil))))) (fun w hh => hh)
   ·replace hm := ifF (of_decide_eq_false h4) hm
    refine g_exit ?_
    refine g_x_then ?_
    refine g_x_then ?_
    refine g_x_blk ?_
    obtain rfl := Option.some.inj hm
    have hbo := h3 _ rfl
    subst hbo
    exact g_leaf () (rfl) (.nil) (fun w hh => hh)
  ·intro j hj
   have h10 := hj
   subst h10
   replace hm := ocL h2
   refine g_n_then ?_
   refine g_seq ?_
   refine g_region ?_
   refine g_val rfl rfl rfl (fun _ _ => v_assign rfl) ?_
   refine g_nil ?_
   refine g_n_then ?_
   refine g_ret ?_
   obtain rfl := Option.some.inj hm
   refine g_done rfl (fun w hh => (.tmp rfl .nil)) (fun w hh => ⟨(), rfl, trivial, hh.sel [0, 1, 2] [] 5 (by decide) (by decide) rfl rfl rfl⟩)
def m_slices_ContainsFunc_intint_3 (s0 : (List Int)) (f1_c0_c0 : Sands) (f1_c0_c1 : Int) : Option Bool :=
 (m_slices_IndexFunc_intint_3 s0 f1_c0_c0 f1_c0_c1).bind fun t7 =>
 some (decide (0 ≤ t7))
set_option maxRecDepth 100000 in
set_option maxHeartbeats 4000000 in
theorem c_slices_ContainsFunc_intint_3 (s0 : (List Int)) (f1_c0_c0 : Sands) (f1_c0_c1 : Int) (qa0 : Option (Nat × Nat)) (na0 ca0 : Nat) (pb : Nat) (pb_1 : Nat) (db1 : Nat) (qa2 : Option (Nat × Nat)) (na2 ca2 : Nat) (qa3 : Option (Nat × Nat)) (na3 ca3 : Nat) (qa4 : Option (Nat × Nat)) (na4 ca4 : Nat) (pb_2 : Nat) (w : World) (hw : HV w (keys [(pb, .cells #[.func (.func 140) #[] #[ptr pb_1 0, ptr pb_2 0]] 129 (0, 0)), (pb_1, .cells #[ptr db1 0] 139 (0, 0)), (pb_2, .cells #[.int .i64 f1_c0_c1] 3 (0, 0))] []) [(pb, .cells #[.func (.func 140) #[] #[ptr pb_1 0, ptr pb_2 0]] 129 (0, 0)), (pb_1, .cells #[ptr db1 0] 139 (0, 0)), (pb_2, .cells #[.int .i64 f1_c0_c1] 3 (0, 0))] [] [(bk qa0, off qa0, RI.enc s0), (db1, 0, [slv qa2 na2 ca2, .int .i64 f1_c0_c0.wind.lo, .int .i64 f1_c0_c0.wind.hi, slv qa3 na3 ca3, slv qa4 na4 ca4, .int .i64 ((gatesOf f1_c0_c0).getD 0 0), .int .i64 ((gatesOf f1_c0_c0).getD 1 0), .int .i64 ((gatesOf f1_c0_c0).getD 2 0), .int .i64 ((gatesOf f1_c0_c0).getD 3 0), .int .i64 ((gatesOf f1_c0_c0).getD 4 0), .int .i64 ((gatesOf f1_c0_c0).getD 5 0), .int .i64 ((gatesOf f1_c0_c0).getD 6 0), .int .i64 ((gatesOf f1_c0_c0).getD 7 0)]), (bk qa2, off qa2, RW.enc f1_c0_c0.table), (bk qa3, off qa3, RI.enc f1_c0_c0.floors), (bk qa4, off qa4, RS.enc f1_c0_c0.sills)] w) (hna0 : s0.length = na0) (hqa0 : 0 < na0 → qa0 ≠ none) (hla0 : na0 ≤ ca0)  (hna2 : f1_c0_c0.table.length = na2) (hqa2 : 0 < na2 → qa2 ≠ none) (hla2 : na2 ≤ ca2) (hna3 : f1_c0_c0.floors.length = na3) (hqa3 : 0 < na3 → qa3 ≠ none) (hla3 : na3 ≤ ca3) (hna4 : f1_c0_c0.sills.length = na4) (hqa4 : 0 < na4 → qa4 ≠ none) (hla4 : na4 ≤ ca4) {res : Bool} (hm : m_slices_ContainsFunc_intint_3 s0 f1_c0_c0 f1_c0_c1 = some res) :
    Calls Try.prog 78 #[slv qa0 na0 ca0, .func (.func 151) #[] #[ptr pb 0]] w (fun en w' => ∃ l : Unit, en = .returned (.bool res) ∧ (True) ∧ HV w (keys [(pb, .cells #[.func (.func 140) #[] #[ptr pb_1 0, ptr pb_2 0]] 129 (0, 0)), (pb_1, .cells #[ptr db1 0] 139 (0, 0)), (pb_2, .cells #[.int .i64 f1_c0_c1] 3 (0, 0))] []) [(pb, .cells #[.func (.func 140) #[] #[ptr pb_1 0, ptr pb_2 0]] 129 (0, 0)), (pb_1, .cells #[ptr db1 0] 139 (0, 0)), (pb_2, .cells #[.int .i64 f1_c0_c1] 3 (0, 0))] [] [] w') := by
  unfold m_slices_ContainsFunc_intint_3 at hm
  refine g_enter (args := [slv qa0 na0 ca0, .func (.func 151) #[] #[ptr pb 0]]) Try.func78 rfl Try.ntmps78 rfl (e := [(0, _), (1, _)]) rfl (H := HV w (keys [(pb, .cells #[.func (.func 140) #[] #[ptr pb_1 0, ptr pb_2 0]] 129 (0, 0)), (pb_1, .cells #[ptr db1 0] 139 (0, 0)), (pb_2, .cells #[.int .i64 f1_c0_c1] 3 (0, 0))] []) [(pb, .cells #[.func (.func 140) #[] #[ptr pb_1 0, ptr pb_2 0]] 129 (0, 0)), (pb_1, .cells #[ptr db1 0] 139 (0, 0)), (pb_2, .cells #[.int .i64 f1_c0_c1] 3 (0, 0))] [] [(bk qa0, off qa0, RI.enc s0), (db1, 0, [slv qa2 na2 ca2, .int .i64 f1_c0_c0.wind.lo, .int .i64 f1_c0_c0.wind.hi, slv qa3 na3 ca3, slv qa4 na4 ca4, .int .i64 ((gatesOf f1_c0_c0).getD 0 0), .int .i64 ((gatesOf f1_c0_c0).getD 1 0), .int .i64 ((gatesOf f1_c0_c0).getD 2 0), .int .i64 ((gatesOf f1_c0_c0).getD 3 0), .int .i64 ((gatesOf f1_c0_c0).getD 4 0), .int .i64 ((gatesOf f1_c0_c0).getD 5 0), .int .i64 ((gatesOf f1_c0_c0).getD 6 0), .int .i64 ((gatesOf f1_c0_c0).getD 7 0)]), (bk qa2, off qa2, RW.enc f1_c0_c0.table), (bk qa3, off qa3, RI.enc f1_c0_c0.floors), (bk qa4, off qa4, RS.enc f1_c0_c0.sills)]) hw ?_
  refine g_seq ?_
  refine g_region ?_
  refine g_val rfl rfl rfl (fun _ _ => v_assign rfl) ?_
  refine g_nil ?_
  refine g_n_then ?_
  refine g_seq ?_
  refine g_region ?_
  refine g_val rfl rfl rfl (fun _ _ => v_move rfl) ?_
  refine g_val rfl rfl rfl (fun _ _ => v_move rfl) ?_
  obtain ⟨t7, h1, hm⟩ := bindO hm
  refine g_callH [_, _, _] [] rfl rfl rfl rfl rfl rfl rfl (fun a w => Try.call143 a w) (fun w hh => c_slices_IndexFunc_intint_3 s0 f1_c0_c0 f1_c0_c1 qa0 na0 ca0 pb pb_1 db1 qa2 na2 ca2 qa3 na3 ca3 qa4 na4 ca4 pb_2 w (HV.callee (S0 := [_, _, _]) (vs0 := []) hh (roC (hh.rsep (S0 := [_, _, _]) (vs0 := []) 0 rfl) (roC (hh.rsep (S0 := [_, _, _]) (vs0 := []) 1 rfl) (roC (hh.rsep (S0 := [_, _, _]) (vs0 := []) 2 rfl) (roC (hh.rsep (S0 := [_, _, _]) (vs0 := []) 3 rfl) (roC (hh.rsep (S0 := [_, _, _]) (vs0 := []) 4 rfl) roN)))))) hna0 hqa0 hla0 hna2 hqa2 hla2 hna3 hqa3 hla3 hna4 hqa4 hla4 h1) (fun l h2 => ?_)
  refine g_sel (S' := [_, _, _]) (vs' := []) [0, 1, 2] [] 0 (by decide) (by decide) rfl rfl rfl ?_
  refine g_val rfl rfl rfl (fun _ _ => v_geq rfl rfl) ?_
  refine g_val rfl rfl rfl (fun _ _ => v_assign rfl) ?_
  refine g_nil ?_
  refine g_n_then ?_
  refine g_ret ?_
  obtain rfl := Option.some.inj hm
  refine g_done rfl (fun w hh => (.tmp rfl .nil)) (fun w hh => ⟨(), rfl, trivial, hh.sel [0, 1, 2] [] 5 (by decide) (by decide) rfl rfl rfl⟩)
def m_tide_every_int_4 (l0 : (List Int)) (holds1_c0 : Sands) (holds1_c1 : Int) : Option Bool :=
 (m_slices_ContainsFunc_intint_3 l0 holds1_c0 holds1_c1).bind fun t7 =>
 some (!t7)
set_option maxRecDepth 100000 in
set_option maxHeartbeats 4000000 in
theorem c_tide_every_int_4 (l0 : (List Int)) (holds1_c0 : Sands) (holds1_c1 : Int) (qa0 : Option (Nat × Nat)) (na0 ca0 : Nat) (pb : Nat) (db1 : Nat) (qa2 : Option (Nat × Nat)) (na2 ca2 : Nat) (qa3 : Option (Nat × Nat)) (na3 ca3 : Nat) (qa4 : Option (Nat × Nat)) (na4 ca4 : Nat) (pb_1 : Nat) (w : World) (hw : HV w (keys [(pb, .cells #[ptr db1 0] 139 (0, 0)), (pb_1, .cells #[.int .i64 holds1_c1] 3 (0, 0))] []) [(pb, .cells #[ptr db1 0] 139 (0, 0)), (pb_1, .cells #[.int .i64 holds1_c1] 3 (0, 0))] [] [(bk qa0, off qa0, RI.enc l0), (db1, 0, [slv qa2 na2 ca2, .int .i64 holds1_c0.wind.lo, .int .i64 holds1_c0.wind.hi, slv qa3 na3 ca3, slv qa4 na4 ca4, .int .i64 ((gatesOf holds1_c0).getD 0 0), .int .i64 ((gatesOf holds1_c0).getD 1 0), .int .i64 ((gatesOf holds1_c0).getD 2 0), .int .i64 ((gatesOf holds1_c0).getD 3 0), .int .i64 ((gatesOf holds1_c0).getD 4 0), .int .i64 ((gatesOf holds1_c0).getD 5 0), .int .i64 ((gatesOf holds1_c0).getD 6 0), .int .i64 ((gatesOf holds1_c0).getD 7 0)]), (bk qa2, off qa2, RW.enc holds1_c0.table), (bk qa3, off qa3, RI.enc holds1_c0.floors), (bk qa4, off qa4, RS.enc holds1_c0.sills)] w) (hna0 : l0.length = na0) (hqa0 : 0 < na0 → qa0 ≠ none) (hla0 : na0 ≤ ca0)  (hna2 : holds1_c0.table.length = na2) (hqa2 : 0 < na2 → qa2 ≠ none) (hla2 : na2 ≤ ca2) (hna3 : holds1_c0.floors.length = na3) (hqa3 : 0 < na3 → qa3 ≠ none) (hla3 : na3 ≤ ca3) (hna4 : holds1_c0.sills.length = na4) (hqa4 : 0 < na4 → qa4 ≠ none) (hla4 : na4 ≤ ca4) {res : Bool} (hm : m_tide_every_int_4 l0 holds1_c0 holds1_c1 = some res) :
    Calls Try.prog 94 #[slv qa0 na0 ca0, .func (.func 140) #[] #[ptr pb 0, ptr pb_1 0]] w (fun en w' => ∃ l : Unit, en = .returned (.bool res) ∧ (True) ∧ HV w (keys [(pb, .cells #[ptr db1 0] 139 (0, 0)), (pb_1, .cells #[.int .i64 holds1_c1] 3 (0, 0))] []) [(pb, .cells #[ptr db1 0] 139 (0, 0)), (pb_1, .cells #[.int .i64 holds1_c1] 3 (0, 0))] [] [] w') := by
  unfold m_tide_every_int_4 at hm
  refine g_enter (args := [slv qa0 na0 ca0, .func (.func 140) #[] #[ptr pb 0, ptr pb_1 0]]) Try.func94 rfl Try.ntmps94 rfl (e := [(0, _), (1, _)]) rfl (H := HV w (keys [(pb, .cells #[ptr db1 0] 139 (0, 0)), (pb_1, .cells #[.int .i64 holds1_c1] 3 (0, 0))] []) [(pb, .cells #[ptr db1 0] 139 (0, 0)), (pb_1, .cells #[.int .i64 holds1_c1] 3 (0, 0))] [] [(bk qa0, off qa0, RI.enc l0), (db1, 0, [slv qa2 na2 ca2, .int .i64 holds1_c0.wind.lo, .int .i64 holds1_c0.wind.hi, slv qa3 na3 ca3, slv qa4 na4 ca4, .int .i64 ((gatesOf holds1_c0).getD 0 0), .int .i64 ((gatesOf holds1_c0).getD 1 0), .int .i64 ((gatesOf holds1_c0).getD 2 0), .int .i64 ((gatesOf holds1_c0).getD 3 0), .int .i64 ((gatesOf holds1_c0).getD 4 0), .int .i64 ((gatesOf holds1_c0).getD 5 0), .int .i64 ((gatesOf holds1_c0).getD 6 0), .int .i64 ((gatesOf holds1_c0).getD 7 0)]), (bk qa2, off qa2, RW.enc holds1_c0.table), (bk qa3, off qa3, RI.enc holds1_c0.floors), (bk qa4, off qa4, RS.enc holds1_c0.sills)]) hw ?_
  refine g_seq ?_
  refine g_region ?_
  refine g_boxV rfl rfl (fun b h1 => ?_)
  refine g_val rfl rfl rfl (fun _ _ => v_assign rfl) ?_
  refine g_nil ?_
  refine g_n_then ?_
  refine g_seq ?_
  refine g_region ?_
  refine g_val rfl rfl rfl (fun _ _ => v_move rfl) ?_
  refine g_val rfl rfl rfl (fun _ _ => v_makeFunc (u := #[]) (u' := #[_]) rfl rfl) ?_
  obtain ⟨t7, h2, hm⟩ := bindO hm
  refine g_callH [_, _, _] [] rfl rfl rfl rfl rfl rfl rfl (fun a w => Try.call78 a w) (fun w hh => c_slices_ContainsFunc_intint_3 l0 holds1_c0 holds1_c1 qa0 na0 ca0 b pb db1 qa2 na2 ca2 qa3 na3 ca3 qa4 na4 ca4 pb_1 w (HV.callee (S0 := [_, _, _]) (vs0 := []) hh (roC (hh.rsep (S0 := [_, _, _]) (vs0 := []) 0 rfl) (roC (hh.rsep (S0 := [_, _, _]) (vs0 := []) 1 rfl) (roC (hh.rsep (S0 := [_, _, _]) (vs0 := []) 2 rfl) (roC (hh.rsep (S0 := [_, _, _]) (vs0 := []) 3 rfl) (roC (hh.rsep (S0 := [_, _, _]) (vs0 := []) 4 rfl) roN)))))) hna0 hqa0 hla0 hna2 hqa2 hla2 hna3 hqa3 hla3 hna4 hqa4 hla4 h2) (fun l h3 => ?_)
  refine g_sel (S' := [_, _, _]) (vs' := []) [0, 1, 2] [] 0 (by decide) (by decide) rfl rfl rfl ?_
  refine g_val rfl rfl rfl (fun _ _ => v_not rfl) ?_
  refine g_val rfl rfl rfl (fun _ _ => v_assign rfl) ?_
  refine g_nil ?_
  refine g_n_then ?_
  refine g_ret ?_
  obtain rfl := Option.some.inj hm
  refine g_done rfl (fun w hh => (.tmp rfl .nil)) (fun w hh => ⟨(), rfl, trivial, hh.sel [1, 2] [] 5 (by decide) (by decide) rfl rfl rfl⟩)
def m_tide_Longest_1_2 (minute0 : Int) (a11 : (List Int)) (a22 : Sands) : Option Bool :=
 (m_tide_every_int_4 a11 a22 minute0).bind fun t7 =>
 some t7
set_option maxRecDepth 100000 in
set_option maxHeartbeats 4000000 in
theorem c_tide_Longest_1_2 (minute0 : Int) (a11 : (List Int)) (a22 : Sands) (pb : Nat) (qa0 : Option (Nat × Nat)) (na0 ca0 : Nat) (pb_1 : Nat) (db1 : Nat) (qa2 : Option (Nat × Nat)) (na2 ca2 : Nat) (qa3 : Option (Nat × Nat)) (na3 ca3 : Nat) (qa4 : Option (Nat × Nat)) (na4 ca4 : Nat) (w : World) (hw : HV w (keys [(pb, .cells #[slv qa0 na0 ca0] 26 (0, 0)), (pb_1, .cells #[ptr db1 0] 139 (0, 0))] []) [(pb, .cells #[slv qa0 na0 ca0] 26 (0, 0)), (pb_1, .cells #[ptr db1 0] 139 (0, 0))] [] [(bk qa0, off qa0, RI.enc a11), (db1, 0, [slv qa2 na2 ca2, .int .i64 a22.wind.lo, .int .i64 a22.wind.hi, slv qa3 na3 ca3, slv qa4 na4 ca4, .int .i64 ((gatesOf a22).getD 0 0), .int .i64 ((gatesOf a22).getD 1 0), .int .i64 ((gatesOf a22).getD 2 0), .int .i64 ((gatesOf a22).getD 3 0), .int .i64 ((gatesOf a22).getD 4 0), .int .i64 ((gatesOf a22).getD 5 0), .int .i64 ((gatesOf a22).getD 6 0), .int .i64 ((gatesOf a22).getD 7 0)]), (bk qa2, off qa2, RW.enc a22.table), (bk qa3, off qa3, RI.enc a22.floors), (bk qa4, off qa4, RS.enc a22.sills)] w) (hna0 : a11.length = na0) (hqa0 : 0 < na0 → qa0 ≠ none) (hla0 : na0 ≤ ca0)  (hna2 : a22.table.length = na2) (hqa2 : 0 < na2 → qa2 ≠ none) (hla2 : na2 ≤ ca2) (hna3 : a22.floors.length = na3) (hqa3 : 0 < na3 → qa3 ≠ none) (hla3 : na3 ≤ ca3) (hna4 : a22.sills.length = na4) (hqa4 : 0 < na4 → qa4 ≠ none) (hla4 : na4 ≤ ca4) {res : Bool} (hm : m_tide_Longest_1_2 minute0 a11 a22 = some res) :
    Calls Try.prog 139 #[.int .i64 minute0, ptr pb 0, ptr pb_1 0] w (fun en w' => ∃ l : Unit, en = .returned (.bool res) ∧ (True) ∧ HV w (keys [(pb, .cells #[slv qa0 na0 ca0] 26 (0, 0)), (pb_1, .cells #[ptr db1 0] 139 (0, 0))] []) [(pb, .cells #[slv qa0 na0 ca0] 26 (0, 0)), (pb_1, .cells #[ptr db1 0] 139 (0, 0))] [] [] w') := by
  unfold m_tide_Longest_1_2 at hm
  refine g_enter (args := [.int .i64 minute0, ptr pb 0, ptr pb_1 0]) Try.func139 rfl Try.ntmps139 rfl (e := [(0, _), (1, _), (2, _)]) rfl (H := HV w (keys [(pb, .cells #[slv qa0 na0 ca0] 26 (0, 0)), (pb_1, .cells #[ptr db1 0] 139 (0, 0))] []) [(pb, .cells #[slv qa0 na0 ca0] 26 (0, 0)), (pb_1, .cells #[ptr db1 0] 139 (0, 0))] [] [(bk qa0, off qa0, RI.enc a11), (db1, 0, [slv qa2 na2 ca2, .int .i64 a22.wind.lo, .int .i64 a22.wind.hi, slv qa3 na3 ca3, slv qa4 na4 ca4, .int .i64 ((gatesOf a22).getD 0 0), .int .i64 ((gatesOf a22).getD 1 0), .int .i64 ((gatesOf a22).getD 2 0), .int .i64 ((gatesOf a22).getD 3 0), .int .i64 ((gatesOf a22).getD 4 0), .int .i64 ((gatesOf a22).getD 5 0), .int .i64 ((gatesOf a22).getD 6 0), .int .i64 ((gatesOf a22).getD 7 0)]), (bk qa2, off qa2, RW.enc a22.table), (bk qa3, off qa3, RI.enc a22.floors), (bk qa4, off qa4, RS.enc a22.sills)]) hw ?_
  refine g_seq ?_
  refine g_region ?_
  refine g_boxV rfl rfl (fun b h1 => ?_)
  refine g_val rfl rfl rfl (fun _ _ => v_assign rfl) ?_
  refine g_nil ?_
  refine g_n_then ?_
  refine g_seq ?_
  refine g_region ?_
  refine g_val rfl rfl rfl (fun w hh => v_load (Try.isAgg26 w) rfl (hh.cell 1 rfl rfl)) ?_
  refine g_val rfl rfl rfl (fun _ _ => v_makeFunc (u := #[]) (u' := #[_, _]) rfl rfl) ?_
  obtain ⟨t7, h2, hm⟩ := bindO hm
  refine g_sel (S' := [_, _, _]) (vs' := []) [2, 0, 1] [] 0 (by decide) (by decide) rfl rfl rfl ?_
  refine g_callH [_, _] [] rfl rfl rfl rfl rfl rfl rfl (fun a w => Try.call94 a w) (fun w hh => c_tide_every_int_4 a11 a22 minute0 qa0 na0 ca0 pb_1 db1 qa2 na2 ca2 qa3 na3 ca3 qa4 na4 ca4 b w (HV.callee (S0 := [_, _]) (vs0 := []) hh (roC (hh.rsep (S0 := [_, _]) (vs0 := []) 0 rfl) (roC (hh.rsep (S0 := [_, _]) (vs0 := []) 1 rfl) (roC (hh.rsep (S0 := [_, _]) (vs0 := []) 2 rfl) (roC (hh.rsep (S0 := [_, _]) (vs0 := []) 3 rfl) (roC (hh.rsep (S0 := [_, _]) (vs0 := []) 4 rfl) roN)))))) hna0 hqa0 hla0 hna2 hqa2 hla2 hna3 hqa3 hla3 hna4 hqa4 hla4 h2) (fun l h3 => ?_)
  refine g_sel (S' := [_, _, _]) (vs' := []) [0, 1, 2] [] 0 (by decide) (by decide) rfl rfl rfl ?_
  refine g_val rfl rfl rfl (fun _ _ => v_assign rfl) ?_
  refine g_nil ?_
  refine g_n_then ?_
  refine g_ret ?_
  obtain rfl := Option.some.inj hm
  refine g_done rfl (fun w hh => (.tmp rfl .nil)) (fun w hh => ⟨(), rfl, trivial, hh.sel [2, 0] [] 5 (by decide) (by decide) rfl rfl rfl⟩)
structure m_tide_desk_spans_1_3_R where
  a11 : Bool
  a22 : (List Span)
def m_tide_desk_spans_1_3 (minute0 : Int) (a11 : Bool) (a22 : (List Span)) (a33 : Int) : Option m_tide_desk_spans_1_3_R :=
 (if a11 = true then
 ((subc minute0 1).bind fun t9 =>
 (appc 16 a22 [(⟨a33, t9⟩ : Span)]).bind fun t12 =>
 some t12) else
 (some a22)).bind fun o =>
 some (⟨false, o⟩ : m_tide_desk_spans_1_3_R)
set_option maxRecDepth 100000 in
set_option maxHeartbeats 4000000 in
theorem c_tide_desk_spans_1_3 (minute0 : Int) (a11 : Bool) (a22 : (List Span)) (a33 : Int) (pb : Nat) (pb_1 : Nat) (V_a22 : VL) (pb_2 : Nat) (w : World) (hw : HV w (keys [(pb, .cells #[.bool a11] 4 (0, 0)), (pb_1, .cells #[slv V_a22.q V_a22.n V_a22.cap] 77 (0, 0)), (pb_2, .cells #[.int .i64 a33] 3 (0, 0))] [⟨25, RP.enc a22, V_a22.sp, V_a22.q⟩]) [(pb, .cells #[.bool a11] 4 (0, 0)), (pb_1, .cells #[slv V_a22.q V_a22.n V_a22.cap] 77 (0, 0)), (pb_2, .cells #[.int .i64 a33] 3 (0, 0))] [⟨25, RP.enc a22, V_a22.sp, V_a22.q⟩] [] w) (hv_a22 : VOK 2 V_a22.n V_a22.cap (RP.enc a22) V_a22.sp V_a22.q) {res : m_tide_desk_spans_1_3_R} (hm : m_tide_desk_spans_1_3 minute0 a11 a22 a33 = some res) :
    Calls Try.prog 159 #[.int .i64 minute0, ptr pb 0, ptr pb_1 0, ptr pb_2 0] w (fun en w' => ∃ l : VL, en = .returned (.tuple #[]) ∧ (VOK 2 l.n l.cap (RP.enc res.a22) l.sp l.q) ∧ HV w (keys [(pb, .cells #[.bool a11] 4 (0, 0)), (pb_1, .cells #[slv V_a22.q V_a22.n V_a22.cap] 77 (0, 0)), (pb_2, .cells #[.int .i64 a33] 3 (0, 0))] [⟨25, RP.enc a22, V_a22.sp, V_a22.q⟩]) [(pb, .cells #[.bool res.a11] 4 (0, 0)), (pb_1, .cells #[slv l.q l.n l.cap] 77 (0, 0)), (pb_2, .cells #[.int .i64 a33] 3 (0, 0))] [⟨25, RP.enc res.a22, l.sp, l.q⟩] [] w') := by
  unfold m_tide_desk_spans_1_3 at hm
  refine g_enter (args := [.int .i64 minute0, ptr pb 0, ptr pb_1 0, ptr pb_2 0]) Try.func159 rfl Try.ntmps159 rfl (e := [(0, _), (1, _), (2, _), (3, _)]) rfl (H := HV w (keys [(pb, .cells #[.bool a11] 4 (0, 0)), (pb_1, .cells #[slv V_a22.q V_a22.n V_a22.cap] 77 (0, 0)), (pb_2, .cells #[.int .i64 a33] 3 (0, 0))] [⟨25, RP.enc a22, V_a22.sp, V_a22.q⟩]) [(pb, .cells #[.bool a11] 4 (0, 0)), (pb_1, .cells #[slv V_a22.q V_a22.n V_a22.cap] 77 (0, 0)), (pb_2, .cells #[.int .i64 a33] 3 (0, 0))] [⟨25, RP.enc a22, V_a22.sp, V_a22.q⟩] []) hw ?_
  refine g_seq ?_
  obtain ⟨o, h2, h3⟩ := bindO hm
  refine g_cut (ι := VL) (fun l => VOK 2 l.n l.cap (RP.enc o) l.sp l.q) (fun l => [(1, ptr pb 0)]) (fun l => [(pb, .cells #[.bool a11] 4 (0, 0)), (pb_1, .cells #[slv l.q l.n l.cap] 77 (0, 0)), (pb_2, .cells #[.int .i64 a33] 3 (0, 0))]) (fun l => [⟨25, RP.enc o, l.sp, l.q⟩]) ?_ ?_
  ·replace hm := h2
   refine g_seq ?_
   refine g_region ?_
   refine g_val rfl rfl rfl (fun w hh => v_load (Try.isAgg4 w) rfl (hh.cell 0 rfl rfl)) ?_
   refine g_nil ?_
   refine g_n_then ?_
   refine g_cond rfl (fun h5 => ?_) (fun h5 => ?_)
   ·replace hm := ifT (h5) hm
    refine g_region ?_
    refine g_val rfl rfl rfl (fun w hh => v_load (Try.isAgg77 w) rfl (hh.cell 1 rfl rfl)) ?_
    refine g_val rfl rfl rfl (fun w hh => v_load (Try.isAgg3 w) rfl (hh.cell 2 rfl rfl)) ?_
    refine g_val rfl rfl rfl (fun _ _ => v_move rfl) ?_
    obtain ⟨t9, h6, hm⟩ := bindO hm
    refine g_val rfl rfl rfl (fun _ _ => v_subc h6 rfl rfl) ?_
    refine g_val rfl rfl rfl (fun _ _ => v_build (vs := [(0, _), (1, _)]) (cells := [_, _]) rfl rfl) ?_
    refine g_vlit RP [(⟨a33, t9⟩ : Span)] (ps := [(0, _)]) (cells := [_, _]) (fun w => Try.runUnderlying77 w) (fun w => Try.sizeOf25 w) (fun w => Try.zeroValue25 w) rfl rfl rfl rfl rfl rfl rfl rfl (fun L h7 => ?_)
    obtain ⟨t12, h8, hm⟩ := bindO hm
    refine g_vapp RP 1 h8 Try.underlying77 gxinf25 rfl rfl rfl rfl rfl hv_a22 rfl rfl (vlen RP h7 rfl) (AOK.q (vne h7)) (fun w hh => (hh.vsegA 0 rfl h7)) rfl (fun L_1 h9 h9n => ?_)
    refine g_sel (S' := [_, _, _]) (vs' := [_, _]) [0, 1, 2] [0, 1] 0 (by decide) (by decide) rfl rfl rfl ?_
    refine g_stS (cs' := #[_]) (S' := [_, _, _]) 1 (fun w => Try.sizeOf77 w) rfl rfl rfl rfl rfl rfl rfl ?_
    refine g_nil ?_
    obtain rfl := Option.some.inj hm
    exact g_leaf L_1 (h9) ((.cons rfl .nil)) (fun w hh => hh.sel [0, 1, 2] [1] 0 (by decide) (by decide) rfl rfl rfl)
   ·replace hm := ifF ((fun hh => Bool.noConfusion ((h5).symm.trans hh))) hm
    refine g_skip ?_
    obtain rfl := Option.some.inj hm
    exact g_leaf V_a22 (hv_a22) ((.cons rfl .nil)) (fun w hh => hh)
  ·intro l hj
   have h4 := hj
   replace hm := h3
   refine g_n_then ?_
   refine g_region ?_
   refine g_stS (cs' := #[_]) (S' := [_, _, _]) 0 (fun w => Try.sizeOf4 w) rfl rfl rfl rfl rfl rfl rfl ?_
   refine g_nil ?_
   obtain rfl := Option.some.inj hm
   refine g_doneN rfl (fun w hh => .nil) (fun w hh => ⟨l, rfl, h4, hh⟩)
structure m_tide_desk_spans_1_C0 where
  open9 : Bool
  from8 : Int
  out5 : (List Span)
structure m_tide_desk_spans_1_S0 where
  t41 : Int
  open9 : Bool
  from8 : Int
  out5 : (List Span)
structure m_tide_desk_spans_1_C1 where
  open9 : Bool
  from8 : Int
  out5 : (List Span)
def m_tide_desk_spans_1_L0 (t40 : Int) (t18 : Water) (w1_0_c0 : (List Int)) (w1_0_c1 : Sands) (s : m_tide_desk_spans_1_S0) : Option (m_tide_desk_spans_1_S0 ⊕ m_tide_desk_spans_1_C0) :=
 if s.t41 < t40 then
 (((addc t18.min s.t41).bind fun t48 =>
 (m_tide_Longest_1_2 t48 w1_0_c0 w1_0_c1).bind fun t49 =>
 if (!t49) = true then
 ((addc t18.min s.t41).bind fun t56 =>
 (m_tide_desk_spans_1_3 t56 s.open9 s.out5 s.from8).bind fun t57 =>
 some (⟨t57.a11, s.from8, t57.a22⟩ : m_tide_desk_spans_1_C1)) else
 (if (!s.open9) = true then
 ((addc t18.min s.t41).bind fun t63 =>
 some (⟨true, t63, s.out5⟩ : m_tide_desk_spans_1_C1)) else
 (some (⟨s.open9, s.from8, s.out5⟩ : m_tide_desk_spans_1_C1)))).bind fun o_1 =>
 (addc s.t41 1).bind fun t64 =>
 some (.inl (⟨t64, o_1.open9, o_1.from8, o_1.out5⟩ : m_tide_desk_spans_1_S0))) else
 (some (.inr (⟨s.open9, s.from8, s.out5⟩ : m_tide_desk_spans_1_C0)))
def m_tide_desk_spans_1 (d0 : Sands) (w1_0_c0 : (List Int)) (w1_0_c1 : Sands) : Option (List Span) :=
 (ix d0.table 0).bind fun t18 =>
 (subc (d0.table.length : Int) 1).bind fun t32 =>
 (ix d0.table t32).bind fun t33 =>
 (subc t33.min t18.min).bind fun t39 =>
 (addc t39 1).bind fun t40 =>
 (iterM FU (m_tide_desk_spans_1_L0 t40 t18 w1_0_c0 w1_0_c1) (⟨0, false, 0, []⟩ : m_tide_desk_spans_1_S0)).bind fun o =>
 (addc t33.min 1).bind fun t67 =>
 (m_tide_desk_spans_1_3 t67 o.open9 o.out5 o.from8).bind fun t68 =>
 some t68.a22
set_option maxRecDepth 100000 in
set_option maxHeartbeats 4000000 in
theorem c_tide_desk_spans_1 (d0 : Sands) (w1_0_c0 : (List Int)) (w1_0_c1 : Sands) (db0 : Nat) (qa1 : Option (Nat × Nat)) (na1 ca1 : Nat) (qa2 : Option (Nat × Nat)) (na2 ca2 : Nat) (qa3 : Option (Nat × Nat)) (na3 ca3 : Nat) (pb : Nat) (qa4 : Option (Nat × Nat)) (na4 ca4 : Nat) (pb_1 : Nat) (db5 : Nat) (qa6 : Option (Nat × Nat)) (na6 ca6 : Nat) (qa7 : Option (Nat × Nat)) (na7 ca7 : Nat) (qa8 : Option (Nat × Nat)) (na8 ca8 : Nat) (w : World) (hw : HV w (keys [(pb, .cells #[slv qa4 na4 ca4] 26 (0, 0)), (pb_1, .cells #[ptr db5 0] 139 (0, 0))] []) [(pb, .cells #[slv qa4 na4 ca4] 26 (0, 0)), (pb_1, .cells #[ptr db5 0] 139 (0, 0))] [] [(db0, 0, [slv qa1 na1 ca1, .int .i64 d0.wind.lo, .int .i64 d0.wind.hi, slv qa2 na2 ca2, slv qa3 na3 ca3, .int .i64 ((gatesOf d0).getD 0 0), .int .i64 ((gatesOf d0).getD 1 0), .int .i64 ((gatesOf d0).getD 2 0), .int .i64 ((gatesOf d0).getD 3 0), .int .i64 ((gatesOf d0).getD 4 0), .int .i64 ((gatesOf d0).getD 5 0), .int .i64 ((gatesOf d0).getD 6 0), .int .i64 ((gatesOf d0).getD 7 0)]), (bk qa1, off qa1, RW.enc d0.table), (bk qa2, off qa2, RI.enc d0.floors), (bk qa3, off qa3, RS.enc d0.sills), (bk qa4, off qa4, RI.enc w1_0_c0), (db5, 0, [slv qa6 na6 ca6, .int .i64 w1_0_c1.wind.lo, .int .i64 w1_0_c1.wind.hi, slv qa7 na7 ca7, slv qa8 na8 ca8, .int .i64 ((gatesOf w1_0_c1).getD 0 0), .int .i64 ((gatesOf w1_0_c1).getD 1 0), .int .i64 ((gatesOf w1_0_c1).getD 2 0), .int .i64 ((gatesOf w1_0_c1).getD 3 0), .int .i64 ((gatesOf w1_0_c1).getD 4 0), .int .i64 ((gatesOf w1_0_c1).getD 5 0), .int .i64 ((gatesOf w1_0_c1).getD 6 0), .int .i64 ((gatesOf w1_0_c1).getD 7 0)]), (bk qa6, off qa6, RW.enc w1_0_c1.table), (bk qa7, off qa7, RI.enc w1_0_c1.floors), (bk qa8, off qa8, RS.enc w1_0_c1.sills)] w)  (hna1 : d0.table.length = na1) (hqa1 : 0 < na1 → qa1 ≠ none) (hla1 : na1 ≤ ca1) (hna2 : d0.floors.length = na2) (hqa2 : 0 < na2 → qa2 ≠ none) (hla2 : na2 ≤ ca2) (hna3 : d0.sills.length = na3) (hqa3 : 0 < na3 → qa3 ≠ none) (hla3 : na3 ≤ ca3) (hna4 : w1_0_c0.length = na4) (hqa4 : 0 < na4 → qa4 ≠ none) (hla4 : na4 ≤ ca4)  (hna6 : w1_0_c1.table.length = na6) (hqa6 : 0 < na6 → qa6 ≠ none) (hla6 : na6 ≤ ca6) (hna7 : w1_0_c1.floors.length = na7) (hqa7 : 0 < na7 → qa7 ≠ none) (hla7 : na7 ≤ ca7) (hna8 : w1_0_c1.sills.length = na8) (hqa8 : 0 < na8 → qa8 ≠ none) (hla8 : na8 ≤ ca8) {res : (List Span)} (hm : m_tide_desk_spans_1 d0 w1_0_c0 w1_0_c1 = some res) :
    Calls Try.prog 118 #[ptr db0 0, .agg #[.func (.func 139) #[] #[ptr pb 0, ptr pb_1 0]]] w (fun en w' => ∃ l : VL, en = .returned (slv l.q l.n l.cap) ∧ (VOK 2 l.n l.cap (RP.enc res) l.sp l.q) ∧ HV w (keys [(pb, .cells #[slv qa4 na4 ca4] 26 (0, 0)), (pb_1, .cells #[ptr db5 0] 139 (0, 0))] []) [(pb, .cells #[slv qa4 na4 ca4] 26 (0, 0)), (pb_1, .cells #[ptr db5 0] 139 (0, 0))] [⟨25, RP.enc res, l.sp, l.q⟩] [] w') := by
  unfold m_tide_desk_spans_1 at hm
  refine g_enter (args := [ptr db0 0, .agg #[.func (.func 139) #[] #[ptr pb 0, ptr pb_1 0]]]) Try.func118 rfl Try.ntmps118 rfl (e := [(0, _), (1, _)]) rfl (H := HV w (keys [(pb, .cells #[slv qa4 na4 ca4] 26 (0, 0)), (pb_1, .cells #[ptr db5 0] 139 (0, 0))] []) [(pb, .cells #[slv qa4 na4 ca4] 26 (0, 0)), (pb_1, .cells #[ptr db5 0] 139 (0, 0))] [] [(db0, 0, [slv qa1 na1 ca1, .int .i64 d0.wind.lo, .int .i64 d0.wind.hi, slv qa2 na2 ca2, slv qa3 na3 ca3, .int .i64 ((gatesOf d0).getD 0 0), .int .i64 ((gatesOf d0).getD 1 0), .int .i64 ((gatesOf d0).getD 2 0), .int .i64 ((gatesOf d0).getD 3 0), .int .i64 ((gatesOf d0).getD 4 0), .int .i64 ((gatesOf d0).getD 5 0), .int .i64 ((gatesOf d0).getD 6 0), .int .i64 ((gatesOf d0).getD 7 0)]), (bk qa1, off qa1, RW.enc d0.table), (bk qa2, off qa2, RI.enc d0.floors), (bk qa3, off qa3, RS.enc d0.sills), (bk qa4, off qa4, RI.enc w1_0_c0), (db5, 0, [slv qa6 na6 ca6, .int .i64 w1_0_c1.wind.lo, .int .i64 w1_0_c1.wind.hi, slv qa7 na7 ca7, slv qa8 na8 ca8, .int .i64 ((gatesOf w1_0_c1).getD 0 0), .int .i64 ((gatesOf w1_0_c1).getD 1 0), .int .i64 ((gatesOf w1_0_c1).getD 2 0), .int .i64 ((gatesOf w1_0_c1).getD 3 0), .int .i64 ((gatesOf w1_0_c1).getD 4 0), .int .i64 ((gatesOf w1_0_c1).getD 5 0), .int .i64 ((gatesOf w1_0_c1).getD 6 0), .int .i64 ((gatesOf w1_0_c1).getD 7 0)]), (bk qa6, off qa6, RW.enc w1_0_c1.table), (bk qa7, off qa7, RI.enc w1_0_c1.floors), (bk qa8, off qa8, RS.enc w1_0_c1.sills)]) hw ?_
  refine g_seq ?_
  refine g_region ?_
  refine g_boxV rfl rfl (fun b h2 => ?_)
  refine g_val rfl rfl rfl (fun _ _ => v_nilS rfl) ?_
  refine g_nil ?_
  refine g_n_then ?_
  refine g_seq ?_
  refine g_region ?_
  refine g_allocV (fun w => Try.zeroValue77 w) rfl (fun b_1 h3 => ?_)
  refine g_nil ?_
  refine g_n_then ?_
  refine g_seq ?_
  refine g_draw none (.free 0 (.free 1 (.free 2 (.free 3 (.hoist 4 (.free 5 (.free 6 (.hoist 7 (.free 8 (.free 9 (.free 10 (.free 11 (.hoist 12 (.free 13 (.free 14 (.free 15 (.free 16 (.hoist 17 (.free 18 (.free 19 (.free 20 (.free 21 (.hoist 22 (.free 23 (.free 24 .done))))))))))))))))))))))))) _ rfl (by decide +kernel) (fun w k hh => hh.draw k) (fun w hh => hh) ?_
  refine p_free rfl rfl rfl rfl (fun _ _ => v_move rfl) ?_
  refine p_free rfl rfl rfl rfl (fun _ _ => v_nilCheck rfl) ?_
  refine p_free rfl rfl rfl rfl (fun w _ => v_fieldAddr 0 (Try.runUnderlying157 w) rfl (Try.sizeOf29 w) rfl) ?_
  refine p_free rfl rfl rfl rfl (fun w _ => v_fieldAddr 0 (Try.runUnderlying29 w) rfl (Try.sizeOf23 w) rfl) ?_
  refine p_hoist rfl rfl rfl rfl (fun w hh => v_load (Try.isAgg23 w) rfl (segCell (hh.seg 0 rfl) 0 rfl)) ?_
  obtain ⟨t18, h4, hm⟩ := bindO hm
  refine p_free rfl rfl rfl rfl (fun w _ => v_ixA h4 (Try.runUnderlying23 w) (Try.sizeOf68 w) rfl rfl hna1 hqa1) ?_
  refine p_free rfl rfl rfl rfl (fun w _ => v_fieldAddr 0 (Try.runUnderlying68 w) rfl (Try.sizeOf3 w) rfl) ?_
  refine p_hoist rfl rfl rfl rfl (fun w hh => v_ldE RW 0 h4 (Try.isAgg3 w) rfl (hh.seg 1 rfl) rfl rfl) ?_
  refine p_free rfl rfl rfl rfl (fun _ _ => v_move rfl) ?_
  refine p_free rfl rfl rfl rfl (fun _ _ => v_nilCheck rfl) ?_
  refine p_free rfl rfl rfl rfl (fun w _ => v_fieldAddr 0 (Try.runUnderlying157 w) rfl (Try.sizeOf29 w) rfl) ?_
  refine p_free rfl rfl rfl rfl (fun w _ => v_fieldAddr 0 (Try.runUnderlying29 w) rfl (Try.sizeOf23 w) rfl) ?_
  refine p_hoist rfl rfl rfl rfl (fun w hh => v_load (Try.isAgg23 w) rfl (segCell (hh.seg 0 rfl) 0 rfl)) ?_
  refine p_free rfl rfl rfl rfl (fun _ _ => v_move rfl) ?_
  refine p_free rfl rfl rfl rfl (fun _ _ => v_nilCheck rfl) ?_
  refine p_free rfl rfl rfl rfl (fun w _ => v_fieldAddr 0 (Try.runUnderlying157 w) rfl (Try.sizeOf29 w) rfl) ?_
  refine p_free rfl rfl rfl rfl (fun w _ => v_fieldAddr 0 (Try.runUnderlying29 w) rfl (Try.sizeOf23 w) rfl) ?_
  refine p_hoist rfl rfl rfl rfl (fun w hh => v_load (Try.isAgg23 w) rfl (segCell (hh.seg 0 rfl) 0 rfl)) ?_
  refine p_free rfl rfl rfl rfl (fun w _ => v_lenN hna1 (Try.runUnderlying23 w) rfl) ?_
  obtain ⟨t32, h5, hm⟩ := bindO hm
  refine p_free rfl rfl rfl rfl (fun _ _ => v_subc h5 rfl rfl) ?_
  obtain ⟨t33, h6, hm⟩ := bindO hm
  refine p_free rfl rfl rfl rfl (fun w _ => v_ixA h6 (Try.runUnderlying23 w) (Try.sizeOf68 w) rfl rfl hna1 hqa1) ?_
  refine p_free rfl rfl rfl rfl (fun w _ => v_fieldAddr 0 (Try.runUnderlying68 w) rfl (Try.sizeOf3 w) rfl) ?_
  refine p_hoist rfl rfl rfl rfl (fun w hh => v_ldE RW 0 h6 (Try.isAgg3 w) rfl (hh.seg 1 rfl) rfl rfl) ?_
  refine p_free rfl rfl rfl rfl (fun _ _ => v_assign rfl) ?_
  refine p_free rfl rfl rfl rfl (fun _ _ => v_assign rfl) ?_
  refine p_done ?_
  refine g_n_then ?_
  refine g_seq ?_
  refine g_region ?_
  refine g_allocV (fun w => Try.zeroValue3 w) rfl (fun b_2 h7 => ?_)
  refine g_allocV (fun w => Try.zeroValue4 w) rfl (fun b_3 h8 => ?_)
  refine g_stS (cs' := #[_]) (S' := [_, _, _, _, _, _]) 1 (fun w => Try.sizeOf3 w) rfl rfl rfl rfl rfl rfl rfl ?_
  refine g_stS (cs' := #[_]) (S' := [_, _, _, _, _, _]) 0 (fun w => Try.sizeOf4 w) rfl rfl rfl rfl rfl rfl rfl ?_
  refine g_nil ?_
  refine g_n_then ?_
  refine g_seq ?_
  refine g_region ?_
  refine g_val rfl rfl rfl (fun _ _ => v_makeFunc (u := #[]) (u' := #[_, _, _]) rfl rfl) ?_
  refine g_val rfl rfl rfl (fun _ _ => v_assign rfl) ?_
  refine g_nil ?_
  refine g_n_then ?_
  refine g_seq ?_
  refine g_seq ?_
  refine g_region ?_
  refine g_val rfl rfl rfl (fun _ _ => v_move rfl) ?_
  refine g_val rfl rfl rfl (fun _ _ => v_move rfl) ?_
  obtain ⟨t39, h9, hm⟩ := bindO hm
  refine g_val rfl rfl rfl (fun _ _ => v_subc h9 rfl rfl) ?_
  obtain ⟨t40, h10, hm⟩ := bindO hm
  refine g_val rfl rfl rfl (fun _ _ => v_addc h10 rfl rfl) ?_
  refine g_val rfl rfl rfl (fun _ _ => v_move rfl) ?_
  refine g_nil ?_
  refine g_n_then ?_
  refine g_vnil 25 ?_
  obtain ⟨o, h11, h12⟩ := bindO hm
  refine g_cut (ι := VL) (fun l => VOK 2 l.n l.cap (RP.enc o.out5) l.sp l.q) (fun l => [(5, ptr b_1 0), (7, .int .i64 t33.min), (10, .func (.func 159) #[] #[ptr b_3 0, ptr b_1 0, ptr b_2 0])]) (fun l => [(b_3, .cells #[.bool o.open9] 4 (0, 0)), (b_2, .cells #[.int .i64 o.from8] 3 (0, 0)), (b_1, .cells #[slv l.q l.n l.cap] 77 (0, 0)), (b, .cells #[.func (.func 139) #[] #[ptr pb 0, ptr pb_1 0]] 168 (0, 0)), (pb, .cells #[slv qa4 na4 ca4] 26 (0, 0)), (pb_1, .cells #[ptr db5 0] 139 (0, 0))]) (fun l => [⟨25, RP.enc o.out5, l.sp, l.q⟩]) ?_ ?_
  ·replace hm := h11
   refine g_block ?_
   refine g_loopF (ι := VL) hm (fun s l_1 => VOK 2 l_1.n l_1.cap (RP.enc s.out5) l_1.sp l_1.q) (fun s l_1 => [(3, ptr b 0), (5, ptr b_1 0), (6, .int .i64 t18.min), (7, .int .i64 t33.min), (8, ptr b_2 0), (9, ptr b_3 0), (10, .func (.func 159) #[] #[ptr b_3 0, ptr b_1 0, ptr b_2 0]), (40, .int .i64 t40), (41, .int .i64 s.t41)]) (fun s l_1 => [(b_3, .cells #[.bool s.open9] 4 (0, 0)), (b_2, .cells #[.int .i64 s.from8] 3 (0, 0)), (b_1, .cells #[slv l_1.q l_1.n l_1.cap] 77 (0, 0)), (b, .cells #[.func (.func 139) #[] #[ptr pb 0, ptr pb_1 0]] 168 (0, 0)), (pb, .cells #[slv qa4 na4 ca4] 26 (0, 0)), (pb_1, .cells #[ptr db5 0] 139 (0, 0))]) (fun s l_1 => [⟨25, RP.enc s.out5, l_1.sp, l_1.q⟩]) ⟨none, 0, 0, []⟩ (VOK.nil) ((.cons rfl (.cons rfl (.cons rfl (.cons rfl (.cons rfl (.cons rfl (.cons rfl (.cons rfl (.cons rfl .nil)))))))))) (fun w hh => hh) (fun s l_1 r hpl hm h15 => ?_)
   have h14 := hpl
   unfold m_tide_desk_spans_1_L0 at hm
   refine g_seq ?_
   refine g_region ?_
   refine g_val rfl rfl rfl (fun _ _ => v_lss rfl rfl) ?_
   refine g_nil ?_
   refine g_n_then ?_
   refine g_seq ?_
   refine g_cond rfl (fun h16 => ?_) (fun h16 => ?_)
   ·replace hm := ifT (of_decide_eq_true h16) hm
    refine g_skip ?_
    refine g_n_then ?_
    refine g_seq ?_
    obtain ⟨o_1, h17, h18⟩ := bindO hm
    refine g_cut (ι := VL) (fun l_2 => VOK 2 l_2.n l_2.cap (RP.enc o_1.out5) l_2.sp l_2.q) (fun l_2 => [(3, ptr b 0), (5, ptr b_1 0), (6, .int .i64 t18.min), (7, .int .i64 t33.min), (8, ptr b_2 0), (9, ptr b_3 0), (10, .func (.func 159) #[] #[ptr b_3 0, ptr b_1 0, ptr b_2 0]), (40, .int .i64 t40), (41, .int .i64 s.t41)]) (fun l_2 => [(b_3, .cells #[.bool o_1.open9] 4 (0, 0)), (b_2, .cells #[.int .i64 o_1.from8] 3 (0, 0)), (b_1, .cells #[slv l_2.q l_2.n l_2.cap] 77 (0, 0)), (b, .cells #[.func (.func 139) #[] #[ptr pb 0, ptr pb_1 0]] 168 (0, 0)), (pb, .cells #[slv qa4 na4 ca4] 26 (0, 0)), (pb_1, .cells #[ptr db5 0] 139 (0, 0))]) (fun l_2 => [⟨25, RP.enc o_1.out5, l_2.sp, l_2.q⟩]) ?_ ?_
    ·replace hm := h17
     refine g_block ?_
     refine g_seq ?_
     refine g_region ?_
     refine g_val rfl rfl rfl (fun _ _ => v_move rfl) ?_
     refine g_val rfl rfl rfl (fun _ _ => v_assign rfl) ?_
     refine g_nil ?_
     refine g_n_then ?_
     refine g_seq ?_
     refine g_region ?_
     refine g_val rfl rfl rfl (fun w _ => v_fieldAddr 0 (Try.runUnderlying168 w) rfl (Try.sizeOf129 w) rfl) ?_
     refine g_val rfl rfl rfl (fun w hh => v_load (Try.isAgg129 w) rfl (hh.cell 3 rfl rfl)) ?_
     refine g_val rfl rfl rfl (fun _ _ => v_move rfl) ?_
     refine g_val rfl rfl rfl (fun _ _ => v_move rfl) ?_
     obtain ⟨t48, h20, hm⟩ := bindO hm
     refine g_val rfl rfl rfl (fun _ _ => v_addc h20 rfl rfl) ?_
     obtain ⟨t49, h21, hm⟩ := bindO hm
     refine g_sel (S' := [_, _, _, _, _, _]) (vs' := [_]) [4, 5, 0, 1, 2, 3] [0] 0 (by decide) (by decide) rfl rfl rfl ?_
     refine g_callH [_, _] [] rfl rfl rfl rfl rfl rfl rfl (fun a w => Try.call139 a w) (fun w hh => c_tide_Longest_1_2 t48 w1_0_c0 w1_0_c1 pb qa4 na4 ca4 pb_1 db5 qa6 na6 ca6 qa7 na7 ca7 qa8 na8 ca8 w (HV.callee (S0 := [_, _]) (vs0 := []) hh (roC (hh.rsep (S0 := [_, _]) (vs0 := []) 4 rfl) (roC (hh.rsep (S0 := [_, _]) (vs0 := []) 5 rfl) (roC (hh.rsep (S0 := [_, _]) (vs0 := []) 6 rfl) (roC (hh.rsep (S0 := [_, _]) (vs0 := []) 7 rfl) (roC (hh.rsep (S0 := [_, _]) (vs0 := []) 8 rfl) roN)))))) hna4 hqa4 hla4 hna6 hqa6 hla6 hna7 hqa7 hla7 hna8 hqa8 hla8 h21) (fun l_3 h22 => ?_)
     refine g_sel (S' := [_, _, _, _, _, _]) (vs' := [_]) [0, 1, 2, 3, 4, 5] [0] 0 (by decide) (by decide) rfl rfl rfl ?_
     refine g_val rfl rfl rfl (fun _ _ => v_assign rfl) ?_
     refine g_nil ?_
     refine g_n_then ?_
     refine g_block ?_
     refine g_seq ?_
     refine g_region ?_
     refine g_val rfl rfl rfl (fun _ _ => v_move rfl) ?_
     refine g_val rfl rfl rfl (fun _ _ => v_not rfl) ?_
     refine g_val rfl rfl rfl (fun _ _ => v_assign rfl) ?_
     refine g_nil ?_
     refine g_n_then ?_
     refine g_cond rfl (fun h23 => ?_) (fun h23 => ?_)
     ·replace hm := ifT (h23) hm
      refine g_region ?_
      refine g_val rfl rfl rfl (fun _ _ => v_move rfl) ?_
      refine g_val rfl rfl rfl (fun _ _ => v_move rfl) ?_
      refine g_val rfl rfl rfl (fun _ _ => v_move rfl) ?_
      obtain ⟨t56, h24, hm⟩ := bindO hm
      refine g_val rfl rfl rfl (fun _ _ => v_addc h24 rfl rfl) ?_
      obtain ⟨t57, h25, hm⟩ := bindO hm
      refine g_sel (S' := [_, _, _, _, _, _]) (vs' := [_]) [2, 4, 3, 0, 1, 5] [0] 0 (by decide) (by decide) rfl rfl rfl ?_
      refine g_callH [_, _, _] [_] rfl rfl rfl rfl rfl rfl rfl (fun a w => Try.call159 a w) (fun w hh => c_tide_desk_spans_1_3 t56 s.open9 s.out5 s.from8 b_3 b_1 ⟨l_1.q, l_1.n, l_1.cap, l_1.sp⟩ b_2 w (HV.callee (S0 := [_, _, _]) (vs0 := [_]) hh roN) h14 h25) (fun l_4 h26 => ?_)
      have h27 := h26
      refine g_sel (S' := [_, _, _, _, _, _]) (vs' := [_]) [0, 1, 2, 3, 4, 5] [0] 0 (by decide) (by decide) rfl rfl rfl ?_
      refine g_nil ?_
      refine g_n_blk ?_
      refine g_n_blk ?_
      obtain rfl := Option.some.inj hm
      exact g_leaf l_4 (h27) ((.cons rfl (.cons rfl (.cons rfl (.cons rfl (.cons rfl (.cons rfl (.cons rfl (.cons rfl (.cons rfl .nil)))))))))) (fun w hh => hh.sel [0, 2, 1, 5, 3, 4] [0] 0 (by decide) (by decide) rfl rfl rfl)
     ·replace hm := ifF ((fun hh => Bool.noConfusion ((h23).symm.trans hh))) hm
      refine g_seq ?_
      refine g_region ?_
      refine g_val rfl rfl rfl (fun w hh => v_load (Try.isAgg4 w) rfl (hh.cell 2 rfl rfl)) ?_
      refine g_val rfl rfl rfl (fun _ _ => v_not rfl) ?_
      refine g_val rfl rfl rfl (fun _ _ => v_assign rfl) ?_
      refine g_nil ?_
      refine g_n_then ?_
      refine g_cond rfl (fun h28 => ?_) (fun h28 => ?_)
      ·replace hm := ifT (h28) hm
       refine g_region ?_
       refine g_val rfl rfl rfl (fun _ _ => v_move rfl) ?_
       refine g_val rfl rfl rfl (fun _ _ => v_move rfl) ?_
       obtain ⟨t63, h29, hm⟩ := bindO hm
       refine g_val rfl rfl rfl (fun _ _ => v_addc h29 rfl rfl) ?_
       refine g_stS (cs' := #[_]) (S' := [_, _, _, _, _, _]) 3 (fun w => Try.sizeOf3 w) rfl rfl rfl rfl rfl rfl rfl ?_
       refine g_stS (cs' := #[_]) (S' := [_, _, _, _, _, _]) 2 (fun w => Try.sizeOf4 w) rfl rfl rfl rfl rfl rfl rfl ?_
       refine g_nil ?_
       refine g_n_blk ?_
       refine g_n_blk ?_
       obtain rfl := Option.some.inj hm
       exact g_leaf l_1 (h14) ((.cons rfl (.cons rfl (.cons rfl (.cons rfl (.cons rfl (.cons rfl (.cons rfl (.cons rfl (.cons rfl .nil)))))))))) (fun w hh => hh.sel [2, 3, 4, 5, 0, 1] [0] 0 (by decide) (by decide) rfl rfl rfl)
      ·replace hm := ifF ((fun hh => Bool.noConfusion ((h28).symm.trans hh))) hm
       refine g_skip ?_
       refine g_n_blk ?_
       refine g_n_blk ?_
       obtain rfl := Option.some.inj hm
       exact g_leaf l_1 (h14) ((.cons rfl (.cons rfl (.cons rfl (.cons rfl (.cons rfl (.cons rfl (.cons rfl (.cons rfl (.cons rfl .nil)))))))))) (fun w hh => hh.sel [2, 3, 4, 5, 0, 1] [0] 0 (by decide) (by decide) rfl rfl rfl)
    ·intro l_2 hj
     have h19 := hj
     replace hm := h18
     refine g_n_then ?_
     refine g_region ?_
     obtain ⟨t64, h30, hm⟩ := bindO hm
     refine g_val rfl rfl rfl (fun _ _ => v_addc h30 rfl rfl) ?_
     refine g_val rfl rfl rfl (fun _ _ => v_move rfl) ?_
     refine g_nil ?_
     obtain rfl := Option.some.inj hm
     refine g_n_then ?_
     exact g_again' _ l_2 rfl (h19) ((.cons rfl (.cons rfl (.cons rfl (.cons rfl (.cons rfl (.cons rfl (.cons rfl (.cons rfl (.cons rfl .nil)))))))))) (fun w hh => hh)
   ·replace hm := ifF (of_decide_eq_false h16) hm
    refine g_exit ?_
    refine g_x_then ?_
    refine g_x_then ?_
    refine g_x_blk ?_
    obtain rfl := Option.some.inj hm
    have hbo := h15 _ rfl
    subst hbo
    exact g_leaf l_1 (h14) ((.cons rfl (.cons rfl (.cons rfl .nil)))) (fun w hh => hh)
  ·intro l hj
   have h13 := hj
   replace hm := h12
   refine g_n_then ?_
   refine g_seq ?_
   refine g_region ?_
   refine g_val rfl rfl rfl (fun _ _ => v_move rfl) ?_
   refine g_val rfl rfl rfl (fun _ _ => v_move rfl) ?_
   obtain ⟨t67, h31, hm⟩ := bindO hm
   refine g_val rfl rfl rfl (fun _ _ => v_addc h31 rfl rfl) ?_
   obtain ⟨t68, h32, hm⟩ := bindO hm
   refine g_sel (S' := [_, _, _, _, _, _]) (vs' := [_]) [0, 2, 1, 3, 4, 5] [0] 0 (by decide) (by decide) rfl rfl rfl ?_
   refine g_callH [_, _, _] [_] rfl rfl rfl rfl rfl rfl rfl (fun a w => Try.call159 a w) (fun w hh => c_tide_desk_spans_1_3 t67 o.open9 o.out5 o.from8 b_3 b_1 ⟨l.q, l.n, l.cap, l.sp⟩ b_2 w (HV.callee (S0 := [_, _, _]) (vs0 := [_]) hh roN) h13 h32) (fun l_5 h33 => ?_)
   have h34 := h33
   refine g_sel (S' := [_, _, _, _, _, _]) (vs' := [_]) [0, 1, 2, 3, 4, 5] [0] 0 (by decide) (by decide) rfl rfl rfl ?_
   refine g_nil ?_
   refine g_n_then ?_
   refine g_seq ?_
   refine g_region ?_
   refine g_val rfl rfl rfl (fun w hh => v_load (Try.isAgg77 w) rfl (hh.cell 1 rfl rfl)) ?_
   refine g_val rfl rfl rfl (fun _ _ => v_assign rfl) ?_
   refine g_nil ?_
   refine g_n_then ?_
   refine g_ret ?_
   obtain rfl := Option.some.inj hm
   refine g_done rfl (fun w hh => (.tmp rfl .nil)) (fun w hh => ⟨l_5, rfl, h34, hh.sel [4, 5] [0] 9 (by decide) (by decide) rfl rfl rfl⟩)
def m_tide_Longest_2 (a0 : Span) (b1 : Span) : Option Int :=
 (subc a0.hi a0.lo).bind fun t9 =>
 (subc t9 b1.hi).bind fun t12 =>
 (addc t12 b1.lo).bind fun t15 =>
 some t15
set_option maxRecDepth 100000 in
set_option maxHeartbeats 4000000 in
theorem c_tide_Longest_2 (a0 : Span) (b1 : Span)  (w : World) (hw : HV w (keys [] []) [] [] [] w)  {res : Int} (hm : m_tide_Longest_2 a0 b1 = some res) :
    Calls Try.prog 142 #[.agg #[.int .i64 a0.lo, .int .i64 a0.hi], .agg #[.int .i64 b1.lo, .int .i64 b1.hi]] w (fun en w' => ∃ l : Unit, en = .returned (.int .i64 res) ∧ (True) ∧ HV w (keys [] []) [] [] [] w') := by
  unfold m_tide_Longest_2 at hm
  refine g_enter (args := [.agg #[.int .i64 a0.lo, .int .i64 a0.hi], .agg #[.int .i64 b1.lo, .int .i64 b1.hi]]) Try.func142 rfl Try.ntmps142 rfl (e := [(0, _), (1, _)]) rfl (H := HV w (keys [] []) [] [] []) hw ?_
  refine g_seq ?_
  refine g_region ?_
  refine g_boxV rfl rfl (fun b h1 => ?_)
  refine g_boxV rfl rfl (fun b_1 h2 => ?_)
  refine g_val rfl rfl rfl (fun _ _ => v_assign rfl) ?_
  refine g_nil ?_
  refine g_n_then ?_
  refine g_seq ?_
  refine g_region ?_
  refine g_val rfl rfl rfl (fun w _ => v_fieldAddr 1 (Try.runUnderlying25 w) rfl (Try.sizeOf3 w) rfl) ?_
  refine g_val rfl rfl rfl (fun w hh => v_load (Try.isAgg3 w) rfl (hh.cell 1 rfl rfl)) ?_
  refine g_val rfl rfl rfl (fun w _ => v_fieldAddr 0 (Try.runUnderlying25 w) rfl (Try.sizeOf3 w) rfl) ?_
  refine g_val rfl rfl rfl (fun w hh => v_load (Try.isAgg3 w) rfl (hh.cell 1 rfl rfl)) ?_
  obtain ⟨t9, h3, hm⟩ := bindO hm
  refine g_val rfl rfl rfl (fun _ _ => v_subc h3 rfl rfl) ?_
  refine g_val rfl rfl rfl (fun w _ => v_fieldAddr 1 (Try.runUnderlying25 w) rfl (Try.sizeOf3 w) rfl) ?_
  refine g_val rfl rfl rfl (fun w hh => v_load (Try.isAgg3 w) rfl (hh.cell 0 rfl rfl)) ?_
  obtain ⟨t12, h4, hm⟩ := bindO hm
  refine g_val rfl rfl rfl (fun _ _ => v_subc h4 rfl rfl) ?_
  refine g_val rfl rfl rfl (fun w _ => v_fieldAddr 0 (Try.runUnderlying25 w) rfl (Try.sizeOf3 w) rfl) ?_
  refine g_val rfl rfl rfl (fun w hh => v_load (Try.isAgg3 w) rfl (hh.cell 0 rfl rfl)) ?_
  obtain ⟨t15, h5, hm⟩ := bindO hm
  refine g_val rfl rfl rfl (fun _ _ => v_addc h5 rfl rfl) ?_
  refine g_val rfl rfl rfl (fun _ _ => v_assign rfl) ?_
  refine g_nil ?_
  refine g_n_then ?_
  refine g_ret ?_
  obtain rfl := Option.some.inj hm
  refine g_done rfl (fun w hh => (.tmp rfl .nil)) (fun w hh => ⟨(), rfl, trivial, hh.sel [] [] 0 (by decide) (by decide) rfl rfl rfl⟩)
structure m_slices_MaxFunc_apiSpanapiSpan_C0 where
  m5_lo : Int
  m5_hi : Int
structure m_slices_MaxFunc_apiSpanapiSpan_S0 where
  i6 : Int
  m5_lo : Int
  m5_hi : Int
structure m_slices_MaxFunc_apiSpanapiSpan_C1 where
  m5_lo : Int
  m5_hi : Int
def m_slices_MaxFunc_apiSpanapiSpan_L0 (x0 : (List Span)) (s : m_slices_MaxFunc_apiSpanapiSpan_S0) : Option (m_slices_MaxFunc_apiSpanapiSpan_S0 ⊕ m_slices_MaxFunc_apiSpanapiSpan_C0) :=
 if s.i6 < (x0.length : Int) then
 (((ix x0 s.i6).bind fun t23 =>
 (m_tide_Longest_2 (⟨t23.lo, t23.hi⟩ : Span) (⟨s.m5_lo, s.m5_hi⟩ : Span)).bind fun t26 =>
 if 0 < t26 then
 ((ix x0 s.i6).bind fun t30 =>
 some (⟨t30.lo, t30.hi⟩ : m_slices_MaxFunc_apiSpanapiSpan_C1)) else
 (some (⟨s.m5_lo, s.m5_hi⟩ : m_slices_MaxFunc_apiSpanapiSpan_C1))).bind fun o_1 =>
 (addc s.i6 1).bind fun t19 =>
 some (.inl (⟨t19, o_1.m5_lo, o_1.m5_hi⟩ : m_slices_MaxFunc_apiSpanapiSpan_S0))) else
 (some (.inr (⟨s.m5_lo, s.m5_hi⟩ : m_slices_MaxFunc_apiSpanapiSpan_C0)))
def m_slices_MaxFunc_apiSpanapiSpan (x0 : (List Span)) : Option Span :=
 if (x0.length : Int) < 1 then
 (none) else
 ((ix x0 0).bind fun t12 =>
 (iterM FU (m_slices_MaxFunc_apiSpanapiSpan_L0 x0) (⟨1, t12.lo, t12.hi⟩ : m_slices_MaxFunc_apiSpanapiSpan_S0)).bind fun o =>
 some (⟨o.m5_lo, o.m5_hi⟩ : Span))
set_option maxRecDepth 100000 in
set_option maxHeartbeats 4000000 in
theorem c_slices_MaxFunc_apiSpanapiSpan (x0 : (List Span)) (qa0 : Option Addr) (na0 ca0 : Nat) (w : World) (hw : HV w (keys [] []) [] [] [(aB qa0, aO qa0, RP.enc x0)] w) (hna0 : x0.length = na0) (hqa0 : AOK na0 qa0) (hla0 : na0 ≤ ca0) {res : Span} (hm : m_slices_MaxFunc_apiSpanapiSpan x0 = some res) :
    Calls Try.prog 141 #[.slice qa0 na0 ca0, .func (.func 142) #[] #[]] w (fun en w' => ∃ l : Unit, en = .returned (.agg #[.int .i64 res.lo, .int .i64 res.hi]) ∧ (True) ∧ HV w (keys [] []) [] [] [] w') := by
  unfold m_slices_MaxFunc_apiSpanapiSpan at hm
  refine g_enter (args := [.slice qa0 na0 ca0, .func (.func 142) #[] #[]]) Try.func141 rfl Try.ntmps141 rfl (e := [(0, _), (1, _)]) rfl (H := HV w (keys [] []) [] [] [(aB qa0, aO qa0, RP.enc x0)]) hw ?_
  refine g_seq ?_
  refine g_region ?_
  refine g_allocV (fun w => Try.zeroValue25 w) rfl (fun b h1 => ?_)
  refine g_nil ?_
  refine g_n_then ?_
  refine g_seq ?_
  refine g_seq ?_
  refine g_region ?_
  refine g_val rfl rfl rfl (fun _ _ => v_move rfl) ?_
  refine g_val rfl rfl rfl (fun w _ => v_lenR hna0 (Try.runUnderlying77 w) rfl) ?_
  refine g_val rfl rfl rfl (fun _ _ => v_lss rfl rfl) ?_
  refine g_nil ?_
  refine g_n_then ?_
  refine g_cond rfl (fun h2 => ?_) (fun h2 => ?_)
  ·replace hm := ifT (of_decide_eq_true h2) hm
   refine g_region ?_
   exact absurd hm (by simp)
  ·replace hm := ifF (of_decide_eq_false h2) hm
   refine g_skip ?_
   refine g_n_then ?_
   refine g_seq ?_
   refine g_region ?_
   refine g_val rfl rfl rfl (fun _ _ => v_move rfl) ?_
   obtain ⟨t12, h3, hm⟩ := bindO hm
   refine g_val rfl rfl rfl (fun w _ => v_ixR h3 (Try.runUnderlying77 w) (Try.sizeOf25 w) rfl rfl hna0 hqa0) ?_
   refine g_val rfl rfl rfl (fun w hh => v_ldEA RP 0 [.int .i64 t12.lo, .int .i64 t12.hi] h3 (Try.isAgg25 w) (Try.sizeOf25 w) rfl (hh.seg 0 rfl) rfl (Nat.add_zero _).symm) ?_
   refine g_allocV (fun w => Try.zeroValue25 w) rfl (fun b_1 h4 => ?_)
   refine g_stSA (us := #[_, _]) (cs' := [_, _]) (S' := [_, _]) 0 (fun w => Try.sizeOf25 w) rfl rfl rfl rfl rfl rfl rfl ?_
   refine g_nil ?_
   refine g_n_then ?_
   refine g_seq ?_
   refine g_seq ?_
   refine g_region ?_
   refine g_val rfl rfl rfl (fun _ _ => v_assign rfl) ?_
   refine g_nil ?_
   refine g_n_then ?_
   obtain ⟨o, h5, h6⟩ := bindO hm
   refine g_cut (ι := Unit) (fun l => True) (fun l => [(4, ptr b 0), (5, ptr b_1 0)]) (fun l => [(b_1, .cells #[.int .i64 o.m5_lo, .int .i64 o.m5_hi] 25 (0, 0)), (b, .cells #[.int .i64 0, .int .i64 0] 25 (0, 0))]) (fun l => []) ?_ ?_
   ·replace hm := h5
    refine g_block ?_
    refine g_loopF (ι := Unit) hm (fun s l_1 => True) (fun s l_1 => [(0, .slice qa0 na0 ca0), (1, .func (.func 142) #[] #[]), (4, ptr b 0), (5, ptr b_1 0), (6, .int .i64 s.i6)]) (fun s l_1 => [(b_1, .cells #[.int .i64 s.m5_lo, .int .i64 s.m5_hi] 25 (0, 0)), (b, .cells #[.int .i64 0, .int .i64 0] 25 (0, 0))]) (fun s l_1 => []) () (trivial) ((.cons rfl (.cons rfl (.cons rfl (.cons rfl (.cons rfl .nil)))))) (fun w hh => hh) (fun s l_1 r hpl hm h7 => ?_)
    unfold m_slices_MaxFunc_apiSpanapiSpan_L0 at hm
    refine g_seq ?_
    refine g_seq ?_
    refine g_region ?_
    refine g_val rfl rfl rfl (fun _ _ => v_move rfl) ?_
    refine g_val rfl rfl rfl (fun _ _ => v_move rfl) ?_
    refine g_val rfl rfl rfl (fun w _ => v_lenR hna0 (Try.runUnderlying77 w) rfl) ?_
    refine g_val rfl rfl rfl (fun _ _ => v_lss rfl rfl) ?_
    refine g_nil ?_
    refine g_n_then ?_
    refine g_cond rfl (fun h8 => ?_) (fun h8 => ?_)
    ·replace hm := ifT (of_decide_eq_true h8) hm
     refine g_skip ?_
     refine g_n_then ?_
     refine g_seq ?_
     obtain ⟨o_1, h9, h10⟩ := bindO hm
     refine g_cut (ι := Unit) (fun l_2 => True) (fun l_2 => [(0, .slice qa0 na0 ca0), (1, .func (.func 142) #[] #[]), (4, ptr b 0), (5, ptr b_1 0), (6, .int .i64 s.i6)]) (fun l_2 => [(b_1, .cells #[.int .i64 o_1.m5_lo, .int .i64 o_1.m5_hi] 25 (0, 0)), (b, .cells #[.int .i64 0, .int .i64 0] 25 (0, 0))]) (fun l_2 => []) ?_ ?_
     ·replace hm := h9
      refine g_block ?_
      refine g_seq ?_
      refine g_draw none (.free 0 (.free 1 (.free 2 (.free 3 (.hoist 4 (.hoist 5 (.one 6 (.free 7 .done)))))))) _ rfl (by decide +kernel) (fun w k hh => hh.draw k) (fun w hh => hh) ?_
      refine p_free rfl rfl rfl rfl (fun _ _ => v_move rfl) ?_
      refine p_free rfl rfl rfl rfl (fun _ _ => v_move rfl) ?_
      refine p_free rfl rfl rfl rfl (fun _ _ => v_move rfl) ?_
      obtain ⟨t23, h11, hm⟩ := bindO hm
      refine p_free rfl rfl rfl rfl (fun w _ => v_ixR h11 (Try.runUnderlying77 w) (Try.sizeOf25 w) rfl rfl hna0 hqa0) ?_
      refine p_hoist rfl rfl rfl rfl (fun w hh => v_ldEA RP 0 [.int .i64 t23.lo, .int .i64 t23.hi] h11 (Try.isAgg25 w) (Try.sizeOf25 w) rfl (hh.seg 0 rfl) rfl (Nat.add_zero _).symm) ?_
      refine p_hoist rfl rfl rfl rfl (fun w hh => v_loadAgg (vs := [_, _]) (Try.isAgg25 w) (Try.sizeOf25 w) rfl (hh.cells 0 rfl rfl)) ?_
      refine p_one rfl ?_
      obtain ⟨t26, h12, hm⟩ := bindO hm
      refine g_callH [] [] rfl rfl rfl rfl rfl rfl rfl (fun a w => Try.call142 a w) (fun w hh => c_tide_Longest_2 (⟨t23.lo, t23.hi⟩ : Span) (⟨s.m5_lo, s.m5_hi⟩ : Span) w (HV.callee (S0 := []) (vs0 := []) hh roN)  h12) (fun l_3 h13 => ?_)
      refine p_next (fun w hh => hh) ?_
      refine p_free rfl rfl rfl rfl (fun _ _ => v_gtr rfl rfl) ?_
      refine p_done ?_
      refine g_n_then ?_
      refine g_cond rfl (fun h14 => ?_) (fun h14 => ?_)
      ·replace hm := ifT (of_decide_eq_true h14) hm
       refine g_region ?_
       refine g_val rfl rfl rfl (fun _ _ => v_move rfl) ?_
       refine g_val rfl rfl rfl (fun _ _ => v_move rfl) ?_
       obtain ⟨t30, h15, hm⟩ := bindO hm
       refine g_val rfl rfl rfl (fun w _ => v_ixR h15 (Try.runUnderlying77 w) (Try.sizeOf25 w) rfl rfl hna0 hqa0) ?_
       refine g_val rfl rfl rfl (fun w hh => v_ldEA RP 0 [.int .i64 t30.lo, .int .i64 t30.hi] h15 (Try.isAgg25 w) (Try.sizeOf25 w) rfl (hh.seg 0 rfl) rfl (Nat.add_zero _).symm) ?_
       refine g_stSA (us := #[_, _]) (cs' := [_, _]) (S' := [_, _]) 0 (fun w => Try.sizeOf25 w) rfl rfl rfl rfl rfl rfl rfl ?_
       refine g_nil ?_
       refine g_n_blk ?_
       obtain rfl := Option.some.inj hm
       exact g_leaf () (trivial) ((.cons rfl (.cons rfl (.cons rfl (.cons rfl (.cons rfl .nil)))))) (fun w hh => hh)
      ·replace hm := ifF (of_decide_eq_false h14) hm
       refine g_skip ?_
       refine g_n_blk ?_
       obtain rfl := Option.some.inj hm
       exact g_leaf () (trivial) ((.cons rfl (.cons rfl (.cons rfl (.cons rfl (.cons rfl .nil)))))) (fun w hh => hh)
     ·intro l_2 hj
      replace hm := h10
      refine g_n_then ?_
      refine g_region ?_
      refine g_val rfl rfl rfl (fun _ _ => v_move rfl) ?_
      obtain ⟨t19, h16, hm⟩ := bindO hm
      refine g_val rfl rfl rfl (fun _ _ => v_addc h16 rfl rfl) ?_
      refine g_val rfl rfl rfl (fun _ _ => v_assign rfl) ?_
      refine g_nil ?_
      obtain rfl := Option.some.inj hm
      refine g_n_then ?_
      exact g_again' _ () rfl (trivial) ((.cons rfl (.cons rfl (.cons rfl (.cons rfl (.cons rfl .nil)))))) (fun w hh => hh)
    ·replace hm := ifF (of_decide_eq_false h8) hm
     refine g_exit ?_
     refine g_x_then ?_
     refine g_x_then ?_
     refine g_x_blk ?_
     obtain rfl := Option.some.inj hm
     have hbo := h7 _ rfl
     subst hbo
     exact g_leaf () (trivial) ((.cons rfl (.cons rfl .nil))) (fun w hh => hh)
   ·intro l hj
    replace hm := h6
    refine g_n_then ?_
    refine g_seq ?_
    refine g_region ?_
    refine g_val rfl rfl rfl (fun w hh => v_loadAgg (vs := [_, _]) (Try.isAgg25 w) (Try.sizeOf25 w) rfl (hh.cells 0 rfl rfl)) ?_
    refine g_stSA (us := #[_, _]) (cs' := [_, _]) (S' := [_, _]) 1 (fun w => Try.sizeOf25 w) rfl rfl rfl rfl rfl rfl rfl ?_
    refine g_nil ?_
    refine g_n_then ?_
    refine g_ret ?_
    obtain rfl := Option.some.inj hm
    refine g_done rfl (fun w hh => (.cell rfl (loadVar_agg (vs := [_, _]) (Try.isAgg25 _) (Try.sizeOf25 _) (hh.cells 1 rfl rfl)) .nil)) (fun w hh => ⟨(), rfl, trivial, hh.sel [] [] 1 (by decide) (by decide) rfl rfl rfl⟩)
structure m_tide_Longest_1_R where
  r0 : Span
  r1 : Int
def m_tide_Longest_1 (s0 : Sands) (places1 : (List Int)) : Option m_tide_Longest_1_R :=
 if s0.table.length ≤ 8796093022208 ∧ s0.floors.length ≤ 17592186044416 ∧ s0.sills.length ≤ 5864062014805 then (if check s0 = 0 then
 ((m_tide_every_int_3 places1 s0).bind fun t26 =>
 if (!t26) = true then
 (some (⟨(⟨0, 0⟩ : Span), 1⟩ : m_tide_Longest_1_R)) else
 ((m_tide_desk_spans_1 s0 places1 s0).bind fun t32 =>
 if (t32.length : Int) = 0 then
 (some (⟨(⟨0, 0⟩ : Span), 6⟩ : m_tide_Longest_1_R)) else
 ((m_slices_MaxFunc_apiSpanapiSpan t32).bind fun t38 =>
 some (⟨t38, 0⟩ : m_tide_Longest_1_R)))) else
 (some (⟨(⟨0, 0⟩ : Span), (check s0)⟩ : m_tide_Longest_1_R))) else none
set_option maxRecDepth 100000 in
set_option maxHeartbeats 4000000 in
theorem c_tide_Longest_1 (s0 : Sands) (places1 : (List Int)) (qa0 : Option (Nat × Nat)) (na0 ca0 : Nat) (qa1 : Option (Nat × Nat)) (na1 ca1 : Nat) (qa2 : Option (Nat × Nat)) (na2 ca2 : Nat) (qa3 : Option (Nat × Nat)) (na3 ca3 : Nat) (w : World) (hw : HV w (keys [] []) [] [] [(bk qa0, off qa0, RW.enc s0.table), (bk qa1, off qa1, RI.enc s0.floors), (bk qa2, off qa2, RS.enc s0.sills), (bk qa3, off qa3, RI.enc places1)] w) (hna0 : s0.table.length = na0) (hqa0 : 0 < na0 → qa0 ≠ none) (hla0 : na0 ≤ ca0) (hna1 : s0.floors.length = na1) (hqa1 : 0 < na1 → qa1 ≠ none) (hla1 : na1 ≤ ca1) (hna2 : s0.sills.length = na2) (hqa2 : 0 < na2 → qa2 ≠ none) (hla2 : na2 ≤ ca2) (hna3 : places1.length = na3) (hqa3 : 0 < na3 → qa3 ≠ none) (hla3 : na3 ≤ ca3) {res : m_tide_Longest_1_R} (hm : m_tide_Longest_1 s0 places1 = some res) :
    Calls Try.prog 70 #[.agg #[slv qa0 na0 ca0, .int .i64 s0.wind.lo, .int .i64 s0.wind.hi, slv qa1 na1 ca1, slv qa2 na2 ca2], slv qa3 na3 ca3] w (fun en w' => ∃ l : Unit, en = .returned (.tuple #[.agg #[.int .i64 res.r0.lo, .int .i64 res.r0.hi], .int .i64 res.r1]) ∧ (True) ∧ HV w (keys [] []) [] [] [] w') := by
  unfold m_tide_Longest_1 at hm
  refine g_enter (args := [.agg #[slv qa0 na0 ca0, .int .i64 s0.wind.lo, .int .i64 s0.wind.hi, slv qa1 na1 ca1, slv qa2 na2 ca2], slv qa3 na3 ca3]) Try.func70 rfl Try.ntmps70 rfl (e := [(0, _), (1, _)]) rfl (H := HV w (keys [] []) [] [] [(bk qa0, off qa0, RW.enc s0.table), (bk qa1, off qa1, RI.enc s0.floors), (bk qa2, off qa2, RS.enc s0.sills), (bk qa3, off qa3, RI.enc places1)]) hw ?_
  refine g_seq ?_
  refine g_region ?_
  refine g_boxV rfl rfl (fun b h1 => ?_)
  refine g_boxV rfl rfl (fun b_1 h2 => ?_)
  refine g_allocV (fun w => Try.zeroValue25 w) rfl (fun b_2 h3 => ?_)
  refine g_val rfl rfl rfl (fun _ _ => v_assign rfl) ?_
  refine g_nil ?_
  refine g_n_then ?_
  refine g_seq ?_
  refine g_region ?_
  refine g_val rfl rfl rfl (fun w hh => v_loadAgg (vs := [_, _, _, _, _]) (Try.isAgg29 w) (Try.sizeOf29 w) rfl (hh.cells 2 rfl rfl)) ?_
  obtain ⟨h4, hm⟩ := ifO hm
  refine dec_cases (p := check s0 = 0) (fun h5 => ?_) (fun h5 => ?_)
  ·replace hm := ifT h5 hm
   refine g_callFV rfl rfl rfl rfl rfl rfl rfl (fun a w => Try.call102 a w) (fun w hh => cx_opened s0 qa0 na0 ca0 qa1 na1 ca1 qa2 na2 ca2 w (HV.callee (S0 := []) (vs0 := []) hh (roC (hh.rsep (S0 := []) (vs0 := []) 0 rfl) (roC (hh.rsep (S0 := []) (vs0 := []) 1 rfl) (roC (hh.rsep (S0 := []) (vs0 := []) 2 rfl) roN)))) hna0 hqa0 hla0 hna1 hqa1 hla1 hna2 hqa2 hla2 h4 h5) (fun b_3 => ?_)
   refine g_val rfl rfl rfl (fun _ _ => v_move rfl) ?_
   refine g_val rfl rfl rfl (fun _ _ => v_extract rfl rfl) ?_
   refine g_val rfl rfl rfl (fun _ _ => v_extract rfl rfl) ?_
   refine g_allocV (fun w => Try.zeroValue139 w) rfl (fun b_4 h6 => ?_)
   refine g_stS (cs' := #[_]) (S' := [_, _, _, _, _]) 0 (fun w => Try.sizeOf139 w) rfl rfl rfl rfl rfl rfl rfl ?_
   refine g_val rfl rfl rfl (fun _ _ => v_assign rfl) ?_
   refine g_nil ?_
   refine g_n_then ?_
   refine g_seq ?_
   refine g_block ?_
   refine g_seq ?_
   refine g_region ?_
   refine g_val rfl rfl rfl (fun _ _ => v_move rfl) ?_
   refine g_val rfl rfl rfl (fun _ _ => v_neq rfl rfl) ?_
   refine g_val rfl rfl rfl (fun _ _ => v_assign rfl) ?_
   refine g_nil ?_
   refine g_n_then ?_
   refine g_condF rfl rfl ?_
   refine g_seq ?_
   refine g_draw none (.hoist 0 (.hoist 1 (.free 2 (.free 3 (.hoist 4 (.free 5 (.one 6 (.free 7 (.free 8 .done))))))))) _ rfl (by decide +kernel) (fun w k hh => hh.draw k) (fun w hh => hh) ?_
   refine p_hoist rfl rfl rfl rfl (fun w hh => v_load (Try.isAgg26 w) rfl (hh.cell 3 rfl rfl)) ?_
   refine p_hoist rfl rfl rfl rfl (fun w hh => v_load (Try.isAgg139 w) rfl (hh.cell 0 rfl rfl)) ?_
   refine p_free rfl rfl rfl rfl (fun _ _ => v_nilCheck rfl) ?_
   refine p_free rfl rfl rfl rfl (fun w _ => v_fieldAddr 0 (Try.runUnderlying157 w) rfl (Try.sizeOf29 w) rfl) ?_
   refine p_hoist rfl rfl rfl rfl (fun w hh => v_loadAgg (vs := [_, _, _, _, _]) (Try.isAgg29 w) (Try.sizeOf29 w) rfl (hh.cells 1 rfl rfl)) ?_
   refine p_free rfl rfl rfl rfl (fun _ _ => v_makeFunc (u := #[_]) (u' := #[]) rfl rfl) ?_
   refine p_one rfl ?_
   obtain ⟨t26, h7, hm⟩ := bindO hm
   refine g_callH [] [] rfl rfl rfl rfl rfl rfl rfl (fun a w => Try.call94 a w) (fun w hh => c_tide_every_int_3 places1 s0 qa3 na3 ca3 qa0 na0 ca0 qa1 na1 ca1 qa2 na2 ca2 w (HV.callee (S0 := []) (vs0 := []) hh (roC (hh.rsep (S0 := []) (vs0 := []) 3 rfl) (roC (hh.rsep (S0 := []) (vs0 := []) 0 rfl) (roC (hh.rsep (S0 := []) (vs0 := []) 1 rfl) (roC (hh.rsep (S0 := []) (vs0 := []) 2 rfl) roN))))) hna3 hqa3 hla3 hna0 hqa0 hla0 hna1 hqa1 hla1 hna2 hqa2 hla2 h7) (fun l h8 => ?_)
   refine p_next (fun w hh => hh) ?_
   refine p_free rfl rfl rfl rfl (fun _ _ => v_not rfl) ?_
   refine p_free rfl rfl rfl rfl (fun _ _ => v_assign rfl) ?_
   refine p_done ?_
   refine g_n_then ?_
   refine g_cond rfl (fun h9 => ?_) (fun h9 => ?_)
   ·replace hm := ifT (h9) hm
    refine g_seq ?_
    refine g_region ?_
    refine g_val rfl rfl rfl (fun _ _ => v_build (vs := []) (cells := [_, _]) rfl rfl) ?_
    refine g_stSA (us := #[_, _]) (cs' := [_, _]) (S' := [_, _, _, _, _]) 2 (fun w => Try.sizeOf25 w) rfl rfl rfl rfl rfl rfl rfl ?_
    refine g_val rfl rfl rfl (fun _ _ => v_assign rfl) ?_
    refine g_nil ?_
    refine g_n_then ?_
    refine g_ret ?_
    refine g_r_blk ?_
    refine g_r_then ?_
    obtain rfl := Option.some.inj hm
    refine g_done rfl (fun w hh => (.cell rfl (loadVar_agg (vs := [_, _]) (Try.isAgg25 _) (Try.sizeOf25 _) (hh.cells 2 rfl rfl)) (.tmp rfl .nil))) (fun w hh => ⟨(), rfl, trivial, hh.sel [] [] 4 (by decide) (by decide) rfl rfl rfl⟩)
   ·replace hm := ifF ((fun hh => Bool.noConfusion ((h9).symm.trans hh))) hm
    refine g_skip ?_
    refine g_n_blk ?_
    refine g_n_then ?_
    refine g_seq ?_
    refine g_region ?_
    refine g_val rfl rfl rfl (fun w hh => v_load (Try.isAgg139 w) rfl (hh.cell 0 rfl rfl)) ?_
    refine g_val rfl rfl rfl (fun _ _ => v_makeFunc (u := #[]) (u' := #[_, _]) rfl rfl) ?_
    refine g_val rfl rfl rfl (fun _ _ => v_build (vs := [(0, _)]) (cells := [_]) rfl rfl) ?_
    obtain ⟨t32, h10, hm⟩ := bindO hm
    refine g_sel (S' := [_, _, _, _, _]) (vs' := []) [3, 0, 1, 2, 4] [] 0 (by decide) (by decide) rfl rfl rfl ?_
    refine g_callH [_, _] [] rfl rfl rfl rfl rfl rfl rfl (fun a w => Try.call118 a w) (fun w hh => c_tide_desk_spans_1 s0 places1 s0 b_3 qa0 na0 ca0 qa1 na1 ca1 qa2 na2 ca2 b_1 qa3 na3 ca3 b_4 b_3 qa0 na0 ca0 qa1 na1 ca1 qa2 na2 ca2 w (HV.callee (S0 := [_, _]) (vs0 := []) hh (roC (hh.bsepH (S0 := [_, _]) (vs0 := []) 0 rfl) (roC (hh.rsep (S0 := [_, _]) (vs0 := []) 0 rfl) (roC (hh.rsep (S0 := [_, _]) (vs0 := []) 1 rfl) (roC (hh.rsep (S0 := [_, _]) (vs0 := []) 2 rfl) (roC (hh.rsep (S0 := [_, _]) (vs0 := []) 3 rfl) (roC (hh.bsepH (S0 := [_, _]) (vs0 := []) 0 rfl) (roC (hh.rsep (S0 := [_, _]) (vs0 := []) 0 rfl) (roC (hh.rsep (S0 := [_, _]) (vs0 := []) 1 rfl) (roC (hh.rsep (S0 := [_, _]) (vs0 := []) 2 rfl) roN)))))))))) hna0 hqa0 hla0 hna1 hqa1 hla1 hna2 hqa2 hla2 hna3 hqa3 hla3 hna0 hqa0 hla0 hna1 hqa1 hla1 hna2 hqa2 hla2 h10) (fun l_1 h11 => ?_)
    have h12 := h11
    refine g_sel (S' := [_, _, _, _, _]) (vs' := [_]) [0, 1, 2, 3, 4] [0] 0 (by decide) (by decide) rfl rfl rfl ?_
    refine g_val rfl rfl rfl (fun _ _ => v_assign rfl) ?_
    refine g_nil ?_
    refine g_n_then ?_
    refine g_seq ?_
    refine g_seq ?_
    refine g_region ?_
    refine g_val rfl rfl rfl (fun _ _ => v_move rfl) ?_
    refine g_val rfl rfl rfl (fun w _ => v_lenN (vlen RP h12 rfl) (Try.runUnderlying77 w) rfl) ?_
    refine g_val rfl rfl rfl (fun _ _ => v_eql rfl rfl) ?_
    refine g_nil ?_
    refine g_n_then ?_
    refine g_cond rfl (fun h13 => ?_) (fun h13 => ?_)
    ·replace hm := ifT (of_decide_eq_true h13) hm
     refine g_seq ?_
     refine g_region ?_
     refine g_val rfl rfl rfl (fun _ _ => v_build (vs := []) (cells := [_, _]) rfl rfl) ?_
     refine g_stSA (us := #[_, _]) (cs' := [_, _]) (S' := [_, _, _, _, _]) 3 (fun w => Try.sizeOf25 w) rfl rfl rfl rfl rfl rfl rfl ?_
     refine g_val rfl rfl rfl (fun _ _ => v_assign rfl) ?_
     refine g_nil ?_
     refine g_n_then ?_
     refine g_ret ?_
     refine g_r_then ?_
     obtain rfl := Option.some.inj hm
     refine g_done rfl (fun w hh => (.cell rfl (loadVar_agg (vs := [_, _]) (Try.isAgg25 _) (Try.sizeOf25 _) (hh.cells 3 rfl rfl)) (.tmp rfl .nil))) (fun w hh => ⟨(), rfl, trivial, hh.sel [] [] 4 (by decide) (by decide) rfl rfl rfl⟩)
    ·replace hm := ifF (of_decide_eq_false h13) hm
     refine g_skip ?_
     refine g_n_then ?_
     refine g_seq ?_
     refine g_region ?_
     refine g_val rfl rfl rfl (fun _ _ => v_move rfl) ?_
     obtain ⟨t38, h14, hm⟩ := bindO hm
     refine g_callH [] [] rfl rfl rfl rfl rfl rfl rfl (fun a w => Try.call141 a w) (fun w hh => c_slices_MaxFunc_apiSpanapiSpan t32 (qA l_1.q) l_1.n l_1.cap w (HV.callee (S0 := []) (vs0 := []) hh (roC (hh.vsepA (S0 := []) (vs0 := []) 0 rfl h12) roN)) (vlen RP h12 rfl) (AOK.q (vne h12)) (h12).hle h14) (fun l_2 h15 => ?_)
     refine g_stSA (us := #[_, _]) (cs' := [_, _]) (S' := [_, _, _, _, _]) 3 (fun w => Try.sizeOf25 w) rfl rfl rfl rfl rfl rfl rfl ?_
     refine g_val rfl rfl rfl (fun _ _ => v_assign rfl) ?_
     refine g_nil ?_
     refine g_n_then ?_
     refine g_ret ?_
     obtain rfl := Option.some.inj hm
     refine g_done rfl (fun w hh => (.cell rfl (loadVar_agg (vs := [_, _]) (Try.isAgg25 _) (Try.sizeOf25 _) (hh.cells 3 rfl rfl)) (.tmp rfl .nil))) (fun w hh => ⟨(), rfl, trivial, hh.sel [] [] 4 (by decide) (by decide) rfl rfl rfl⟩)
  ·replace hm := ifF h5 hm
   refine g_callN rfl rfl rfl rfl rfl rfl rfl (fun a w => Try.call102 a w) (fun w hh => cx_openedE s0 qa0 na0 ca0 qa1 na1 ca1 qa2 na2 ca2 w (HV.callee (S0 := []) (vs0 := []) hh (roC (hh.rsep (S0 := []) (vs0 := []) 0 rfl) (roC (hh.rsep (S0 := []) (vs0 := []) 1 rfl) (roC (hh.rsep (S0 := []) (vs0 := []) 2 rfl) roN)))) hna0 hqa0 hla0 hna1 hqa1 hla1 hna2 hqa2 hla2 h4 h5) (fun l_3 h16 => ?_)
   refine g_val rfl rfl rfl (fun _ _ => v_move rfl) ?_
   refine g_val rfl rfl rfl (fun _ _ => v_extract rfl rfl) ?_
   refine g_val rfl rfl rfl (fun _ _ => v_extract rfl rfl) ?_
   refine g_allocV (fun w => Try.zeroValue139 w) rfl (fun b_5 h17 => ?_)
   refine g_stS (cs' := #[_]) (S' := [_, _, _, _]) 0 (fun w => Try.sizeOf139 w) rfl rfl rfl rfl rfl rfl rfl ?_
   refine g_val rfl rfl rfl (fun _ _ => v_assign rfl) ?_
   refine g_nil ?_
   refine g_n_then ?_
   refine g_seq ?_
   refine g_block ?_
   refine g_seq ?_
   refine g_region ?_
   refine g_val rfl rfl rfl (fun _ _ => v_move rfl) ?_
   refine g_val rfl rfl rfl (fun _ _ => v_neqT h5 rfl rfl) ?_
   refine g_val rfl rfl rfl (fun _ _ => v_assign rfl) ?_
   refine g_nil ?_
   refine g_n_then ?_
   refine g_condT rfl rfl ?_
   refine g_seq ?_
   refine g_region ?_
   refine g_val rfl rfl rfl (fun _ _ => v_build (vs := []) (cells := [_, _]) rfl rfl) ?_
   refine g_val rfl rfl rfl (fun _ _ => v_move rfl) ?_
   refine g_stSA (us := #[_, _]) (cs' := [_, _]) (S' := [_, _, _, _]) 1 (fun w => Try.sizeOf25 w) rfl rfl rfl rfl rfl rfl rfl ?_
   refine g_val rfl rfl rfl (fun _ _ => v_assign rfl) ?_
   refine g_nil ?_
   refine g_n_then ?_
   refine g_ret ?_
   refine g_r_blk ?_
   refine g_r_then ?_
   obtain rfl := Option.some.inj hm
   refine g_done rfl (fun w hh => (.cell rfl (loadVar_agg (vs := [_, _]) (Try.isAgg25 _) (Try.sizeOf25 _) (hh.cells 1 rfl rfl)) (.tmp rfl .nil))) (fun w hh => ⟨(), rfl, trivial, hh.sel [] [] 4 (by decide) (by decide) rfl rfl rfl⟩)
end Go.Proofs.Wk

namespace Go.Proofs.Wk
open Go Go.Gx Go.Pl
set_option linter.unusedVariables false
/-! ### the longest span in which places are dry -/
def allDry (s : Sands) (pl : List Int) (m : Int) : Bool := pl.all fun p => decide (stateF s m p = 0)
theorem every_place {s : Sands} (hS : Short s) {l : List Int} (hl : l.length ≤ 1000) : m_tide_every_int_3 l s = some (l.all (isPlace s)) := by
  have h1 := hS.t
  have h2 := hS.f
  have h3 := hS.s
  have hpl : ∀ p, x_place s p = some (isPlace s p) := fun p => by unfold x_place; rw [if_pos ⟨by omega, by omega, by omega⟩]
  unfold m_tide_every_int_3 m_slices_ContainsFunc_intint_2 m_slices_IndexFunc_intint_2
  have key := contains_loop (f := m_slices_IndexFunc_intint_2_L0 l s) l 0 (fun x => !isPlace s x) (by omega) (fun k hk => by
    unfold m_slices_IndexFunc_intint_2_L0 m_tide_every_int_1_2
    rw [if_pos (by omega), ix_nat 0 hk, Option.bind_some, hpl, Option.bind_some, Option.bind_some]
    by_cases h : (!isPlace s (l.getD k 0)) = true
    · rw [if_pos h, if_pos h]
    · rw [if_neg h, if_neg h, addc_eq (by omega), Option.bind_some]) (by
    unfold m_slices_IndexFunc_intint_2_L0
    rw [if_neg (by omega)])
  rw [key, Option.bind_some, not_any_not]
theorem x_at_eq {s : Sands} (hG : Good s) {m p : Int} (hd : dayF s m = true) (hp : isPlace s p = true) : x_at s m p = some (stateF s m p) := by
  have hS := Good.short hG
  have h1 := hS.t
  have h2 := hS.f
  have h3 := hS.s
  have hfl := hG.fl
  have hpp := isPlace_iff.1 hp
  unfold x_at
  rw [if_pos ⟨⟨by omega, by omega, by omega⟩, check_of_good hG, hd, by omega, by omega⟩]
theorem every_dry {s : Sands} (hG : Good s) {pl : List Int} (hpl : pl.all (isPlace s) = true) (hl : pl.length ≤ 1000) {m : Int} (hd : dayF s m = true) : m_tide_Longest_1_2 m pl s = some (allDry s pl m) := by
  unfold m_tide_Longest_1_2 m_tide_every_int_4 m_slices_ContainsFunc_intint_3 m_slices_IndexFunc_intint_3
  have key := contains_loop (f := m_slices_IndexFunc_intint_3_L0 pl s m) pl 0 (fun x => !decide (stateF s m x = 0)) (by omega) (fun k hk => by
    have hp : isPlace s (pl.getD k 0) = true := all_getD hpl hk
    unfold m_slices_IndexFunc_intint_3_L0 m_tide_every_int_1_3 m_tide_Longest_1_1_2
    rw [if_pos (by omega), ix_nat 0 hk, Option.bind_some, x_at_eq hG hd hp, Option.bind_some, Option.bind_some, Option.bind_some]
    by_cases h : (!decide (stateF s m (pl.getD k 0) = 0)) = true
    · rw [if_pos h, if_pos h]
    · rw [if_neg h, if_neg h, addc_eq (by omega), Option.bind_some]) (by
    unfold m_slices_IndexFunc_intint_3_L0
    rw [if_neg (by omega)])
  rw [key, Option.bind_some, not_any_not, Option.bind_some]
  rfl
theorem shut_eq {m fr : Int} {op : Bool} {acc : List Span} (hm : -1000000 ≤ m ∧ m ≤ 1000000) (hl : acc.length ≤ 100000) : m_tide_desk_spans_1_3 m op acc fr = some ⟨(shutF ⟨acc, fr, op⟩ m).op, (shutF ⟨acc, fr, op⟩ m).acc⟩ := by
  unfold m_tide_desk_spans_1_3 shutF
  cases op with
  | true =>
    rw [if_pos rfl, subc_eq (by omega), Option.bind_some, appc_eq (by simp only [List.length_singleton]; omega), Option.bind_some, Option.bind_some]
  | false => rw [if_neg (by decide), Option.bind_some]
theorem shut_fr {x : SpanSt} {m : Int} : (shutF x m).fr = x.fr := by unfold shutF; split <;> rfl
theorem spans_walk {s : Sands} (hG : Good s) {pl : List Int} (hpl : pl.all (isPlace s) = true) (hl : pl.length ≤ 1000) : m_tide_desk_spans_1 s pl s = some (spansF s (allDry s pl)) := by
  have htl := hG.tl
  have hds := day_span hG
  obtain ⟨hn, hn2⟩ := Go.Pl.dayN_eq hG
  have e0 : (s.table.getD (0 : Int).toNat default).min = firstM s := rfl
  have e1 : (s.table.getD (((s.table.length : Int) - 1).toNat) default).min = lastM s := by
    unfold lastM
    rw [show ((s.table.length : Int) - 1).toNat = s.table.length - 1 by omega]
  unfold m_tide_desk_spans_1
  rw [ix_eq default (by omega) (by omega), Option.bind_some, subc_eq (by omega), Option.bind_some, ix_eq default (by omega) (by omega), Option.bind_some, e0, e1, subc_eq (by omega), Option.bind_some, addc_eq (by omega), Option.bind_some, ← hn]
  generalize hW : s.table.getD (0 : Int).toNat default = W at e0
  have key : iterM FU (m_tide_desk_spans_1_L0 (dayN s : Int) W pl s) ⟨0, false, 0, []⟩ = some ⟨(spansN (allDry s pl) (firstM s) (dayN s)).op, (spansN (allDry s pl) (firstM s) (dayN s)).fr, (spansN (allDry s pl) (firstM s) (dayN s)).acc⟩ := by
    have hz : (⟨0, false, 0, []⟩ : m_tide_desk_spans_1_S0) = (fun k : Nat => (⟨(k : Int), (spansN (allDry s pl) (firstM s) k).op, (spansN (allDry s pl) (firstM s) k).fr, (spansN (allDry s pl) (firstM s) k).acc⟩ : m_tide_desk_spans_1_S0)) 0 := rfl
    rw [hz]
    refine iterM_run (fun k : Nat => (⟨(k : Int), (spansN (allDry s pl) (firstM s) k).op, (spansN (allDry s pl) (firstM s) k).fr, (spansN (allDry s pl) (firstM s) k).acc⟩ : m_tide_desk_spans_1_S0)) (dayN s) (fun k hk => ?_) ?_ FU (FU_lt (by omega))
    · have hd : dayF s (firstM s + (k : Int)) = true := day_of ⟨by omega, by omega⟩
      have hlen := spansN_len (p := allDry s pl) (a := firstM s) (k := k)
      unfold m_tide_desk_spans_1_L0
      dsimp only
      rw [if_pos (by omega), e0, addc_eq (by omega), Option.bind_some, every_dry hG hpl hl hd, Option.bind_some, spansN_succ]
      generalize spansN (allDry s pl) (firstM s) k = x at hlen ⊢
      obtain ⟨acc, fr, op⟩ := x
      simp only at hlen ⊢
      unfold spanStep
      cases hdry : allDry s pl (firstM s + (k : Int)) with
      | false =>
        rw [if_pos (show (!false) = true from rfl), Option.bind_some, shut_eq (by omega) (by omega), Option.bind_some, Option.bind_some, addc_eq (by omega), Option.bind_some]
        simp only [shut_fr]
        rfl
      | true =>
        rw [if_neg (by decide)]
        cases op with
        | false => rw [if_pos (show (!false) = true from rfl), Option.bind_some, Option.bind_some, addc_eq (by omega), Option.bind_some]; rfl
        | true => rw [if_neg (by decide), Option.bind_some, addc_eq (by omega), Option.bind_some]; rfl
    · unfold m_tide_desk_spans_1_L0
      dsimp only
      rw [if_neg (by omega)]
  have hlen := spansN_len (p := allDry s pl) (a := firstM s) (k := dayN s)
  rw [key, Option.bind_some, addc_eq (by omega), Option.bind_some, shut_eq (by omega) (by dsimp only; omega), Option.bind_some]
  rfl
/-- the first of the longest -/
def maxStep (m x : Span) : Span := if m.hi - m.lo < x.hi - x.lo then x else m
def maxSpan : List Span → Span
  | [] => ⟨0, 0⟩
  | x :: l => l.foldl maxStep x
theorem max_fold : ∀ (l : List Span) (x : Span), l.foldl maxStep x ∈ x :: l ∧ ∀ y, y ∈ x :: l → y.hi - y.lo ≤ (l.foldl maxStep x).hi - (l.foldl maxStep x).lo
  | [], x => ⟨List.mem_cons_self, fun y hy => by rw [List.mem_singleton.1 hy]; exact Int.le_refl _⟩
  | z :: l, x => by
    obtain ⟨h1, h2⟩ := max_fold l (maxStep x z)
    rw [List.foldl_cons]
    have hs : maxStep x z = x ∨ maxStep x z = z := by unfold maxStep; split <;> simp
    have hx : x.hi - x.lo ≤ (maxStep x z).hi - (maxStep x z).lo ∧ z.hi - z.lo ≤ (maxStep x z).hi - (maxStep x z).lo := by unfold maxStep; split <;> omega
    have h3 := h2 _ List.mem_cons_self
    refine ⟨?_, fun y hy => ?_⟩
    · rcases List.mem_cons.1 h1 with h | h
      · rw [h]
        rcases hs with h4 | h4 <;> rw [h4] <;> simp
      · exact List.mem_cons_of_mem _ (List.mem_cons_of_mem _ h)
    · rcases List.mem_cons.1 hy with rfl | hy
      · omega
      · rcases List.mem_cons.1 hy with rfl | hy
        · omega
        · exact h2 y (List.mem_cons_of_mem _ hy)
theorem maxfunc_eq {l : List Span} (h : l ≠ []) (hl : l.length ≤ 100000) (hb : ∀ y, y ∈ l → (-1000000 ≤ y.lo ∧ y.lo ≤ 1000000) ∧ -1000000 ≤ y.hi ∧ y.hi ≤ 1000000) : m_slices_MaxFunc_apiSpanapiSpan l = some (maxSpan l) := by
  cases l with
  | nil => exact absurd rfl h
  | cons x l =>
    unfold m_slices_MaxFunc_apiSpanapiSpan
    simp only [List.length_cons] at hl
    rw [if_neg (by simp only [List.length_cons]; omega), ix_eq default (by omega) (by simp)]
    have e : (x :: l).getD (0 : Int).toNat default = x := rfl
    rw [Option.bind_some, e]
    have tk : ∀ k, (l.take k).foldl maxStep x ∈ x :: l := fun k => by
      have := (max_fold (l.take k) x).1
      rcases List.mem_cons.1 this with h | h
      · rw [h]; exact List.mem_cons_self
      · exact List.mem_cons_of_mem _ (List.mem_of_mem_take h)
    have key : iterM FU (m_slices_MaxFunc_apiSpanapiSpan_L0 (x :: l)) ⟨1, x.lo, x.hi⟩ = some ⟨(maxSpan (x :: l)).lo, (maxSpan (x :: l)).hi⟩ := by
      have hz : (⟨1, x.lo, x.hi⟩ : m_slices_MaxFunc_apiSpanapiSpan_S0) = (fun k : Nat => (⟨((k + 1 : Nat) : Int), ((l.take k).foldl maxStep x).lo, ((l.take k).foldl maxStep x).hi⟩ : m_slices_MaxFunc_apiSpanapiSpan_S0)) 0 := rfl
      rw [hz]
      refine iterM_run (fun k : Nat => (⟨((k + 1 : Nat) : Int), ((l.take k).foldl maxStep x).lo, ((l.take k).foldl maxStep x).hi⟩ : m_slices_MaxFunc_apiSpanapiSpan_S0)) l.length (fun k hk => ?_) ?_ FU (FU_lt (by omega))
      · have hm := hb _ (tk k)
        have hy := hb (l.getD k default) (List.mem_cons_of_mem _ (mem_getD hk))
        have hg : ix (x :: l) ((k + 1 : Nat) : Int) = some (l.getD k default) := by
          rw [ix_nat default (by simp; omega)]
          rfl
        have hf : (l.take (k + 1)).foldl maxStep x = maxStep ((l.take k).foldl maxStep x) (l.getD k default) := take_fold default hk
        unfold m_slices_MaxFunc_apiSpanapiSpan_L0 m_tide_Longest_2
        dsimp only
        rw [if_pos (by simp only [List.length_cons]; omega), hg, Option.bind_some, hf]
        generalize (l.take k).foldl maxStep x = m at hm
        generalize l.getD k default = y at hy
        rw [subc_eq (by omega), Option.bind_some, subc_eq (by omega), Option.bind_some, addc_eq (by omega), Option.bind_some, Option.bind_some]
        unfold maxStep
        by_cases hc : m.hi - m.lo < y.hi - y.lo
        · rw [if_pos (by omega), if_pos hc, Option.bind_some, Option.bind_some, addc_eq (by omega), Option.bind_some]
          rfl
        · rw [if_neg (by omega), if_neg hc, Option.bind_some, addc_eq (by omega), Option.bind_some]
          rfl
      · unfold m_slices_MaxFunc_apiSpanapiSpan_L0
        dsimp only
        rw [if_neg (by simp only [List.length_cons]; omega), List.take_length]
        rfl
    rw [key, Option.bind_some]
/-- what Longest comes to -/
def LongestR (s : Sands) (pl : List Int) : Span × Int := if check s ≠ 0 then (⟨0, 0⟩, check s) else if pl.all (isPlace s) = false then (⟨0, 0⟩, 1) else if spansF s (allDry s pl) = [] then (⟨0, 0⟩, 6) else (maxSpan (spansF s (allDry s pl)), 0)
theorem longest_eq {s : Sands} (hS : Short s) {pl : List Int} (hl : pl.length ≤ 1000) : m_tide_Longest_1 s pl = some ⟨(LongestR s pl).1, (LongestR s pl).2⟩ := by
  have h1 := hS.t
  have h2 := hS.f
  have h3 := hS.s
  unfold m_tide_Longest_1 LongestR
  rw [if_pos ⟨by omega, by omega, by omega⟩]
  by_cases hc : check s = 0
  · have hG := good_of_check hc
    rw [if_pos hc, if_neg (show ¬ (check s ≠ 0) by rw [hc]; simp), every_place hS hl, Option.bind_some]
    by_cases hp : pl.all (isPlace s) = true
    · have hlen := spansF_len hG (p := allDry s pl)
      have hruns := (spans_runs hG (p := allDry s pl)).1
      have hds := day_span hG
      rw [hp, if_neg (by decide), if_neg (show ¬ (true = false) by decide), spans_walk hG hp hl, Option.bind_some]
      by_cases he : spansF s (allDry s pl) = []
      · rw [if_pos (by rw [he]; rfl), if_pos he]
      · have hne : ¬ ((spansF s (allDry s pl)).length : Int) = 0 := fun h => he (List.length_eq_zero_iff.1 (by omega))
        rw [if_neg hne, if_neg he, maxfunc_eq he (by omega) (fun y hy => by have := hruns y hy; omega), Option.bind_some]
    · have hp' : pl.all (isPlace s) = false := by simpa using hp
      rw [hp', if_pos (show (!false) = true from rfl), if_pos rfl]
  · rw [if_neg hc, if_pos (show check s ≠ 0 from hc)]
end Go.Proofs.Wk

namespace Go.Proofs.Wk
open Go Go.Gx Go.Pl
set_option linter.unusedVariables false
theorem longestR_good {s : Sands} (hG : Good s) {pl : List Int} (hp : pl.all (isPlace s) = true) : LongestR s pl = if spansF s (allDry s pl) = [] then (⟨0, 0⟩, 6) else (maxSpan (spansF s (allDry s pl)), 0) := by
  unfold LongestR
  rw [check_of_good hG, hp, if_neg (by simp), if_neg (by simp)]
end Go.Proofs.Wk

namespace Go.Proofs.Wk
open Go Go.Gx Go.Pl
set_option linter.unusedVariables false
theorem refgates_ixn {s : Sands} {p : Nat} (hp : p < s.floors.length) : ix ((List.range s.floors.length).map (fun p : Nat => refGate ((gatesOf s).getD p 0))) (p : Int) = some (refGate ((gatesOf s).getD p 0)) := by
  have := gates_ix (s := s) (p := (p : Int)) (isPlace_iff.2 ⟨by omega, by omega⟩)
  simpa using this
end Go.Proofs.Wk

namespace Go.Proofs.Wk
open Go Go.Fw Go.Gx Go.Pl
set_option linter.unusedVariables false

structure m_laurelref01_Flood_R where
  r0 : Int
  r2 : Bool
  r1 : (List Int)
structure m_laurelref01_Flood_S1 where
  p13 : Int
  out11 : (List Int)
def m_laurelref01_Flood_L1 (gates1 : (List Int)) (s0 : Sands) (t16 : Int) (t27 : Int) (s_1 : m_laurelref01_Flood_S1) : Option (m_laurelref01_Flood_S1 ⊕ (List Int)) :=
 if s_1.p13 < (gates1.length : Int) then
 ((((ix gates1 s_1.p13).bind fun t38 =>
 (m_laurelref01_State s0 t16 t38).bind fun t40 =>
 if t40 = 0 then
 ((ix gates1 s_1.p13).bind fun t47 =>
 (m_laurelref01_State s0 t27 t47).bind fun t49 =>
 some (!decide (t49 = 0))) else
 (some false)).bind fun o_3 =>
 if o_3 = true then
 ((appc 8 s_1.out11 [s_1.p13]).bind fun t55 =>
 some t55) else
 (some s_1.out11)).bind fun o_2 =>
 (addc s_1.p13 1).bind fun t33 =>
 some (.inl (⟨t33, o_2⟩ : m_laurelref01_Flood_S1))) else
 (some (.inr s_1.out11))
def m_laurelref01_Flood_L0 (s0 : Sands) (gates1 : (List Int)) (t16 : Int) (s : Int) : Option (Int ⊕ (Unit ⊕ m_laurelref01_Flood_R)) :=
 (m_laurelref01_Last s0).bind fun t21 =>
 if s ≤ t21 then
 ((m_laurelref01_Height s0 s).bind fun t27 =>
 (iterM FU (m_laurelref01_Flood_L1 gates1 s0 t16 t27) (⟨0, []⟩ : m_laurelref01_Flood_S1)).bind fun o_1 =>
 if 0 < (o_1.length : Int) then
 (some (.inr (.inr (⟨s, true, o_1⟩ : m_laurelref01_Flood_R)))) else
 ((addc s 1).bind fun t24 =>
 some (.inl t24))) else
 (some (.inr (.inl ())))
def m_laurelref01_Flood (s0 : Sands) (gates1 : (List Int)) (minute2 : Int) : Option m_laurelref01_Flood_R :=
 (m_laurelref01_Height s0 minute2).bind fun t16 =>
 (addc minute2 1).bind fun t18 =>
 (iterM FU (m_laurelref01_Flood_L0 s0 gates1 t16) t18).bind fun o =>
 oc o (fun j => some (⟨0, false, []⟩ : m_laurelref01_Flood_R)) (fun r_2 => some r_2)
set_option maxRecDepth 100000 in
set_option maxHeartbeats 4000000 in
theorem c_laurelref01_Flood (s0 : Sands) (gates1 : (List Int)) (minute2 : Int) (qa0 : Option Addr) (na0 ca0 : Nat) (qa1 : Option Addr) (na1 ca1 : Nat) (qa2 : Option Addr) (na2 ca2 : Nat) (qa3 : Option Addr) (na3 ca3 : Nat) (w : World) (hw : HV w (keys [] []) [] [] [(aB qa0, aO qa0, RW.enc s0.table), (aB qa1, aO qa1, RI.enc s0.floors), (aB qa2, aO qa2, RS.enc s0.sills), (aB qa3, aO qa3, RI.enc gates1)] w) (hna0 : s0.table.length = na0) (hqa0 : AOK na0 qa0) (hla0 : na0 ≤ ca0) (hna1 : s0.floors.length = na1) (hqa1 : AOK na1 qa1) (hla1 : na1 ≤ ca1) (hna2 : s0.sills.length = na2) (hqa2 : AOK na2 qa2) (hla2 : na2 ≤ ca2) (hna3 : gates1.length = na3) (hqa3 : AOK na3 qa3) (hla3 : na3 ≤ ca3) {res : m_laurelref01_Flood_R} (hm : m_laurelref01_Flood s0 gates1 minute2 = some res) :
    Calls Try.prog 74 #[.agg #[.slice qa0 na0 ca0, .int .i64 s0.wind.lo, .int .i64 s0.wind.hi, .slice qa1 na1 ca1, .slice qa2 na2 ca2], .slice qa3 na3 ca3, .int .i64 minute2] w (fun en w' => ∃ l : VL, en = .returned (.tuple #[.int .i64 res.r0, slv l.q l.n l.cap, .bool res.r2]) ∧ (VOK 1 l.n l.cap (RI.enc res.r1) l.sp l.q) ∧ HV w (keys [] []) [] [⟨3, RI.enc res.r1, l.sp, l.q⟩] [] w') := by
  unfold m_laurelref01_Flood at hm
  refine g_enter (args := [.agg #[.slice qa0 na0 ca0, .int .i64 s0.wind.lo, .int .i64 s0.wind.hi, .slice qa1 na1 ca1, .slice qa2 na2 ca2], .slice qa3 na3 ca3, .int .i64 minute2]) Try.func74 rfl Try.ntmps74 rfl (e := [(0, _), (1, _), (2, _)]) rfl (H := HV w (keys [] []) [] [] [(aB qa0, aO qa0, RW.enc s0.table), (aB qa1, aO qa1, RI.enc s0.floors), (aB qa2, aO qa2, RS.enc s0.sills), (aB qa3, aO qa3, RI.enc gates1)]) hw ?_
  refine g_seq ?_
  refine g_region ?_
  refine g_boxV rfl rfl (fun b h2 => ?_)
  refine g_val rfl rfl rfl (fun _ _ => v_assign rfl) ?_
  refine g_val rfl rfl rfl (fun _ _ => v_nilS rfl) ?_
  refine g_val rfl rfl rfl (fun _ _ => v_assign rfl) ?_
  refine g_nil ?_
  refine g_n_then ?_
  refine g_seq ?_
  refine g_region ?_
  refine g_val rfl rfl rfl (fun w hh => v_loadAgg (vs := [_, _, _, _, _]) (Try.isAgg59 w) (Try.sizeOf59 w) rfl (hh.cells 0 rfl rfl)) ?_
  refine g_val rfl rfl rfl (fun _ _ => v_move rfl) ?_
  obtain ⟨t16, h3, hm⟩ := bindO hm
  refine g_callH [] [] rfl rfl rfl rfl rfl rfl rfl (fun a w => Try.call35 a w) (fun w hh => c_laurelref01_Height s0 minute2 qa0 na0 ca0 qa1 na1 ca1 qa2 na2 ca2 w (HV.callee (S0 := []) (vs0 := []) hh (roC (hh.rsep (S0 := []) (vs0 := []) 0 rfl) (roC (hh.rsep (S0 := []) (vs0 := []) 1 rfl) (roC (hh.rsep (S0 := []) (vs0 := []) 2 rfl) roN)))) hna0 hqa0 hla0 hna1 hqa1 hla1 hna2 hqa2 hla2 h3) (fun l h4 => ?_)
  refine g_val rfl rfl rfl (fun _ _ => v_assign rfl) ?_
  refine g_nil ?_
  refine g_n_then ?_
  refine g_seq ?_
  refine g_seq ?_
  refine g_region ?_
  refine g_val rfl rfl rfl (fun _ _ => v_move rfl) ?_
  obtain ⟨t18, h5, hm⟩ := bindO hm
  refine g_val rfl rfl rfl (fun _ _ => v_addc h5 rfl rfl) ?_
  refine g_val rfl rfl rfl (fun _ _ => v_assign rfl) ?_
  refine g_nil ?_
  refine g_n_then ?_
  obtain ⟨o, h6, h7⟩ := bindO hm
  refine g_cut (ι := Unit) (fun j => o = .inl j) (fun j => []) (fun j => [(b, .cells #[.slice qa0 na0 ca0, .int .i64 s0.wind.lo, .int .i64 s0.wind.hi, .slice qa1 na1 ca1, .slice qa2 na2 ca2] 59 (0, 0))]) (fun j => []) ?_ ?_
  ·replace hm := h6
   refine g_block ?_
   refine g_loopF (ι := Unit) hm (fun s l_1 => True) (fun s l_1 => [(1, .slice qa3 na3 ca3), (3, ptr b 0), (9, .int .i64 t16), (10, .int .i64 s)]) (fun s l_1 => [(b, .cells #[.slice qa0 na0 ca0, .int .i64 s0.wind.lo, .int .i64 s0.wind.hi, .slice qa1 na1 ca1, .slice qa2 na2 ca2] 59 (0, 0))]) (fun s l_1 => []) () (trivial) ((.cons rfl (.cons rfl (.cons rfl (.cons rfl .nil))))) (fun w hh => hh) (fun s l_1 r hpl hm h8 => ?_)
   unfold m_laurelref01_Flood_L0 at hm
   refine g_seq ?_
   refine g_seq ?_
   refine g_region ?_
   refine g_val rfl rfl rfl (fun _ _ => v_move rfl) ?_
   refine g_val rfl rfl rfl (fun w hh => v_loadAgg (vs := [_, _, _, _, _]) (Try.isAgg59 w) (Try.sizeOf59 w) rfl (hh.cells 0 rfl rfl)) ?_
   obtain ⟨t21, h9, hm⟩ := bindO hm
   refine g_callH [] [] rfl rfl rfl rfl rfl rfl rfl (fun a w => Try.call109 a w) (fun w hh => c_laurelref01_Last s0 qa0 na0 ca0 qa1 na1 ca1 qa2 na2 ca2 w (HV.callee (S0 := []) (vs0 := []) hh (roC (hh.rsep (S0 := []) (vs0 := []) 0 rfl) (roC (hh.rsep (S0 := []) (vs0 := []) 1 rfl) (roC (hh.rsep (S0 := []) (vs0 := []) 2 rfl) roN)))) hna0 hqa0 hla0 hna1 hqa1 hla1 hna2 hqa2 hla2 h9) (fun l_2 h10 => ?_)
   refine g_val rfl rfl rfl (fun _ _ => v_leq rfl rfl) ?_
   refine g_nil ?_
   refine g_n_then ?_
   refine g_cond rfl (fun h11 => ?_) (fun h11 => ?_)
   ·replace hm := ifT (of_decide_eq_true h11) hm
    refine g_skip ?_
    refine g_n_then ?_
    refine g_seq ?_
    refine g_block ?_
    refine g_seq ?_
    refine g_region ?_
    refine g_val rfl rfl rfl (fun _ _ => v_nilS rfl) ?_
    refine g_nil ?_
    refine g_n_then ?_
    refine g_seq ?_
    refine g_region ?_
    refine g_val rfl rfl rfl (fun w hh => v_loadAgg (vs := [_, _, _, _, _]) (Try.isAgg59 w) (Try.sizeOf59 w) rfl (hh.cells 0 rfl rfl)) ?_
    refine g_val rfl rfl rfl (fun _ _ => v_move rfl) ?_
    obtain ⟨t27, h12, hm⟩ := bindO hm
    refine g_callH [] [] rfl rfl rfl rfl rfl rfl rfl (fun a w => Try.call35 a w) (fun w hh => c_laurelref01_Height s0 s qa0 na0 ca0 qa1 na1 ca1 qa2 na2 ca2 w (HV.callee (S0 := []) (vs0 := []) hh (roC (hh.rsep (S0 := []) (vs0 := []) 0 rfl) (roC (hh.rsep (S0 := []) (vs0 := []) 1 rfl) (roC (hh.rsep (S0 := []) (vs0 := []) 2 rfl) roN)))) hna0 hqa0 hla0 hna1 hqa1 hla1 hna2 hqa2 hla2 h12) (fun l_3 h13 => ?_)
    refine g_val rfl rfl rfl (fun _ _ => v_assign rfl) ?_
    refine g_nil ?_
    refine g_n_then ?_
    refine g_seq ?_
    refine g_seq ?_
    refine g_region ?_
    refine g_val rfl rfl rfl (fun _ _ => v_assign rfl) ?_
    refine g_nil ?_
    refine g_n_then ?_
    refine g_vnil 3 ?_
    obtain ⟨o_1, h14, h15⟩ := bindO hm
    refine g_cut (ι := VL) (fun l_4 => VOK 1 l_4.n l_4.cap (RI.enc o_1) l_4.sp l_4.q) (fun l_4 => [(1, .slice qa3 na3 ca3), (3, ptr b 0), (9, .int .i64 t16), (10, .int .i64 s), (11, slv l_4.q l_4.n l_4.cap)]) (fun l_4 => [(b, .cells #[.slice qa0 na0 ca0, .int .i64 s0.wind.lo, .int .i64 s0.wind.hi, .slice qa1 na1 ca1, .slice qa2 na2 ca2] 59 (0, 0))]) (fun l_4 => [⟨3, RI.enc o_1, l_4.sp, l_4.q⟩]) ?_ ?_
    ·replace hm := h14
     refine g_block ?_
     refine g_loopF (ι := VL) hm (fun s_1 l_5 => VOK 1 l_5.n l_5.cap (RI.enc s_1.out11) l_5.sp l_5.q) (fun s_1 l_5 => [(1, .slice qa3 na3 ca3), (3, ptr b 0), (9, .int .i64 t16), (10, .int .i64 s), (11, slv l_5.q l_5.n l_5.cap), (12, .int .i64 t27), (13, .int .i64 s_1.p13)]) (fun s_1 l_5 => [(b, .cells #[.slice qa0 na0 ca0, .int .i64 s0.wind.lo, .int .i64 s0.wind.hi, .slice qa1 na1 ca1, .slice qa2 na2 ca2] 59 (0, 0))]) (fun s_1 l_5 => [⟨3, RI.enc s_1.out11, l_5.sp, l_5.q⟩]) ⟨none, 0, 0, []⟩ (VOK.nil) ((.cons rfl (.cons rfl (.cons rfl (.cons rfl (.cons rfl (.cons rfl (.cons rfl .nil)))))))) (fun w hh => hh) (fun s_1 l_5 r_1 hpl hm h18 => ?_)
     have h17 := hpl
     unfold m_laurelref01_Flood_L1 at hm
     refine g_seq ?_
     refine g_seq ?_
     refine g_region ?_
     refine g_val rfl rfl rfl (fun _ _ => v_move rfl) ?_
     refine g_val rfl rfl rfl (fun _ _ => v_move rfl) ?_
     refine g_val rfl rfl rfl (fun w _ => v_lenR hna3 (Try.runUnderlying26 w) rfl) ?_
     refine g_val rfl rfl rfl (fun _ _ => v_lss rfl rfl) ?_
     refine g_nil ?_
     refine g_n_then ?_
     refine g_cond rfl (fun h19 => ?_) (fun h19 => ?_)
     ·replace hm := ifT (of_decide_eq_true h19) hm
      refine g_skip ?_
      refine g_n_then ?_
      refine g_seq ?_
      obtain ⟨o_2, h20, h21⟩ := bindO hm
      refine g_cut (ι := VL) (fun l_6 => VOK 1 l_6.n l_6.cap (RI.enc o_2) l_6.sp l_6.q) (fun l_6 => [(1, .slice qa3 na3 ca3), (3, ptr b 0), (9, .int .i64 t16), (10, .int .i64 s), (11, slv l_6.q l_6.n l_6.cap), (12, .int .i64 t27), (13, .int .i64 s_1.p13)]) (fun l_6 => [(b, .cells #[.slice qa0 na0 ca0, .int .i64 s0.wind.lo, .int .i64 s0.wind.hi, .slice qa1 na1 ca1, .slice qa2 na2 ca2] 59 (0, 0))]) (fun l_6 => [⟨3, RI.enc o_2, l_6.sp, l_6.q⟩]) ?_ ?_
      ·replace hm := h20
       refine g_block ?_
       refine g_seq ?_
       obtain ⟨o_3, h23, h24⟩ := bindO hm
       refine g_cut (ι := Unit) (fun l_7 => True) (fun l_7 => [(1, .slice qa3 na3 ca3), (3, ptr b 0), (9, .int .i64 t16), (10, .int .i64 s), (11, slv l_5.q l_5.n l_5.cap), (12, .int .i64 t27), (13, .int .i64 s_1.p13), (51, .bool o_3)]) (fun l_7 => [(b, .cells #[.slice qa0 na0 ca0, .int .i64 s0.wind.lo, .int .i64 s0.wind.hi, .slice qa1 na1 ca1, .slice qa2 na2 ca2] 59 (0, 0))]) (fun l_7 => [⟨3, RI.enc s_1.out11, l_5.sp, l_5.q⟩]) ?_ ?_
       ·replace hm := h23
        refine g_draw none (.hoist 0 (.free 1 (.free 2 (.free 3 (.free 4 (.hoist 5 (.one 6 (.free 7 (.free 8 (.hoist 9 (.free 10 (.free 11 (.free 12 (.free 13 (.hoist 14 (.one 15 (.free 16 (.free 17 .done)))))))))))))))))) _ rfl (by decide +kernel) (fun w k hh => hh.draw k) (fun w hh => hh) ?_
        refine p_hoist rfl rfl rfl rfl (fun w hh => v_loadAgg (vs := [_, _, _, _, _]) (Try.isAgg59 w) (Try.sizeOf59 w) rfl (hh.cells 0 rfl rfl)) ?_
        refine p_free rfl rfl rfl rfl (fun _ _ => v_move rfl) ?_
        refine p_free rfl rfl rfl rfl (fun _ _ => v_move rfl) ?_
        refine p_free rfl rfl rfl rfl (fun _ _ => v_move rfl) ?_
        obtain ⟨t38, h25, hm⟩ := bindO hm
        refine p_free rfl rfl rfl rfl (fun w _ => v_ixR h25 (Try.runUnderlying26 w) (Try.sizeOf3 w) rfl rfl hna3 hqa3) ?_
        refine p_hoist rfl rfl rfl rfl (fun w hh => v_ldE RI 0 h25 (Try.isAgg3 w) rfl (hh.seg 3 rfl) rfl (Nat.add_zero _).symm) ?_
        refine p_one rfl ?_
        obtain ⟨t40, h26, hm⟩ := bindO hm
        refine g_callH [] [] rfl rfl rfl rfl rfl rfl rfl (fun a w => Try.call45 a w) (fun w hh => c_laurelref01_State s0 t16 t38 qa0 na0 ca0 qa1 na1 ca1 qa2 na2 ca2 w (HV.callee (S0 := []) (vs0 := []) hh (roC (hh.rsep (S0 := []) (vs0 := []) 0 rfl) (roC (hh.rsep (S0 := []) (vs0 := []) 1 rfl) (roC (hh.rsep (S0 := []) (vs0 := []) 2 rfl) roN)))) hna0 hqa0 hla0 hna1 hqa1 hla1 hna2 hqa2 hla2 h26) (fun l_8 h27 => ?_)
        refine p_next (fun w hh => hh) ?_
        refine p_free rfl rfl rfl rfl (fun _ _ => v_eql rfl rfl) ?_
        refine p_free rfl rfl rfl rfl (fun _ _ => v_move rfl) ?_
        refine g_case 42 rfl (fun h28 => ?_) (fun h28 => ?_)
        ·replace hm := ifT (of_decide_eq_true h28) hm
         refine p_hoistG rfl rfl rfl rfl rfl rfl (fun w hh => v_loadAgg (vs := [_, _, _, _, _]) (Try.isAgg59 w) (Try.sizeOf59 w) rfl (hh.cells 0 rfl rfl)) ?_
         refine p_freeG rfl rfl rfl rfl rfl rfl (fun _ _ => v_move rfl) ?_
         refine p_freeG rfl rfl rfl rfl rfl rfl (fun _ _ => v_move rfl) ?_
         refine p_freeG rfl rfl rfl rfl rfl rfl (fun _ _ => v_move rfl) ?_
         obtain ⟨t47, h29, hm⟩ := bindO hm
         refine p_freeG rfl rfl rfl rfl rfl rfl (fun w _ => v_ixR h29 (Try.runUnderlying26 w) (Try.sizeOf3 w) rfl rfl hna3 hqa3) ?_
         refine p_hoistG rfl rfl rfl rfl rfl rfl (fun w hh => v_ldE RI 0 h29 (Try.isAgg3 w) rfl (hh.seg 3 rfl) rfl (Nat.add_zero _).symm) ?_
         refine p_one rfl ?_
         refine v_unguard rfl rfl ?_
         obtain ⟨t49, h30, hm⟩ := bindO hm
         refine g_callH [] [] rfl rfl rfl rfl rfl rfl rfl (fun a w => Try.call45 a w) (fun w hh => c_laurelref01_State s0 t27 t47 qa0 na0 ca0 qa1 na1 ca1 qa2 na2 ca2 w (HV.callee (S0 := []) (vs0 := []) hh (roC (hh.rsep (S0 := []) (vs0 := []) 0 rfl) (roC (hh.rsep (S0 := []) (vs0 := []) 1 rfl) (roC (hh.rsep (S0 := []) (vs0 := []) 2 rfl) roN)))) hna0 hqa0 hla0 hna1 hqa1 hla1 hna2 hqa2 hla2 h30) (fun l_9 h31 => ?_)
         refine p_next (fun w hh => hh) ?_
         refine p_freeG rfl rfl rfl rfl rfl rfl (fun _ _ => v_neq rfl rfl) ?_
         refine p_free rfl rfl rfl rfl (fun _ _ => v_pickT rfl rfl) ?_
         refine p_done ?_
         obtain rfl := Option.some.inj hm
         exact g_leaf () (trivial) ((.cons rfl (.cons rfl (.cons rfl (.cons rfl (.cons rfl (.cons rfl (.cons rfl (.cons rfl .nil))))))))) (fun w hh => hh)
        ·replace hm := ifF (of_decide_eq_false h28) hm
         refine p_skip rfl rfl rfl rfl rfl rfl rfl ?_
         refine p_skipF rfl rfl rfl rfl rfl rfl rfl ?_
         refine p_skipF rfl rfl rfl rfl rfl rfl rfl ?_
         refine p_skipF rfl rfl rfl rfl rfl rfl rfl ?_
         refine p_skipF rfl rfl rfl rfl rfl rfl rfl ?_
         refine p_skip rfl rfl rfl rfl rfl rfl rfl ?_
         refine p_one rfl ?_
         refine g_skipG rfl rfl rfl rfl rfl rfl ?_
         refine p_next (fun w hh => hh) ?_
         refine p_skipF rfl rfl rfl rfl rfl rfl rfl ?_
         refine p_free rfl rfl rfl rfl (fun _ _ => v_pickF rfl rfl) ?_
         refine p_done ?_
         obtain rfl := Option.some.inj hm
         exact g_leaf () (trivial) ((.cons rfl (.cons rfl (.cons rfl (.cons rfl (.cons rfl (.cons rfl (.cons rfl (.cons rfl .nil))))))))) (fun w hh => hh)
       ·intro l_7 hj
        replace hm := h24
        refine g_n_then ?_
        refine g_cond rfl (fun h32 => ?_) (fun h32 => ?_)
        ·replace hm := ifT (h32) hm
         refine g_region ?_
         refine g_val rfl rfl rfl (fun _ _ => v_move rfl) ?_
         refine g_val rfl rfl rfl (fun _ _ => v_move rfl) ?_
         refine g_vlit RI [s_1.p13] (ps := [(0, _)]) (cells := [_]) (fun w => Try.runUnderlying26 w) (fun w => Try.sizeOf3 w) (fun w => Try.zeroValue3 w) rfl rfl rfl rfl rfl rfl rfl rfl (fun L h33 => ?_)
         obtain ⟨t55, h34, hm⟩ := bindO hm
         refine g_vapp RI 1 h34 Try.underlying26 gxinf3 rfl rfl rfl rfl rfl h17 rfl rfl (vlen RI h33 rfl) (AOK.q (vne h33)) (fun w hh => (hh.vsegA 0 rfl h33)) rfl (fun L_1 h35 h35n => ?_)
         refine g_sel (S' := [_]) (vs' := [_, _]) [0] [0, 1] 0 (by decide) (by decide) rfl rfl rfl ?_
         refine g_val rfl rfl rfl (fun _ _ => v_assign rfl) ?_
         refine g_nil ?_
         refine g_n_blk ?_
         obtain rfl := Option.some.inj hm
         exact g_leaf L_1 (h35) ((.cons rfl (.cons rfl (.cons rfl (.cons rfl (.cons rfl (.cons rfl (.cons rfl .nil)))))))) (fun w hh => hh.sel [0] [1] 0 (by decide) (by decide) rfl rfl rfl)
        ·replace hm := ifF ((fun hh => Bool.noConfusion ((h32).symm.trans hh))) hm
         refine g_skip ?_
         refine g_n_blk ?_
         obtain rfl := Option.some.inj hm
         exact g_leaf l_5 (h17) ((.cons rfl (.cons rfl (.cons rfl (.cons rfl (.cons rfl (.cons rfl (.cons rfl .nil)))))))) (fun w hh => hh)
      ·intro l_6 hj
       have h22 := hj
       replace hm := h21
       refine g_n_then ?_
       refine g_region ?_
       refine g_val rfl rfl rfl (fun _ _ => v_move rfl) ?_
       obtain ⟨t33, h36, hm⟩ := bindO hm
       refine g_val rfl rfl rfl (fun _ _ => v_addc h36 rfl rfl) ?_
       refine g_val rfl rfl rfl (fun _ _ => v_assign rfl) ?_
       refine g_nil ?_
       obtain rfl := Option.some.inj hm
       refine g_n_then ?_
       exact g_again' _ l_6 rfl (h22) ((.cons rfl (.cons rfl (.cons rfl (.cons rfl (.cons rfl (.cons rfl (.cons rfl .nil)))))))) (fun w hh => hh)
     ·replace hm := ifF (of_decide_eq_false h19) hm
      refine g_exit ?_
      refine g_x_then ?_
      refine g_x_then ?_
      refine g_x_blk ?_
      obtain rfl := Option.some.inj hm
      have hbo := h18 _ rfl
      subst hbo
      exact g_leaf l_5 (h17) ((.cons rfl (.cons rfl (.cons rfl (.cons rfl (.cons rfl .nil)))))) (fun w hh => hh)
    ·intro l_4 hj
     have h16 := hj
     replace hm := h15
     refine g_n_then ?_
     refine g_seq ?_
     refine g_region ?_
     refine g_val rfl rfl rfl (fun _ _ => v_move rfl) ?_
     refine g_val rfl rfl rfl (fun w _ => v_lenN (vlen RI h16 rfl) (Try.runUnderlying26 w) rfl) ?_
     refine g_val rfl rfl rfl (fun _ _ => v_gtr rfl rfl) ?_
     refine g_nil ?_
     refine g_n_then ?_
     refine g_cond rfl (fun h37 => ?_) (fun h37 => ?_)
     ·replace hm := ifT (of_decide_eq_true h37) hm
      refine g_seq ?_
      refine g_region ?_
      refine g_val rfl rfl rfl (fun _ _ => v_move rfl) ?_
      refine g_val rfl rfl rfl (fun _ _ => v_move rfl) ?_
      refine g_val rfl rfl rfl (fun _ _ => v_assign rfl) ?_
      refine g_val rfl rfl rfl (fun _ _ => v_assign rfl) ?_
      refine g_val rfl rfl rfl (fun _ _ => v_assign rfl) ?_
      refine g_nil ?_
      refine g_n_then ?_
      refine g_ret ?_
      refine g_r_blk ?_
      refine g_r_then ?_
      refine g_r_then ?_
      refine g_r_blk ?_
      obtain rfl := Option.some.inj hm
      have hbo := h8 _ rfl
      subst hbo
      refine g_r_then ?_
      replace hm := ocR h7
      refine g_r_then ?_
      obtain rfl := Option.some.inj hm
      refine g_done rfl (fun w hh => (.tmp rfl (.tmp rfl (.tmp rfl .nil)))) (fun w hh => ⟨l_4, rfl, h16, hh.sel [] [0] 4 (by decide) (by decide) rfl rfl rfl⟩)
     ·replace hm := ifF (of_decide_eq_false h37) hm
      refine g_skip ?_
      refine g_n_blk ?_
      refine g_n_then ?_
      refine g_region ?_
      refine g_val rfl rfl rfl (fun _ _ => v_move rfl) ?_
      obtain ⟨t24, h38, hm⟩ := bindO hm
      refine g_val rfl rfl rfl (fun _ _ => v_addc h38 rfl rfl) ?_
      refine g_val rfl rfl rfl (fun _ _ => v_assign rfl) ?_
      refine g_nil ?_
      obtain rfl := Option.some.inj hm
      refine g_n_then ?_
      exact g_again' _ () rfl (trivial) ((.cons rfl (.cons rfl (.cons rfl (.cons rfl .nil))))) (fun w hh => hh.sel [0] [] 0 (by decide) (by decide) rfl rfl rfl)
   ·replace hm := ifF (of_decide_eq_false h11) hm
    refine g_exit ?_
    refine g_x_then ?_
    refine g_x_then ?_
    refine g_x_blk ?_
    obtain rfl := Option.some.inj hm
    have hbo := h8 _ rfl
    subst hbo
    exact g_leaf () (rfl) (.nil) (fun w hh => hh)
  ·intro j hj
   have h39 := hj
   subst h39
   replace hm := ocL h7
   refine g_n_then ?_
   refine g_seq ?_
   refine g_region ?_
   refine g_val rfl rfl rfl (fun _ _ => v_assign rfl) ?_
   refine g_val rfl rfl rfl (fun _ _ => v_nilS rfl) ?_
   refine g_val rfl rfl rfl (fun _ _ => v_assign rfl) ?_
   refine g_nil ?_
   refine g_n_then ?_
   refine g_ret ?_
   refine g_vnil 3 ?_
   obtain rfl := Option.some.inj hm
   refine g_done rfl (fun w hh => (.tmp rfl (.tmp rfl (.tmp rfl .nil)))) (fun w hh => ⟨⟨none, 0, 0, []⟩, rfl, VOK.nil, hh.sel [] [0] 4 (by decide) (by decide) rfl rfl rfl⟩)
structure m_laurelref01_Together_S0 where
  i9 : Int
  out7 : (List Bool)
structure m_laurelref01_Together_S1 where
  all10 : Bool
  k11 : Int
def m_laurelref01_Together_L1 (places2 : (List Int)) (t13 : (List Int)) (s : m_laurelref01_Together_S0) (gates1 : (List Int)) (s0 : Sands) (s_1 : m_laurelref01_Together_S1) : Option (m_laurelref01_Together_S1 ⊕ Bool) :=
 if s_1.k11 < (places2.length : Int) then
 ((if s_1.all10 = true then
 ((ix t13 s.i9).bind fun t31 =>
 (ix places2 s_1.k11).bind fun t36 =>
 (ix gates1 t36).bind fun t38 =>
 (m_laurelref01_State s0 t31 t38).bind fun t40 =>
 some (decide (t40 = 0))) else
 (some false)).bind fun o_2 =>
 (addc s_1.k11 1).bind fun t25 =>
 some (.inl (⟨o_2, t25⟩ : m_laurelref01_Together_S1))) else
 (some (.inr s_1.all10))
def m_laurelref01_Together_L0 (t13 : (List Int)) (places2 : (List Int)) (gates1 : (List Int)) (s0 : Sands) (s : m_laurelref01_Together_S0) : Option (m_laurelref01_Together_S0 ⊕ (List Bool)) :=
 if s.i9 < (t13.length : Int) then
 ((iterM FU (m_laurelref01_Together_L1 places2 t13 s gates1 s0) (⟨true, 0⟩ : m_laurelref01_Together_S1)).bind fun o_1 =>
 (appc 1 s.out7 [o_1]).bind fun t46 =>
 (addc s.i9 1).bind fun t19 =>
 some (.inl (⟨t19, t46⟩ : m_laurelref01_Together_S0))) else
 (some (.inr s.out7))
def m_laurelref01_Together (s0 : Sands) (gates1 : (List Int)) (places2 : (List Int)) : Option (List Bool) :=
 (m_laurelref01_Heights s0).bind fun t13 =>
 (iterM FU (m_laurelref01_Together_L0 t13 places2 gates1 s0) (⟨0, []⟩ : m_laurelref01_Together_S0)).bind fun o =>
 some o
set_option maxRecDepth 100000 in
set_option maxHeartbeats 4000000 in
theorem c_laurelref01_Together (s0 : Sands) (gates1 : (List Int)) (places2 : (List Int)) (qa0 : Option Addr) (na0 ca0 : Nat) (qa1 : Option Addr) (na1 ca1 : Nat) (qa2 : Option Addr) (na2 ca2 : Nat) (qa3 : Option Addr) (na3 ca3 : Nat) (qa4 : Option Addr) (na4 ca4 : Nat) (w : World) (hw : HV w (keys [] []) [] [] [(aB qa0, aO qa0, RW.enc s0.table), (aB qa1, aO qa1, RI.enc s0.floors), (aB qa2, aO qa2, RS.enc s0.sills), (aB qa3, aO qa3, RI.enc gates1), (aB qa4, aO qa4, RI.enc places2)] w) (hna0 : s0.table.length = na0) (hqa0 : AOK na0 qa0) (hla0 : na0 ≤ ca0) (hna1 : s0.floors.length = na1) (hqa1 : AOK na1 qa1) (hla1 : na1 ≤ ca1) (hna2 : s0.sills.length = na2) (hqa2 : AOK na2 qa2) (hla2 : na2 ≤ ca2) (hna3 : gates1.length = na3) (hqa3 : AOK na3 qa3) (hla3 : na3 ≤ ca3) (hna4 : places2.length = na4) (hqa4 : AOK na4 qa4) (hla4 : na4 ≤ ca4) {res : (List Bool)} (hm : m_laurelref01_Together s0 gates1 places2 = some res) :
    Calls Try.prog 76 #[.agg #[.slice qa0 na0 ca0, .int .i64 s0.wind.lo, .int .i64 s0.wind.hi, .slice qa1 na1 ca1, .slice qa2 na2 ca2], .slice qa3 na3 ca3, .slice qa4 na4 ca4] w (fun en w' => ∃ l : VL, en = .returned (slv l.q l.n l.cap) ∧ (VOK 1 l.n l.cap (RB.enc res) l.sp l.q) ∧ HV w (keys [] []) [] [⟨4, RB.enc res, l.sp, l.q⟩] [] w') := by
  unfold m_laurelref01_Together at hm
  refine g_enter (args := [.agg #[.slice qa0 na0 ca0, .int .i64 s0.wind.lo, .int .i64 s0.wind.hi, .slice qa1 na1 ca1, .slice qa2 na2 ca2], .slice qa3 na3 ca3, .slice qa4 na4 ca4]) Try.func76 rfl Try.ntmps76 rfl (e := [(0, _), (1, _), (2, _)]) rfl (H := HV w (keys [] []) [] [] [(aB qa0, aO qa0, RW.enc s0.table), (aB qa1, aO qa1, RI.enc s0.floors), (aB qa2, aO qa2, RS.enc s0.sills), (aB qa3, aO qa3, RI.enc gates1), (aB qa4, aO qa4, RI.enc places2)]) hw ?_
  refine g_seq ?_
  refine g_region ?_
  refine g_boxV rfl rfl (fun b h2 => ?_)
  refine g_val rfl rfl rfl (fun _ _ => v_nilS rfl) ?_
  refine g_nil ?_
  refine g_n_then ?_
  refine g_seq ?_
  refine g_region ?_
  refine g_val rfl rfl rfl (fun _ _ => v_nilS rfl) ?_
  refine g_nil ?_
  refine g_n_then ?_
  refine g_seq ?_
  refine g_region ?_
  refine g_val rfl rfl rfl (fun w hh => v_loadAgg (vs := [_, _, _, _, _]) (Try.isAgg59 w) (Try.sizeOf59 w) rfl (hh.cells 0 rfl rfl)) ?_
  obtain ⟨t13, h3, hm⟩ := bindO hm
  refine g_callH [] [] rfl rfl rfl rfl rfl rfl rfl (fun a w => Try.call120 a w) (fun w hh => c_laurelref01_Heights s0 qa0 na0 ca0 qa1 na1 ca1 qa2 na2 ca2 w (HV.callee (S0 := []) (vs0 := []) hh (roC (hh.rsep (S0 := []) (vs0 := []) 0 rfl) (roC (hh.rsep (S0 := []) (vs0 := []) 1 rfl) (roC (hh.rsep (S0 := []) (vs0 := []) 2 rfl) roN)))) hna0 hqa0 hla0 hna1 hqa1 hla1 hna2 hqa2 hla2 h3) (fun l h4 => ?_)
  have h5 := h4
  refine g_sel (S' := [_]) (vs' := [_]) [0] [0] 0 (by decide) (by decide) rfl rfl rfl ?_
  refine g_val rfl rfl rfl (fun _ _ => v_assign rfl) ?_
  refine g_nil ?_
  refine g_n_then ?_
  refine g_seq ?_
  refine g_seq ?_
  refine g_region ?_
  refine g_val rfl rfl rfl (fun _ _ => v_assign rfl) ?_
  refine g_nil ?_
  refine g_n_then ?_
  refine g_vnil 4 ?_
  obtain ⟨o, h6, h7⟩ := bindO hm
  refine g_cut (ι := VL) (fun l_1 => VOK 1 l_1.n l_1.cap (RB.enc o) l_1.sp l_1.q) (fun l_1 => [(7, slv l_1.q l_1.n l_1.cap)]) (fun l_1 => [(b, .cells #[.slice qa0 na0 ca0, .int .i64 s0.wind.lo, .int .i64 s0.wind.hi, .slice qa1 na1 ca1, .slice qa2 na2 ca2] 59 (0, 0))]) (fun l_1 => [⟨4, RB.enc o, l_1.sp, l_1.q⟩]) ?_ ?_
  ·replace hm := h6
   refine g_block ?_
   refine g_loopF (ι := VL) hm (fun s l_2 => VOK 1 l_2.n l_2.cap (RB.enc s.out7) l_2.sp l_2.q) (fun s l_2 => [(1, .slice qa3 na3 ca3), (2, .slice qa4 na4 ca4), (3, ptr b 0), (7, slv l_2.q l_2.n l_2.cap), (8, slv l.q l.n l.cap), (9, .int .i64 s.i9)]) (fun s l_2 => [(b, .cells #[.slice qa0 na0 ca0, .int .i64 s0.wind.lo, .int .i64 s0.wind.hi, .slice qa1 na1 ca1, .slice qa2 na2 ca2] 59 (0, 0))]) (fun s l_2 => [⟨4, RB.enc s.out7, l_2.sp, l_2.q⟩, ⟨3, RI.enc t13, l.sp, l.q⟩]) ⟨none, 0, 0, []⟩ (VOK.nil) ((.cons rfl (.cons rfl (.cons rfl (.cons rfl (.cons rfl (.cons rfl .nil))))))) (fun w hh => hh) (fun s l_2 r hpl hm h10 => ?_)
   have h9 := hpl
   unfold m_laurelref01_Together_L0 at hm
   refine g_seq ?_
   refine g_seq ?_
   refine g_region ?_
   refine g_val rfl rfl rfl (fun _ _ => v_move rfl) ?_
   refine g_val rfl rfl rfl (fun _ _ => v_move rfl) ?_
   refine g_val rfl rfl rfl (fun w _ => v_lenN (vlen RI h5 rfl) (Try.runUnderlying26 w) rfl) ?_
   refine g_val rfl rfl rfl (fun _ _ => v_lss rfl rfl) ?_
   refine g_nil ?_
   refine g_n_then ?_
   refine g_cond rfl (fun h11 => ?_) (fun h11 => ?_)
   ·replace hm := ifT (of_decide_eq_true h11) hm
    refine g_skip ?_
    refine g_n_then ?_
    refine g_seq ?_
    refine g_block ?_
    refine g_seq ?_
    refine g_region ?_
    refine g_val rfl rfl rfl (fun _ _ => v_assign rfl) ?_
    refine g_nil ?_
    refine g_n_then ?_
    refine g_seq ?_
    refine g_seq ?_
    refine g_region ?_
    refine g_val rfl rfl rfl (fun _ _ => v_assign rfl) ?_
    refine g_nil ?_
    refine g_n_then ?_
    obtain ⟨o_1, h12, h13⟩ := bindO hm
    refine g_cut (ι := Unit) (fun l_3 => True) (fun l_3 => [(1, .slice qa3 na3 ca3), (2, .slice qa4 na4 ca4), (3, ptr b 0), (7, slv l_2.q l_2.n l_2.cap), (8, slv l.q l.n l.cap), (9, .int .i64 s.i9), (10, .bool o_1)]) (fun l_3 => [(b, .cells #[.slice qa0 na0 ca0, .int .i64 s0.wind.lo, .int .i64 s0.wind.hi, .slice qa1 na1 ca1, .slice qa2 na2 ca2] 59 (0, 0))]) (fun l_3 => [⟨4, RB.enc s.out7, l_2.sp, l_2.q⟩, ⟨3, RI.enc t13, l.sp, l.q⟩]) ?_ ?_
    ·replace hm := h12
     refine g_block ?_
     refine g_loopF (ι := Unit) hm (fun s_1 l_4 => True) (fun s_1 l_4 => [(1, .slice qa3 na3 ca3), (2, .slice qa4 na4 ca4), (3, ptr b 0), (7, slv l_2.q l_2.n l_2.cap), (8, slv l.q l.n l.cap), (9, .int .i64 s.i9), (10, .bool s_1.all10), (11, .int .i64 s_1.k11)]) (fun s_1 l_4 => [(b, .cells #[.slice qa0 na0 ca0, .int .i64 s0.wind.lo, .int .i64 s0.wind.hi, .slice qa1 na1 ca1, .slice qa2 na2 ca2] 59 (0, 0))]) (fun s_1 l_4 => [⟨4, RB.enc s.out7, l_2.sp, l_2.q⟩, ⟨3, RI.enc t13, l.sp, l.q⟩]) () (trivial) ((.cons rfl (.cons rfl (.cons rfl (.cons rfl (.cons rfl (.cons rfl (.cons rfl (.cons rfl .nil))))))))) (fun w hh => hh) (fun s_1 l_4 r_1 hpl hm h14 => ?_)
     unfold m_laurelref01_Together_L1 at hm
     refine g_seq ?_
     refine g_seq ?_
     refine g_region ?_
     refine g_val rfl rfl rfl (fun _ _ => v_move rfl) ?_
     refine g_val rfl rfl rfl (fun _ _ => v_move rfl) ?_
     refine g_val rfl rfl rfl (fun w _ => v_lenR hna4 (Try.runUnderlying26 w) rfl) ?_
     refine g_val rfl rfl rfl (fun _ _ => v_lss rfl rfl) ?_
     refine g_nil ?_
     refine g_n_then ?_
     refine g_cond rfl (fun h15 => ?_) (fun h15 => ?_)
     ·replace hm := ifT (of_decide_eq_true h15) hm
      refine g_skip ?_
      refine g_n_then ?_
      refine g_seq ?_
      obtain ⟨o_2, h16, h17⟩ := bindO hm
      refine g_cut (ι := Unit) (fun l_5 => True) (fun l_5 => [(1, .slice qa3 na3 ca3), (2, .slice qa4 na4 ca4), (3, ptr b 0), (7, slv l_2.q l_2.n l_2.cap), (8, slv l.q l.n l.cap), (9, .int .i64 s.i9), (10, .bool o_2), (11, .int .i64 s_1.k11)]) (fun l_5 => [(b, .cells #[.slice qa0 na0 ca0, .int .i64 s0.wind.lo, .int .i64 s0.wind.hi, .slice qa1 na1 ca1, .slice qa2 na2 ca2] 59 (0, 0))]) (fun l_5 => [⟨4, RB.enc s.out7, l_2.sp, l_2.q⟩, ⟨3, RI.enc t13, l.sp, l.q⟩]) ?_ ?_
      ·replace hm := h16
       refine g_block ?_
       refine g_draw none (.free 0 (.free 1 (.hoist 2 (.free 3 (.free 4 (.free 5 (.hoist 6 (.free 7 (.free 8 (.free 9 (.free 10 (.hoist 11 (.free 12 (.hoist 13 (.one 14 (.free 15 (.free 16 (.free 17 .done)))))))))))))))))) _ rfl (by decide +kernel) (fun w k hh => hh.draw k) (fun w hh => hh) ?_
       refine p_free rfl rfl rfl rfl (fun _ _ => v_move rfl) ?_
       refine p_free rfl rfl rfl rfl (fun _ _ => v_move rfl) ?_
       refine g_case 27 rfl (fun h18 => ?_) (fun h18 => ?_)
       ·replace hm := ifT (h18) hm
        refine p_hoistG rfl rfl rfl rfl rfl rfl (fun w hh => v_loadAgg (vs := [_, _, _, _, _]) (Try.isAgg59 w) (Try.sizeOf59 w) rfl (hh.cells 0 rfl rfl)) ?_
        refine p_freeG rfl rfl rfl rfl rfl rfl (fun _ _ => v_move rfl) ?_
        refine p_freeG rfl rfl rfl rfl rfl rfl (fun _ _ => v_move rfl) ?_
        obtain ⟨t31, h19, hm⟩ := bindO hm
        refine p_freeG rfl rfl rfl rfl rfl rfl (fun w _ => v_ixA h19 (Try.runUnderlying26 w) (Try.sizeOf3 w) rfl rfl (vlen RI h5 rfl) (vne h5)) ?_
        refine p_hoistG rfl rfl rfl rfl rfl rfl (fun w hh => v_ldE RI 0 h19 (Try.isAgg3 w) rfl (hh.vseg 1 rfl h5) rfl (Nat.add_zero _).symm) ?_
        refine p_freeG rfl rfl rfl rfl rfl rfl (fun _ _ => v_move rfl) ?_
        refine p_freeG rfl rfl rfl rfl rfl rfl (fun _ _ => v_move rfl) ?_
        refine p_freeG rfl rfl rfl rfl rfl rfl (fun _ _ => v_move rfl) ?_
        obtain ⟨t36, h20, hm⟩ := bindO hm
        refine p_freeG rfl rfl rfl rfl rfl rfl (fun w _ => v_ixR h20 (Try.runUnderlying26 w) (Try.sizeOf3 w) rfl rfl hna4 hqa4) ?_
        refine p_hoistG rfl rfl rfl rfl rfl rfl (fun w hh => v_ldE RI 0 h20 (Try.isAgg3 w) rfl (hh.seg 4 rfl) rfl (Nat.add_zero _).symm) ?_
        obtain ⟨t38, h21, hm⟩ := bindO hm
        refine p_freeG rfl rfl rfl rfl rfl rfl (fun w _ => v_ixR h21 (Try.runUnderlying26 w) (Try.sizeOf3 w) rfl rfl hna3 hqa3) ?_
        refine p_hoistG rfl rfl rfl rfl rfl rfl (fun w hh => v_ldE RI 0 h21 (Try.isAgg3 w) rfl (hh.seg 3 rfl) rfl (Nat.add_zero _).symm) ?_
        refine p_one rfl ?_
        refine v_unguard rfl rfl ?_
        obtain ⟨t40, h22, hm⟩ := bindO hm
        refine g_callH [] [] rfl rfl rfl rfl rfl rfl rfl (fun a w => Try.call45 a w) (fun w hh => c_laurelref01_State s0 t31 t38 qa0 na0 ca0 qa1 na1 ca1 qa2 na2 ca2 w (HV.callee (S0 := []) (vs0 := []) hh (roC (hh.rsep (S0 := []) (vs0 := []) 0 rfl) (roC (hh.rsep (S0 := []) (vs0 := []) 1 rfl) (roC (hh.rsep (S0 := []) (vs0 := []) 2 rfl) roN)))) hna0 hqa0 hla0 hna1 hqa1 hla1 hna2 hqa2 hla2 h22) (fun l_6 h23 => ?_)
        refine p_next (fun w hh => hh) ?_
        refine p_freeG rfl rfl rfl rfl rfl rfl (fun _ _ => v_eql rfl rfl) ?_
        refine p_free rfl rfl rfl rfl (fun _ _ => v_pickT rfl rfl) ?_
        refine p_free rfl rfl rfl rfl (fun _ _ => v_assign rfl) ?_
        refine p_done ?_
        refine g_n_blk ?_
        obtain rfl := Option.some.inj hm
        exact g_leaf () (trivial) ((.cons rfl (.cons rfl (.cons rfl (.cons rfl (.cons rfl (.cons rfl (.cons rfl (.cons rfl .nil))))))))) (fun w hh => hh)
       ·replace hm := ifF ((fun hh => Bool.noConfusion ((h18).symm.trans hh))) hm
        refine p_skip rfl rfl rfl rfl rfl rfl rfl ?_
        refine p_skipF rfl rfl rfl rfl rfl rfl rfl ?_
        refine p_skipF rfl rfl rfl rfl rfl rfl rfl ?_
        refine p_skipF rfl rfl rfl rfl rfl rfl rfl ?_
        refine p_skip rfl rfl rfl rfl rfl rfl rfl ?_
        refine p_skipF rfl rfl rfl rfl rfl rfl rfl ?_
        refine p_skipF rfl rfl rfl rfl rfl rfl rfl ?_
        refine p_skipF rfl rfl rfl rfl rfl rfl rfl ?_
        refine p_skipF rfl rfl rfl rfl rfl rfl rfl ?_
        refine p_skip rfl rfl rfl rfl rfl rfl rfl ?_
        refine p_skipF rfl rfl rfl rfl rfl rfl rfl ?_
        refine p_skip rfl rfl rfl rfl rfl rfl rfl ?_
        refine p_one rfl ?_
        refine g_skipG rfl rfl rfl rfl rfl rfl ?_
        refine p_next (fun w hh => hh) ?_
        refine p_skipF rfl rfl rfl rfl rfl rfl rfl ?_
        refine p_free rfl rfl rfl rfl (fun _ _ => v_pickF rfl rfl) ?_
        refine p_free rfl rfl rfl rfl (fun _ _ => v_assign rfl) ?_
        refine p_done ?_
        refine g_n_blk ?_
        obtain rfl := Option.some.inj hm
        exact g_leaf () (trivial) ((.cons rfl (.cons rfl (.cons rfl (.cons rfl (.cons rfl (.cons rfl (.cons rfl (.cons rfl .nil))))))))) (fun w hh => hh)
      ·intro l_5 hj
       replace hm := h17
       refine g_n_then ?_
       refine g_region ?_
       refine g_val rfl rfl rfl (fun _ _ => v_move rfl) ?_
       obtain ⟨t25, h24, hm⟩ := bindO hm
       refine g_val rfl rfl rfl (fun _ _ => v_addc h24 rfl rfl) ?_
       refine g_val rfl rfl rfl (fun _ _ => v_assign rfl) ?_
       refine g_nil ?_
       obtain rfl := Option.some.inj hm
       refine g_n_then ?_
       exact g_again' _ () rfl (trivial) ((.cons rfl (.cons rfl (.cons rfl (.cons rfl (.cons rfl (.cons rfl (.cons rfl (.cons rfl .nil))))))))) (fun w hh => hh)
     ·replace hm := ifF (of_decide_eq_false h15) hm
      refine g_exit ?_
      refine g_x_then ?_
      refine g_x_then ?_
      refine g_x_blk ?_
      obtain rfl := Option.some.inj hm
      have hbo := h14 _ rfl
      subst hbo
      exact g_leaf () (trivial) ((.cons rfl (.cons rfl (.cons rfl (.cons rfl (.cons rfl (.cons rfl (.cons rfl .nil)))))))) (fun w hh => hh)
    ·intro l_3 hj
     replace hm := h13
     refine g_n_then ?_
     refine g_region ?_
     refine g_val rfl rfl rfl (fun _ _ => v_move rfl) ?_
     refine g_val rfl rfl rfl (fun _ _ => v_move rfl) ?_
     refine g_vlit RB [o_1] (ps := [(0, _)]) (cells := [_]) (fun w => Try.runUnderlying81 w) (fun w => Try.sizeOf4 w) (fun w => Try.zeroValue4 w) rfl rfl rfl rfl rfl rfl rfl rfl (fun L h25 => ?_)
     obtain ⟨t46, h26, hm⟩ := bindO hm
     refine g_vapp RB 1 h26 Try.underlying81 gxinf4 rfl rfl rfl rfl rfl h9 rfl rfl (vlen RB h25 rfl) (AOK.q (vne h25)) (fun w hh => (hh.vsegA 0 rfl h25)) rfl (fun L_1 h27 h27n => ?_)
     refine g_sel (S' := [_]) (vs' := [_, _, _]) [0] [0, 1, 2] 0 (by decide) (by decide) rfl rfl rfl ?_
     refine g_val rfl rfl rfl (fun _ _ => v_assign rfl) ?_
     refine g_nil ?_
     refine g_n_blk ?_
     refine g_n_then ?_
     refine g_region ?_
     refine g_val rfl rfl rfl (fun _ _ => v_move rfl) ?_
     obtain ⟨t19, h28, hm⟩ := bindO hm
     refine g_val rfl rfl rfl (fun _ _ => v_addc h28 rfl rfl) ?_
     refine g_val rfl rfl rfl (fun _ _ => v_assign rfl) ?_
     refine g_nil ?_
     obtain rfl := Option.some.inj hm
     refine g_n_then ?_
     exact g_again' _ L_1 rfl (h27) ((.cons rfl (.cons rfl (.cons rfl (.cons rfl (.cons rfl (.cons rfl .nil))))))) (fun w hh => hh.sel [0] [1, 2] 0 (by decide) (by decide) rfl rfl rfl)
   ·replace hm := ifF (of_decide_eq_false h11) hm
    refine g_exit ?_
    refine g_x_then ?_
    refine g_x_then ?_
    refine g_x_blk ?_
    obtain rfl := Option.some.inj hm
    have hbo := h10 _ rfl
    subst hbo
    exact g_leaf l_2 (h9) ((.cons rfl .nil)) (fun w hh => hh.sel [0] [0] 0 (by decide) (by decide) rfl rfl rfl)
  ·intro l_1 hj
   have h8 := hj
   replace hm := h7
   refine g_n_then ?_
   refine g_seq ?_
   refine g_region ?_
   refine g_val rfl rfl rfl (fun _ _ => v_move rfl) ?_
   refine g_val rfl rfl rfl (fun _ _ => v_assign rfl) ?_
   refine g_nil ?_
   refine g_n_then ?_
   refine g_ret ?_
   obtain rfl := Option.some.inj hm
   refine g_done rfl (fun w hh => (.tmp rfl .nil)) (fun w hh => ⟨l_1, rfl, h8, hh.sel [] [0] 5 (by decide) (by decide) rfl rfl rfl⟩)
structure m_laurelref01_Longest_R where
  r0 : Span
  r1 : Bool
structure m_laurelref01_Longest_C0 where
  best7_lo : Int
  best7_hi : Int
structure m_laurelref01_Longest_S0 where
  i8 : Int
  best7_lo : Int
  best7_hi : Int
structure m_laurelref01_Longest_C1 where
  best7_lo : Int
  best7_hi : Int
def m_laurelref01_Longest_L0 (t11 : (List Span)) (s : m_laurelref01_Longest_S0) : Option (m_laurelref01_Longest_S0 ⊕ m_laurelref01_Longest_C0) :=
 if s.i8 < (t11.length : Int) then
 (((ix t11 s.i8).bind fun t27 =>
 (ix t11 s.i8).bind fun t32 =>
 (subc t27.hi t32.lo).bind fun t35 =>
 (subc s.best7_hi s.best7_lo).bind fun t40 =>
 if t40 < t35 then
 ((ix t11 s.i8).bind fun t44 =>
 some (⟨t44.lo, t44.hi⟩ : m_laurelref01_Longest_C1)) else
 (some (⟨s.best7_lo, s.best7_hi⟩ : m_laurelref01_Longest_C1))).bind fun o_1 =>
 (addc s.i8 1).bind fun t24 =>
 some (.inl (⟨t24, o_1.best7_lo, o_1.best7_hi⟩ : m_laurelref01_Longest_S0))) else
 (some (.inr (⟨s.best7_lo, s.best7_hi⟩ : m_laurelref01_Longest_C0)))
def m_laurelref01_Longest (s0 : Sands) (says1 : (List Bool)) : Option m_laurelref01_Longest_R :=
 (m_laurelref01_Spans s0 says1).bind fun t11 =>
 if (t11.length : Int) = 0 then
 (some (⟨(⟨0, 0⟩ : Span), false⟩ : m_laurelref01_Longest_R)) else
 ((ix t11 0).bind fun t17 =>
 (iterM FU (m_laurelref01_Longest_L0 t11) (⟨1, t17.lo, t17.hi⟩ : m_laurelref01_Longest_S0)).bind fun o =>
 some (⟨(⟨o.best7_lo, o.best7_hi⟩ : Span), true⟩ : m_laurelref01_Longest_R))
set_option maxRecDepth 100000 in
set_option maxHeartbeats 4000000 in
theorem c_laurelref01_Longest (s0 : Sands) (says1 : (List Bool)) (qa0 : Option Addr) (na0 ca0 : Nat) (qa1 : Option Addr) (na1 ca1 : Nat) (qa2 : Option Addr) (na2 ca2 : Nat) (qa3 : Option Addr) (na3 ca3 : Nat) (w : World) (hw : HV w (keys [] []) [] [] [(aB qa0, aO qa0, RW.enc s0.table), (aB qa1, aO qa1, RI.enc s0.floors), (aB qa2, aO qa2, RS.enc s0.sills), (aB qa3, aO qa3, RB.enc says1)] w) (hna0 : s0.table.length = na0) (hqa0 : AOK na0 qa0) (hla0 : na0 ≤ ca0) (hna1 : s0.floors.length = na1) (hqa1 : AOK na1 qa1) (hla1 : na1 ≤ ca1) (hna2 : s0.sills.length = na2) (hqa2 : AOK na2 qa2) (hla2 : na2 ≤ ca2) (hna3 : says1.length = na3) (hqa3 : AOK na3 qa3) (hla3 : na3 ≤ ca3) {res : m_laurelref01_Longest_R} (hm : m_laurelref01_Longest s0 says1 = some res) :
    Calls Try.prog 75 #[.agg #[.slice qa0 na0 ca0, .int .i64 s0.wind.lo, .int .i64 s0.wind.hi, .slice qa1 na1 ca1, .slice qa2 na2 ca2], .slice qa3 na3 ca3] w (fun en w' => ∃ l : Unit, en = .returned (.tuple #[.agg #[.int .i64 res.r0.lo, .int .i64 res.r0.hi], .bool res.r1]) ∧ (True) ∧ HV w (keys [] []) [] [] [] w') := by
  unfold m_laurelref01_Longest at hm
  refine g_enter (args := [.agg #[.slice qa0 na0 ca0, .int .i64 s0.wind.lo, .int .i64 s0.wind.hi, .slice qa1 na1 ca1, .slice qa2 na2 ca2], .slice qa3 na3 ca3]) Try.func75 rfl Try.ntmps75 rfl (e := [(0, _), (1, _)]) rfl (H := HV w (keys [] []) [] [] [(aB qa0, aO qa0, RW.enc s0.table), (aB qa1, aO qa1, RI.enc s0.floors), (aB qa2, aO qa2, RS.enc s0.sills), (aB qa3, aO qa3, RB.enc says1)]) hw ?_
  refine g_seq ?_
  refine g_region ?_
  refine g_boxV rfl rfl (fun b h1 => ?_)
  refine g_allocV (fun w => Try.zeroValue25 w) rfl (fun b_1 h2 => ?_)
  refine g_val rfl rfl rfl (fun _ _ => v_assign rfl) ?_
  refine g_nil ?_
  refine g_n_then ?_
  refine g_seq ?_
  refine g_region ?_
  refine g_val rfl rfl rfl (fun w hh => v_loadAgg (vs := [_, _, _, _, _]) (Try.isAgg59 w) (Try.sizeOf59 w) rfl (hh.cells 1 rfl rfl)) ?_
  refine g_val rfl rfl rfl (fun _ _ => v_move rfl) ?_
  obtain ⟨t11, h3, hm⟩ := bindO hm
  refine g_callH [] [] rfl rfl rfl rfl rfl rfl rfl (fun a w => Try.call48 a w) (fun w hh => c_laurelref01_Spans s0 says1 qa0 na0 ca0 qa1 na1 ca1 qa2 na2 ca2 qa3 na3 ca3 w (HV.callee (S0 := []) (vs0 := []) hh (roC (hh.rsep (S0 := []) (vs0 := []) 0 rfl) (roC (hh.rsep (S0 := []) (vs0 := []) 1 rfl) (roC (hh.rsep (S0 := []) (vs0 := []) 2 rfl) (roC (hh.rsep (S0 := []) (vs0 := []) 3 rfl) roN))))) hna0 hqa0 hla0 hna1 hqa1 hla1 hna2 hqa2 hla2 hna3 hqa3 hla3 h3) (fun l h4 => ?_)
  have h5 := h4
  refine g_sel (S' := [_, _]) (vs' := [_]) [0, 1] [0] 0 (by decide) (by decide) rfl rfl rfl ?_
  refine g_val rfl rfl rfl (fun _ _ => v_assign rfl) ?_
  refine g_nil ?_
  refine g_n_then ?_
  refine g_seq ?_
  refine g_seq ?_
  refine g_region ?_
  refine g_val rfl rfl rfl (fun _ _ => v_move rfl) ?_
  refine g_val rfl rfl rfl (fun w _ => v_lenN (vlen RP h5 rfl) (Try.runUnderlying77 w) rfl) ?_
  refine g_val rfl rfl rfl (fun _ _ => v_eql rfl rfl) ?_
  refine g_nil ?_
  refine g_n_then ?_
  refine g_cond rfl (fun h6 => ?_) (fun h6 => ?_)
  ·replace hm := ifT (of_decide_eq_true h6) hm
   refine g_seq ?_
   refine g_region ?_
   refine g_val rfl rfl rfl (fun _ _ => v_build (vs := []) (cells := [_, _]) rfl rfl) ?_
   refine g_stSA (us := #[_, _]) (cs' := [_, _]) (S' := [_, _]) 0 (fun w => Try.sizeOf25 w) rfl rfl rfl rfl rfl rfl rfl ?_
   refine g_val rfl rfl rfl (fun _ _ => v_assign rfl) ?_
   refine g_nil ?_
   refine g_n_then ?_
   refine g_ret ?_
   refine g_r_then ?_
   obtain rfl := Option.some.inj hm
   refine g_done rfl (fun w hh => (.cell rfl (loadVar_agg (vs := [_, _]) (Try.isAgg25 _) (Try.sizeOf25 _) (hh.cells 0 rfl rfl)) (.tmp rfl .nil))) (fun w hh => ⟨(), rfl, trivial, hh.sel [] [] 4 (by decide) (by decide) rfl rfl rfl⟩)
  ·replace hm := ifF (of_decide_eq_false h6) hm
   refine g_skip ?_
   refine g_n_then ?_
   refine g_seq ?_
   refine g_region ?_
   refine g_val rfl rfl rfl (fun _ _ => v_move rfl) ?_
   obtain ⟨t17, h7, hm⟩ := bindO hm
   refine g_val rfl rfl rfl (fun w _ => v_ixA h7 (Try.runUnderlying77 w) (Try.sizeOf25 w) rfl rfl (vlen RP h5 rfl) (vne h5)) ?_
   refine g_val rfl rfl rfl (fun w hh => v_ldEA RP 0 [.int .i64 t17.lo, .int .i64 t17.hi] h7 (Try.isAgg25 w) (Try.sizeOf25 w) rfl (hh.vseg 0 rfl h5) rfl (Nat.add_zero _).symm) ?_
   refine g_allocV (fun w => Try.zeroValue25 w) rfl (fun b_2 h8 => ?_)
   refine g_stSA (us := #[_, _]) (cs' := [_, _]) (S' := [_, _, _]) 0 (fun w => Try.sizeOf25 w) rfl rfl rfl rfl rfl rfl rfl ?_
   refine g_nil ?_
   refine g_n_then ?_
   refine g_seq ?_
   refine g_seq ?_
   refine g_region ?_
   refine g_val rfl rfl rfl (fun _ _ => v_assign rfl) ?_
   refine g_nil ?_
   refine g_n_then ?_
   obtain ⟨o, h9, h10⟩ := bindO hm
   refine g_cut (ι := Unit) (fun l_1 => True) (fun l_1 => [(4, ptr b_1 0), (7, ptr b_2 0)]) (fun l_1 => [(b_2, .cells #[.int .i64 o.best7_lo, .int .i64 o.best7_hi] 25 (0, 0)), (b_1, .cells #[.int .i64 0, .int .i64 0] 25 (0, 0)), (b, .cells #[.slice qa0 na0 ca0, .int .i64 s0.wind.lo, .int .i64 s0.wind.hi, .slice qa1 na1 ca1, .slice qa2 na2 ca2] 59 (0, 0))]) (fun l_1 => []) ?_ ?_
   ·replace hm := h9
    refine g_block ?_
    refine g_loopF (ι := Unit) hm (fun s l_2 => True) (fun s l_2 => [(4, ptr b_1 0), (6, slv l.q l.n l.cap), (7, ptr b_2 0), (8, .int .i64 s.i8)]) (fun s l_2 => [(b_2, .cells #[.int .i64 s.best7_lo, .int .i64 s.best7_hi] 25 (0, 0)), (b_1, .cells #[.int .i64 0, .int .i64 0] 25 (0, 0)), (b, .cells #[.slice qa0 na0 ca0, .int .i64 s0.wind.lo, .int .i64 s0.wind.hi, .slice qa1 na1 ca1, .slice qa2 na2 ca2] 59 (0, 0))]) (fun s l_2 => [⟨25, RP.enc t11, l.sp, l.q⟩]) () (trivial) ((.cons rfl (.cons rfl (.cons rfl (.cons rfl .nil))))) (fun w hh => hh) (fun s l_2 r hpl hm h11 => ?_)
    unfold m_laurelref01_Longest_L0 at hm
    refine g_seq ?_
    refine g_seq ?_
    refine g_region ?_
    refine g_val rfl rfl rfl (fun _ _ => v_move rfl) ?_
    refine g_val rfl rfl rfl (fun _ _ => v_move rfl) ?_
    refine g_val rfl rfl rfl (fun w _ => v_lenN (vlen RP h5 rfl) (Try.runUnderlying77 w) rfl) ?_
    refine g_val rfl rfl rfl (fun _ _ => v_lss rfl rfl) ?_
    refine g_nil ?_
    refine g_n_then ?_
    refine g_cond rfl (fun h12 => ?_) (fun h12 => ?_)
    ·replace hm := ifT (of_decide_eq_true h12) hm
     refine g_skip ?_
     refine g_n_then ?_
     refine g_seq ?_
     obtain ⟨o_1, h13, h14⟩ := bindO hm
     refine g_cut (ι := Unit) (fun l_3 => True) (fun l_3 => [(4, ptr b_1 0), (6, slv l.q l.n l.cap), (7, ptr b_2 0), (8, .int .i64 s.i8)]) (fun l_3 => [(b_2, .cells #[.int .i64 o_1.best7_lo, .int .i64 o_1.best7_hi] 25 (0, 0)), (b_1, .cells #[.int .i64 0, .int .i64 0] 25 (0, 0)), (b, .cells #[.slice qa0 na0 ca0, .int .i64 s0.wind.lo, .int .i64 s0.wind.hi, .slice qa1 na1 ca1, .slice qa2 na2 ca2] 59 (0, 0))]) (fun l_3 => [⟨25, RP.enc t11, l.sp, l.q⟩]) ?_ ?_
     ·replace hm := h13
      refine g_block ?_
      refine g_seq ?_
      refine g_draw none (.free 0 (.free 1 (.free 2 (.free 3 (.hoist 4 (.free 5 (.free 6 (.free 7 (.free 8 (.hoist 9 (.free 10 (.free 11 (.hoist 12 (.free 13 (.hoist 14 (.free 15 (.free 16 .done))))))))))))))))) _ rfl (by decide +kernel) (fun w k hh => hh.draw k) (fun w hh => hh) ?_
      refine p_free rfl rfl rfl rfl (fun _ _ => v_move rfl) ?_
      refine p_free rfl rfl rfl rfl (fun _ _ => v_move rfl) ?_
      obtain ⟨t27, h15, hm⟩ := bindO hm
      refine p_free rfl rfl rfl rfl (fun w _ => v_ixA h15 (Try.runUnderlying77 w) (Try.sizeOf25 w) rfl rfl (vlen RP h5 rfl) (vne h5)) ?_
      refine p_free rfl rfl rfl rfl (fun w _ => v_fieldAddr 1 (Try.runUnderlying25 w) rfl (Try.sizeOf3 w) rfl) ?_
      refine p_hoist rfl rfl rfl rfl (fun w hh => v_ldE RP 1 h15 (Try.isAgg3 w) rfl (hh.vseg 0 rfl h5) rfl rfl) ?_
      refine p_free rfl rfl rfl rfl (fun _ _ => v_move rfl) ?_
      refine p_free rfl rfl rfl rfl (fun _ _ => v_move rfl) ?_
      obtain ⟨t32, h16, hm⟩ := bindO hm
      refine p_free rfl rfl rfl rfl (fun w _ => v_ixA h16 (Try.runUnderlying77 w) (Try.sizeOf25 w) rfl rfl (vlen RP h5 rfl) (vne h5)) ?_
      refine p_free rfl rfl rfl rfl (fun w _ => v_fieldAddr 0 (Try.runUnderlying25 w) rfl (Try.sizeOf3 w) rfl) ?_
      refine p_hoist rfl rfl rfl rfl (fun w hh => v_ldE RP 0 h16 (Try.isAgg3 w) rfl (hh.vseg 0 rfl h5) rfl rfl) ?_
      obtain ⟨t35, h17, hm⟩ := bindO hm
      refine p_free rfl rfl rfl rfl (fun _ _ => v_subc h17 rfl rfl) ?_
      refine p_free rfl rfl rfl rfl (fun w _ => v_fieldAddr 1 (Try.runUnderlying25 w) rfl (Try.sizeOf3 w) rfl) ?_
      refine p_hoist rfl rfl rfl rfl (fun w hh => v_load (Try.isAgg3 w) rfl (hh.cell 0 rfl rfl)) ?_
      refine p_free rfl rfl rfl rfl (fun w _ => v_fieldAddr 0 (Try.runUnderlying25 w) rfl (Try.sizeOf3 w) rfl) ?_
      refine p_hoist rfl rfl rfl rfl (fun w hh => v_load (Try.isAgg3 w) rfl (hh.cell 0 rfl rfl)) ?_
      obtain ⟨t40, h18, hm⟩ := bindO hm
      refine p_free rfl rfl rfl rfl (fun _ _ => v_subc h18 rfl rfl) ?_
      refine p_free rfl rfl rfl rfl (fun _ _ => v_gtr rfl rfl) ?_
      refine p_done ?_
      refine g_n_then ?_
      refine g_cond rfl (fun h19 => ?_) (fun h19 => ?_)
      ·replace hm := ifT (of_decide_eq_true h19) hm
       refine g_region ?_
       refine g_val rfl rfl rfl (fun _ _ => v_move rfl) ?_
       refine g_val rfl rfl rfl (fun _ _ => v_move rfl) ?_
       obtain ⟨t44, h20, hm⟩ := bindO hm
       refine g_val rfl rfl rfl (fun w _ => v_ixA h20 (Try.runUnderlying77 w) (Try.sizeOf25 w) rfl rfl (vlen RP h5 rfl) (vne h5)) ?_
       refine g_val rfl rfl rfl (fun w hh => v_ldEA RP 0 [.int .i64 t44.lo, .int .i64 t44.hi] h20 (Try.isAgg25 w) (Try.sizeOf25 w) rfl (hh.vseg 0 rfl h5) rfl (Nat.add_zero _).symm) ?_
       refine g_stSA (us := #[_, _]) (cs' := [_, _]) (S' := [_, _, _]) 0 (fun w => Try.sizeOf25 w) rfl rfl rfl rfl rfl rfl rfl ?_
       refine g_nil ?_
       refine g_n_blk ?_
       obtain rfl := Option.some.inj hm
       exact g_leaf () (trivial) ((.cons rfl (.cons rfl (.cons rfl (.cons rfl .nil))))) (fun w hh => hh)
      ·replace hm := ifF (of_decide_eq_false h19) hm
       refine g_skip ?_
       refine g_n_blk ?_
       obtain rfl := Option.some.inj hm
       exact g_leaf () (trivial) ((.cons rfl (.cons rfl (.cons rfl (.cons rfl .nil))))) (fun w hh => hh)
     ·intro l_3 hj
      replace hm := h14
      refine g_n_then ?_
      refine g_region ?_
      refine g_val rfl rfl rfl (fun _ _ => v_move rfl) ?_
      obtain ⟨t24, h21, hm⟩ := bindO hm
      refine g_val rfl rfl rfl (fun _ _ => v_addc h21 rfl rfl) ?_
      refine g_val rfl rfl rfl (fun _ _ => v_assign rfl) ?_
      refine g_nil ?_
      obtain rfl := Option.some.inj hm
      refine g_n_then ?_
      exact g_again' _ () rfl (trivial) ((.cons rfl (.cons rfl (.cons rfl (.cons rfl .nil))))) (fun w hh => hh)
    ·replace hm := ifF (of_decide_eq_false h12) hm
     refine g_exit ?_
     refine g_x_then ?_
     refine g_x_then ?_
     refine g_x_blk ?_
     obtain rfl := Option.some.inj hm
     have hbo := h11 _ rfl
     subst hbo
     exact g_leaf () (trivial) ((.cons rfl (.cons rfl .nil))) (fun w hh => hh.sel [0, 1, 2] [] 0 (by decide) (by decide) rfl rfl rfl)
   ·intro l_1 hj
    replace hm := h10
    refine g_n_then ?_
    refine g_seq ?_
    refine g_region ?_
    refine g_val rfl rfl rfl (fun w hh => v_loadAgg (vs := [_, _]) (Try.isAgg25 w) (Try.sizeOf25 w) rfl (hh.cells 0 rfl rfl)) ?_
    refine g_stSA (us := #[_, _]) (cs' := [_, _]) (S' := [_, _, _]) 1 (fun w => Try.sizeOf25 w) rfl rfl rfl rfl rfl rfl rfl ?_
    refine g_val rfl rfl rfl (fun _ _ => v_assign rfl) ?_
    refine g_nil ?_
    refine g_n_then ?_
    refine g_ret ?_
    obtain rfl := Option.some.inj hm
    refine g_done rfl (fun w hh => (.cell rfl (loadVar_agg (vs := [_, _]) (Try.isAgg25 _) (Try.sizeOf25 _) (hh.cells 1 rfl rfl)) (.tmp rfl .nil))) (fun w hh => ⟨(), rfl, trivial, hh.sel [] [] 4 (by decide) (by decide) rfl rfl rfl⟩)
structure m_tide_Flood_1_R where
  r0 : Int
  r2 : Int
  r1 : (List Int)
structure m_tide_Flood_1_C0 where
  at10 : Int
  places9 : (List Int)
structure m_tide_Flood_1_S0 where
  at10 : Int
  places9 : (List Int)
structure m_tide_Flood_1_S1 where
  t36 : Int
  places9 : (List Int)
def m_tide_Flood_1_L1 (s0 : Sands) (minute1 : Int) (s : m_tide_Flood_1_S0) (s_1 : m_tide_Flood_1_S1) : Option (m_tide_Flood_1_S1 ⊕ (List Int)) :=
 if s_1.t36 < (s0.floors.length : Int) then
 ((((x_at s0 minute1 s_1.t36).bind fun t42 =>
 if t42 = 0 then
 ((x_at s0 s.at10 s_1.t36).bind fun t48 =>
 some (!decide (t48 = 0))) else
 (some false)).bind fun o_3 =>
 if o_3 = true then
 ((appc 8 s_1.places9 [s_1.t36]).bind fun t54 =>
 some t54) else
 (some s_1.places9)).bind fun o_2 =>
 (addc s_1.t36 1).bind fun t55 =>
 some (.inl (⟨t55, o_2⟩ : m_tide_Flood_1_S1))) else
 (some (.inr s_1.places9))
def m_tide_Flood_1_L0 (s0 : Sands) (minute1 : Int) (s : m_tide_Flood_1_S0) : Option (m_tide_Flood_1_S0 ⊕ m_tide_Flood_1_C0) :=
 (x_day s0 s.at10).bind fun t30 =>
 if t30 = true then
 ((iterM FU (m_tide_Flood_1_L1 s0 minute1 s) (⟨0, s.places9⟩ : m_tide_Flood_1_S1)).bind fun o_1 =>
 if 0 < (o_1.length : Int) then
 (some (.inr (⟨s.at10, o_1⟩ : m_tide_Flood_1_C0))) else
 ((addc s.at10 1).bind fun t32 =>
 some (.inl (⟨t32, o_1⟩ : m_tide_Flood_1_S0)))) else
 (some (.inr (⟨s.at10, s.places9⟩ : m_tide_Flood_1_C0)))
def m_tide_Flood_1 (s0 : Sands) (minute1 : Int) : Option m_tide_Flood_1_R :=
 if s0.table.length ≤ 8796093022208 ∧ s0.floors.length ≤ 17592186044416 ∧ s0.sills.length ≤ 5864062014805 then (if check s0 = 0 then
 ((x_day s0 minute1).bind fun t24 =>
 if (!t24) = true then
 (some (⟨0, 3, []⟩ : m_tide_Flood_1_R)) else
 ((addc minute1 1).bind fun t27 =>
 (iterM FU (m_tide_Flood_1_L0 s0 minute1) (⟨t27, []⟩ : m_tide_Flood_1_S0)).bind fun o =>
 if (o.places9.length : Int) = 0 then
 (some (⟨0, 6, []⟩ : m_tide_Flood_1_R)) else
 (some (⟨o.at10, 0, o.places9⟩ : m_tide_Flood_1_R)))) else
 (some (⟨0, (check s0), []⟩ : m_tide_Flood_1_R))) else none
set_option maxRecDepth 100000 in
set_option maxHeartbeats 4000000 in
theorem c_tide_Flood_1 (s0 : Sands) (minute1 : Int) (qa0 : Option (Nat × Nat)) (na0 ca0 : Nat) (qa1 : Option (Nat × Nat)) (na1 ca1 : Nat) (qa2 : Option (Nat × Nat)) (na2 ca2 : Nat) (w : World) (hw : HV w (keys [] []) [] [] [(bk qa0, off qa0, RW.enc s0.table), (bk qa1, off qa1, RI.enc s0.floors), (bk qa2, off qa2, RS.enc s0.sills)] w) (hna0 : s0.table.length = na0) (hqa0 : 0 < na0 → qa0 ≠ none) (hla0 : na0 ≤ ca0) (hna1 : s0.floors.length = na1) (hqa1 : 0 < na1 → qa1 ≠ none) (hla1 : na1 ≤ ca1) (hna2 : s0.sills.length = na2) (hqa2 : 0 < na2 → qa2 ≠ none) (hla2 : na2 ≤ ca2) {res : m_tide_Flood_1_R} (hm : m_tide_Flood_1 s0 minute1 = some res) :
    Calls Try.prog 77 #[.agg #[slv qa0 na0 ca0, .int .i64 s0.wind.lo, .int .i64 s0.wind.hi, slv qa1 na1 ca1, slv qa2 na2 ca2], .int .i64 minute1] w (fun en w' => ∃ l : VL, en = .returned (.tuple #[.int .i64 res.r0, slv l.q l.n l.cap, .int .i64 res.r2]) ∧ (VOK 1 l.n l.cap (RI.enc res.r1) l.sp l.q) ∧ HV w (keys [] []) [] [⟨3, RI.enc res.r1, l.sp, l.q⟩] [] w') := by
  unfold m_tide_Flood_1 at hm
  refine g_enter (args := [.agg #[slv qa0 na0 ca0, .int .i64 s0.wind.lo, .int .i64 s0.wind.hi, slv qa1 na1 ca1, slv qa2 na2 ca2], .int .i64 minute1]) Try.func77 rfl Try.ntmps77 rfl (e := [(0, _), (1, _)]) rfl (H := HV w (keys [] []) [] [] [(bk qa0, off qa0, RW.enc s0.table), (bk qa1, off qa1, RI.enc s0.floors), (bk qa2, off qa2, RS.enc s0.sills)]) hw ?_
  refine g_seq ?_
  refine g_region ?_
  refine g_boxV rfl rfl (fun b h2 => ?_)
  refine g_val rfl rfl rfl (fun _ _ => v_assign rfl) ?_
  refine g_val rfl rfl rfl (fun _ _ => v_nilS rfl) ?_
  refine g_val rfl rfl rfl (fun _ _ => v_assign rfl) ?_
  refine g_nil ?_
  refine g_n_then ?_
  refine g_scope ?_
  refine g_seq ?_
  refine g_region ?_
  refine g_val rfl rfl rfl (fun w hh => v_loadAgg (vs := [_, _, _, _, _]) (Try.isAgg29 w) (Try.sizeOf29 w) rfl (hh.cells 0 rfl rfl)) ?_
  obtain ⟨h3, hm⟩ := ifO hm
  refine dec_cases (p := check s0 = 0) (fun h4 => ?_) (fun h4 => ?_)
  ·replace hm := ifT h4 hm
   refine g_callFV rfl rfl rfl rfl rfl rfl rfl (fun a w => Try.call102 a w) (fun w hh => cx_opened s0 qa0 na0 ca0 qa1 na1 ca1 qa2 na2 ca2 w (HV.callee (S0 := []) (vs0 := []) hh (roC (hh.rsep (S0 := []) (vs0 := []) 0 rfl) (roC (hh.rsep (S0 := []) (vs0 := []) 1 rfl) (roC (hh.rsep (S0 := []) (vs0 := []) 2 rfl) roN)))) hna0 hqa0 hla0 hna1 hqa1 hla1 hna2 hqa2 hla2 h3 h4) (fun b_1 => ?_)
   refine g_val rfl rfl rfl (fun _ _ => v_move rfl) ?_
   refine g_val rfl rfl rfl (fun _ _ => v_extract rfl rfl) ?_
   refine g_val rfl rfl rfl (fun _ _ => v_extract rfl rfl) ?_
   refine g_val rfl rfl rfl (fun _ _ => v_assign rfl) ?_
   refine g_val rfl rfl rfl (fun _ _ => v_assign rfl) ?_
   refine g_nil ?_
   refine g_n_then ?_
   refine g_seq ?_
   refine g_block ?_
   refine g_seq ?_
   refine g_region ?_
   refine g_val rfl rfl rfl (fun _ _ => v_move rfl) ?_
   refine g_val rfl rfl rfl (fun _ _ => v_neq rfl rfl) ?_
   refine g_val rfl rfl rfl (fun _ _ => v_assign rfl) ?_
   refine g_nil ?_
   refine g_n_then ?_
   refine g_condF rfl rfl ?_
   refine g_seq ?_
   refine g_region ?_
   refine g_val rfl rfl rfl (fun _ _ => v_move rfl) ?_
   refine g_val rfl rfl rfl (fun _ _ => v_move rfl) ?_
   obtain ⟨t24, h5, hm⟩ := bindO hm
   refine g_callN rfl rfl rfl rfl rfl rfl rfl (fun a w => Try.call103 a w) (fun w hh => cx_day s0 minute1 b_1 qa0 na0 ca0 qa1 na1 ca1 qa2 na2 ca2 w (HV.callee (S0 := []) (vs0 := []) hh (roC (bsep (hh.bseg 0 rfl)) (roC (hh.rsep (S0 := []) (vs0 := []) 0 rfl) (roC (hh.rsep (S0 := []) (vs0 := []) 1 rfl) (roC (hh.rsep (S0 := []) (vs0 := []) 2 rfl) roN))))) hna0 hqa0 hla0 hna1 hqa1 hla1 hna2 hqa2 hla2 h5) (fun l h6 => ?_)
   refine g_val rfl rfl rfl (fun _ _ => v_not rfl) ?_
   refine g_val rfl rfl rfl (fun _ _ => v_assign rfl) ?_
   refine g_nil ?_
   refine g_n_then ?_
   refine g_cond rfl (fun h7 => ?_) (fun h7 => ?_)
   ·replace hm := ifT (h7) hm
    refine g_seq ?_
    refine g_region ?_
    refine g_val rfl rfl rfl (fun _ _ => v_assign rfl) ?_
    refine g_val rfl rfl rfl (fun _ _ => v_nilS rfl) ?_
    refine g_val rfl rfl rfl (fun _ _ => v_assign rfl) ?_
    refine g_nil ?_
    refine g_n_then ?_
    refine g_ret ?_
    refine g_r_blk ?_
    refine g_r_then ?_
    refine g_r_scp ?_
    refine g_vnil 3 ?_
    obtain rfl := Option.some.inj hm
    refine g_done rfl (fun w hh => (.tmp rfl (.tmp rfl (.tmp rfl .nil)))) (fun w hh => ⟨⟨none, 0, 0, []⟩, rfl, VOK.nil, hh.sel [] [0] 3 (by decide) (by decide) rfl rfl rfl⟩)
   ·replace hm := ifF ((fun hh => Bool.noConfusion ((h7).symm.trans hh))) hm
    refine g_skip ?_
    refine g_n_blk ?_
    refine g_n_then ?_
    refine g_seq ?_
    refine g_region ?_
    refine g_val rfl rfl rfl (fun _ _ => v_nilS rfl) ?_
    refine g_nil ?_
    refine g_n_then ?_
    refine g_seq ?_
    refine g_region ?_
    refine g_val rfl rfl rfl (fun _ _ => v_move rfl) ?_
    obtain ⟨t27, h8, hm⟩ := bindO hm
    refine g_val rfl rfl rfl (fun _ _ => v_addc h8 rfl rfl) ?_
    refine g_val rfl rfl rfl (fun _ _ => v_assign rfl) ?_
    refine g_nil ?_
    refine g_n_then ?_
    refine g_seq ?_
    refine g_label ?_
    refine g_n_then ?_
    refine g_seq ?_
    refine g_vnil 3 ?_
    obtain ⟨o, h9, h10⟩ := bindO hm
    refine g_cut (ι := VL) (fun l_1 => VOK 1 l_1.n l_1.cap (RI.enc o.places9) l_1.sp l_1.q) (fun l_1 => [(9, slv l_1.q l_1.n l_1.cap), (10, .int .i64 o.at10)]) (fun l_1 => [(b_1, .cells #[slv qa0 na0 ca0, .int .i64 s0.wind.lo, .int .i64 s0.wind.hi, slv qa1 na1 ca1, slv qa2 na2 ca2, .int .i64 ((gatesOf s0).getD 0 0), .int .i64 ((gatesOf s0).getD 1 0), .int .i64 ((gatesOf s0).getD 2 0), .int .i64 ((gatesOf s0).getD 3 0), .int .i64 ((gatesOf s0).getD 4 0), .int .i64 ((gatesOf s0).getD 5 0), .int .i64 ((gatesOf s0).getD 6 0), .int .i64 ((gatesOf s0).getD 7 0)] 157 (0, 0)), (b, .cells #[slv qa0 na0 ca0, .int .i64 s0.wind.lo, .int .i64 s0.wind.hi, slv qa1 na1 ca1, slv qa2 na2 ca2] 29 (0, 0))]) (fun l_1 => [⟨3, RI.enc o.places9, l_1.sp, l_1.q⟩]) ?_ ?_
    ·replace hm := h9
     refine g_block ?_
     refine g_loopF (ι := VL) hm (fun s l_2 => VOK 1 l_2.n l_2.cap (RI.enc s.places9) l_2.sp l_2.q) (fun s l_2 => [(1, .int .i64 minute1), (2, ptr b 0), (7, ptr b_1 0), (9, slv l_2.q l_2.n l_2.cap), (10, .int .i64 s.at10)]) (fun s l_2 => [(b_1, .cells #[slv qa0 na0 ca0, .int .i64 s0.wind.lo, .int .i64 s0.wind.hi, slv qa1 na1 ca1, slv qa2 na2 ca2, .int .i64 ((gatesOf s0).getD 0 0), .int .i64 ((gatesOf s0).getD 1 0), .int .i64 ((gatesOf s0).getD 2 0), .int .i64 ((gatesOf s0).getD 3 0), .int .i64 ((gatesOf s0).getD 4 0), .int .i64 ((gatesOf s0).getD 5 0), .int .i64 ((gatesOf s0).getD 6 0), .int .i64 ((gatesOf s0).getD 7 0)] 157 (0, 0)), (b, .cells #[slv qa0 na0 ca0, .int .i64 s0.wind.lo, .int .i64 s0.wind.hi, slv qa1 na1 ca1, slv qa2 na2 ca2] 29 (0, 0))]) (fun s l_2 => [⟨3, RI.enc s.places9, l_2.sp, l_2.q⟩]) ⟨none, 0, 0, []⟩ (VOK.nil) ((.cons rfl (.cons rfl (.cons rfl (.cons rfl (.cons rfl .nil)))))) (fun w hh => hh) (fun s l_2 r hpl hm h13 => ?_)
     have h12 := hpl
     unfold m_tide_Flood_1_L0 at hm
     refine g_seq ?_
     refine g_seq ?_
     refine g_region ?_
     refine g_val rfl rfl rfl (fun _ _ => v_move rfl) ?_
     refine g_val rfl rfl rfl (fun _ _ => v_move rfl) ?_
     obtain ⟨t30, h14, hm⟩ := bindO hm
     refine g_callN rfl rfl rfl rfl rfl rfl rfl (fun a w => Try.call103 a w) (fun w hh => cx_day s0 s.at10 b_1 qa0 na0 ca0 qa1 na1 ca1 qa2 na2 ca2 w (HV.callee (S0 := []) (vs0 := []) hh (roC (bsep (hh.bseg 0 rfl)) (roC (hh.rsep (S0 := []) (vs0 := []) 0 rfl) (roC (hh.rsep (S0 := []) (vs0 := []) 1 rfl) (roC (hh.rsep (S0 := []) (vs0 := []) 2 rfl) roN))))) hna0 hqa0 hla0 hna1 hqa1 hla1 hna2 hqa2 hla2 h14) (fun l_3 h15 => ?_)
     refine g_nil ?_
     refine g_n_then ?_
     refine g_cond rfl (fun h16 => ?_) (fun h16 => ?_)
     ·replace hm := ifT (h16) hm
      refine g_skip ?_
      refine g_n_then ?_
      refine g_seq ?_
      refine g_block ?_
      refine g_seq ?_
      refine g_seq ?_
      refine g_region ?_
      refine g_val rfl rfl rfl (fun w _ => v_fieldAddr 3 (Try.runUnderlying29 w) rfl (Try.sizeOf26 w) rfl) ?_
      refine g_val rfl rfl rfl (fun w hh => v_load (Try.isAgg26 w) rfl (hh.cell 1 rfl rfl)) ?_
      refine g_val rfl rfl rfl (fun w _ => v_lenN hna1 (Try.runUnderlying26 w) rfl) ?_
      refine g_val rfl rfl rfl (fun _ _ => v_move rfl) ?_
      refine g_nil ?_
      refine g_n_then ?_
      obtain ⟨o_1, h17, h18⟩ := bindO hm
      refine g_cut (ι := VL) (fun l_4 => VOK 1 l_4.n l_4.cap (RI.enc o_1) l_4.sp l_4.q) (fun l_4 => [(1, .int .i64 minute1), (2, ptr b 0), (7, ptr b_1 0), (9, slv l_4.q l_4.n l_4.cap), (10, .int .i64 s.at10)]) (fun l_4 => [(b_1, .cells #[slv qa0 na0 ca0, .int .i64 s0.wind.lo, .int .i64 s0.wind.hi, slv qa1 na1 ca1, slv qa2 na2 ca2, .int .i64 ((gatesOf s0).getD 0 0), .int .i64 ((gatesOf s0).getD 1 0), .int .i64 ((gatesOf s0).getD 2 0), .int .i64 ((gatesOf s0).getD 3 0), .int .i64 ((gatesOf s0).getD 4 0), .int .i64 ((gatesOf s0).getD 5 0), .int .i64 ((gatesOf s0).getD 6 0), .int .i64 ((gatesOf s0).getD 7 0)] 157 (0, 0)), (b, .cells #[slv qa0 na0 ca0, .int .i64 s0.wind.lo, .int .i64 s0.wind.hi, slv qa1 na1 ca1, slv qa2 na2 ca2] 29 (0, 0))]) (fun l_4 => [⟨3, RI.enc o_1, l_4.sp, l_4.q⟩]) ?_ ?_
      ·replace hm := h17
       refine g_block ?_
       refine g_loopF (ι := VL) hm (fun s_1 l_5 => VOK 1 l_5.n l_5.cap (RI.enc s_1.places9) l_5.sp l_5.q) (fun s_1 l_5 => [(1, .int .i64 minute1), (2, ptr b 0), (7, ptr b_1 0), (9, slv l_5.q l_5.n l_5.cap), (10, .int .i64 s.at10), (35, .int .i64 (s0.floors.length : Int)), (36, .int .i64 s_1.t36)]) (fun s_1 l_5 => [(b_1, .cells #[slv qa0 na0 ca0, .int .i64 s0.wind.lo, .int .i64 s0.wind.hi, slv qa1 na1 ca1, slv qa2 na2 ca2, .int .i64 ((gatesOf s0).getD 0 0), .int .i64 ((gatesOf s0).getD 1 0), .int .i64 ((gatesOf s0).getD 2 0), .int .i64 ((gatesOf s0).getD 3 0), .int .i64 ((gatesOf s0).getD 4 0), .int .i64 ((gatesOf s0).getD 5 0), .int .i64 ((gatesOf s0).getD 6 0), .int .i64 ((gatesOf s0).getD 7 0)] 157 (0, 0)), (b, .cells #[slv qa0 na0 ca0, .int .i64 s0.wind.lo, .int .i64 s0.wind.hi, slv qa1 na1 ca1, slv qa2 na2 ca2] 29 (0, 0))]) (fun s_1 l_5 => [⟨3, RI.enc s_1.places9, l_5.sp, l_5.q⟩]) l_2 (h12) ((.cons rfl (.cons rfl (.cons rfl (.cons rfl (.cons rfl (.cons rfl (.cons rfl .nil)))))))) (fun w hh => hh) (fun s_1 l_5 r_1 hpl hm h21 => ?_)
       have h20 := hpl
       unfold m_tide_Flood_1_L1 at hm
       refine g_seq ?_
       refine g_region ?_
       refine g_val rfl rfl rfl (fun _ _ => v_lss rfl rfl) ?_
       refine g_nil ?_
       refine g_n_then ?_
       refine g_seq ?_
       refine g_cond rfl (fun h22 => ?_) (fun h22 => ?_)
       ·replace hm := ifT (of_decide_eq_true h22) hm
        refine g_skip ?_
        refine g_n_then ?_
        refine g_seq ?_
        obtain ⟨o_2, h23, h24⟩ := bindO hm
        refine g_cut (ι := VL) (fun l_6 => VOK 1 l_6.n l_6.cap (RI.enc o_2) l_6.sp l_6.q) (fun l_6 => [(1, .int .i64 minute1), (2, ptr b 0), (7, ptr b_1 0), (9, slv l_6.q l_6.n l_6.cap), (10, .int .i64 s.at10), (35, .int .i64 (s0.floors.length : Int)), (36, .int .i64 s_1.t36)]) (fun l_6 => [(b_1, .cells #[slv qa0 na0 ca0, .int .i64 s0.wind.lo, .int .i64 s0.wind.hi, slv qa1 na1 ca1, slv qa2 na2 ca2, .int .i64 ((gatesOf s0).getD 0 0), .int .i64 ((gatesOf s0).getD 1 0), .int .i64 ((gatesOf s0).getD 2 0), .int .i64 ((gatesOf s0).getD 3 0), .int .i64 ((gatesOf s0).getD 4 0), .int .i64 ((gatesOf s0).getD 5 0), .int .i64 ((gatesOf s0).getD 6 0), .int .i64 ((gatesOf s0).getD 7 0)] 157 (0, 0)), (b, .cells #[slv qa0 na0 ca0, .int .i64 s0.wind.lo, .int .i64 s0.wind.hi, slv qa1 na1 ca1, slv qa2 na2 ca2] 29 (0, 0))]) (fun l_6 => [⟨3, RI.enc o_2, l_6.sp, l_6.q⟩]) ?_ ?_
        ·replace hm := h23
         refine g_block ?_
         refine g_seq ?_
         refine g_region ?_
         refine g_val rfl rfl rfl (fun _ _ => v_move rfl) ?_
         refine g_val rfl rfl rfl (fun _ _ => v_assign rfl) ?_
         refine g_nil ?_
         refine g_n_then ?_
         refine g_seq ?_
         obtain ⟨o_3, h26, h27⟩ := bindO hm
         refine g_cut (ι := Unit) (fun l_7 => True) (fun l_7 => [(1, .int .i64 minute1), (2, ptr b 0), (7, ptr b_1 0), (9, slv l_5.q l_5.n l_5.cap), (10, .int .i64 s.at10), (11, .int .i64 s_1.t36), (35, .int .i64 (s0.floors.length : Int)), (36, .int .i64 s_1.t36), (50, .bool o_3)]) (fun l_7 => [(b_1, .cells #[slv qa0 na0 ca0, .int .i64 s0.wind.lo, .int .i64 s0.wind.hi, slv qa1 na1 ca1, slv qa2 na2 ca2, .int .i64 ((gatesOf s0).getD 0 0), .int .i64 ((gatesOf s0).getD 1 0), .int .i64 ((gatesOf s0).getD 2 0), .int .i64 ((gatesOf s0).getD 3 0), .int .i64 ((gatesOf s0).getD 4 0), .int .i64 ((gatesOf s0).getD 5 0), .int .i64 ((gatesOf s0).getD 6 0), .int .i64 ((gatesOf s0).getD 7 0)] 157 (0, 0)), (b, .cells #[slv qa0 na0 ca0, .int .i64 s0.wind.lo, .int .i64 s0.wind.hi, slv qa1 na1 ca1, slv qa2 na2 ca2] 29 (0, 0))]) (fun l_7 => [⟨3, RI.enc s_1.places9, l_5.sp, l_5.q⟩]) ?_ ?_
         ·replace hm := h26
          refine g_region ?_
          refine g_val rfl rfl rfl (fun _ _ => v_move rfl) ?_
          refine g_val rfl rfl rfl (fun _ _ => v_move rfl) ?_
          refine g_val rfl rfl rfl (fun _ _ => v_move rfl) ?_
          obtain ⟨t42, h28, hm⟩ := bindO hm
          refine g_callN rfl rfl rfl rfl rfl rfl rfl (fun a w => Try.call104 a w) (fun w hh => cx_at s0 minute1 s_1.t36 b_1 qa0 na0 ca0 qa1 na1 ca1 qa2 na2 ca2 w (HV.callee (S0 := []) (vs0 := []) hh (roC (bsep (hh.bseg 0 rfl)) (roC (hh.rsep (S0 := []) (vs0 := []) 0 rfl) (roC (hh.rsep (S0 := []) (vs0 := []) 1 rfl) (roC (hh.rsep (S0 := []) (vs0 := []) 2 rfl) roN))))) hna0 hqa0 hla0 hna1 hqa1 hla1 hna2 hqa2 hla2 h28) (fun l_8 h29 => ?_)
          refine g_val rfl rfl rfl (fun _ _ => v_eql rfl rfl) ?_
          refine g_val rfl rfl rfl (fun _ _ => v_move rfl) ?_
          refine g_case 44 rfl (fun h30 => ?_) (fun h30 => ?_)
          ·replace hm := ifT (of_decide_eq_true h30) hm
           refine v_unguard rfl rfl ?_
           refine g_val rfl rfl rfl (fun _ _ => v_move rfl) ?_
           refine v_unguard rfl rfl ?_
           refine g_val rfl rfl rfl (fun _ _ => v_move rfl) ?_
           refine v_unguard rfl rfl ?_
           refine g_val rfl rfl rfl (fun _ _ => v_move rfl) ?_
           refine v_unguard rfl rfl ?_
           obtain ⟨t48, h31, hm⟩ := bindO hm
           refine g_callN rfl rfl rfl rfl rfl rfl rfl (fun a w => Try.call104 a w) (fun w hh => cx_at s0 s.at10 s_1.t36 b_1 qa0 na0 ca0 qa1 na1 ca1 qa2 na2 ca2 w (HV.callee (S0 := []) (vs0 := []) hh (roC (bsep (hh.bseg 0 rfl)) (roC (hh.rsep (S0 := []) (vs0 := []) 0 rfl) (roC (hh.rsep (S0 := []) (vs0 := []) 1 rfl) (roC (hh.rsep (S0 := []) (vs0 := []) 2 rfl) roN))))) hna0 hqa0 hla0 hna1 hqa1 hla1 hna2 hqa2 hla2 h31) (fun l_9 h32 => ?_)
           refine v_unguard rfl rfl ?_
           refine g_val rfl rfl rfl (fun _ _ => v_neq rfl rfl) ?_
           refine g_val rfl rfl rfl (fun _ _ => v_pickT rfl rfl) ?_
           refine g_nil ?_
           obtain rfl := Option.some.inj hm
           exact g_leaf () (trivial) ((.cons rfl (.cons rfl (.cons rfl (.cons rfl (.cons rfl (.cons rfl (.cons rfl (.cons rfl (.cons rfl .nil)))))))))) (fun w hh => hh)
          ·replace hm := ifF (of_decide_eq_false h30) hm
           refine g_skipG rfl rfl rfl rfl rfl rfl ?_
           refine g_skipG rfl rfl rfl rfl rfl rfl ?_
           refine g_skipG rfl rfl rfl rfl rfl rfl ?_
           refine g_skipG rfl rfl rfl rfl rfl rfl ?_
           refine g_skipG rfl rfl rfl rfl rfl rfl ?_
           refine g_val rfl rfl rfl (fun _ _ => v_pickF rfl rfl) ?_
           refine g_nil ?_
           obtain rfl := Option.some.inj hm
           exact g_leaf () (trivial) ((.cons rfl (.cons rfl (.cons rfl (.cons rfl (.cons rfl (.cons rfl (.cons rfl (.cons rfl (.cons rfl .nil)))))))))) (fun w hh => hh)
         ·intro l_7 hj
          replace hm := h27
          refine g_n_then ?_
          refine g_cond rfl (fun h33 => ?_) (fun h33 => ?_)
          ·replace hm := ifT (h33) hm
           refine g_region ?_
           refine g_val rfl rfl rfl (fun _ _ => v_move rfl) ?_
           refine g_val rfl rfl rfl (fun _ _ => v_move rfl) ?_
           refine g_vlit RI [s_1.t36] (ps := [(0, _)]) (cells := [_]) (fun w => Try.runUnderlying26 w) (fun w => Try.sizeOf3 w) (fun w => Try.zeroValue3 w) rfl rfl rfl rfl rfl rfl rfl rfl (fun L h34 => ?_)
           obtain ⟨t54, h35, hm⟩ := bindO hm
           refine g_vapp RI 1 h35 Try.underlying26 gxinf3 rfl rfl rfl rfl rfl h20 rfl rfl (vlen RI h34 rfl) (AOK.q (vne h34)) (fun w hh => (hh.vsegA 0 rfl h34)) rfl (fun L_1 h36 h36n => ?_)
           refine g_sel (S' := [_, _]) (vs' := [_, _]) [0, 1] [0, 1] 0 (by decide) (by decide) rfl rfl rfl ?_
           refine g_val rfl rfl rfl (fun _ _ => v_assign rfl) ?_
           refine g_nil ?_
           refine g_n_blk ?_
           obtain rfl := Option.some.inj hm
           exact g_leaf L_1 (h36) ((.cons rfl (.cons rfl (.cons rfl (.cons rfl (.cons rfl (.cons rfl (.cons rfl .nil)))))))) (fun w hh => hh.sel [0, 1] [1] 0 (by decide) (by decide) rfl rfl rfl)
          ·replace hm := ifF ((fun hh => Bool.noConfusion ((h33).symm.trans hh))) hm
           refine g_skip ?_
           refine g_n_blk ?_
           obtain rfl := Option.some.inj hm
           exact g_leaf l_5 (h20) ((.cons rfl (.cons rfl (.cons rfl (.cons rfl (.cons rfl (.cons rfl (.cons rfl .nil)))))))) (fun w hh => hh)
        ·intro l_6 hj
         have h25 := hj
         replace hm := h24
         refine g_n_then ?_
         refine g_region ?_
         obtain ⟨t55, h37, hm⟩ := bindO hm
         refine g_val rfl rfl rfl (fun _ _ => v_addc h37 rfl rfl) ?_
         refine g_val rfl rfl rfl (fun _ _ => v_move rfl) ?_
         refine g_nil ?_
         obtain rfl := Option.some.inj hm
         refine g_n_then ?_
         exact g_again' _ l_6 rfl (h25) ((.cons rfl (.cons rfl (.cons rfl (.cons rfl (.cons rfl (.cons rfl (.cons rfl .nil)))))))) (fun w hh => hh)
       ·replace hm := ifF (of_decide_eq_false h22) hm
        refine g_exit ?_
        refine g_x_then ?_
        refine g_x_then ?_
        refine g_x_blk ?_
        obtain rfl := Option.some.inj hm
        have hbo := h21 _ rfl
        subst hbo
        exact g_leaf l_5 (h20) ((.cons rfl (.cons rfl (.cons rfl (.cons rfl (.cons rfl .nil)))))) (fun w hh => hh)
      ·intro l_4 hj
       have h19 := hj
       replace hm := h18
       refine g_n_then ?_
       refine g_seq ?_
       refine g_region ?_
       refine g_val rfl rfl rfl (fun _ _ => v_move rfl) ?_
       refine g_val rfl rfl rfl (fun w _ => v_lenN (vlen RI h19 rfl) (Try.runUnderlying26 w) rfl) ?_
       refine g_val rfl rfl rfl (fun _ _ => v_gtr rfl rfl) ?_
       refine g_nil ?_
       refine g_n_then ?_
       refine g_cond rfl (fun h38 => ?_) (fun h38 => ?_)
       ·replace hm := ifT (of_decide_eq_true h38) hm
        refine g_exit ?_
        refine g_x_out rfl ?_
        refine g_x_then ?_
        refine g_x_then ?_
        refine g_x_blk ?_
        obtain rfl := Option.some.inj hm
        have hbo := h13 _ rfl
        subst hbo
        exact g_leaf l_4 (h19) ((.cons rfl (.cons rfl .nil))) (fun w hh => hh)
       ·replace hm := ifF (of_decide_eq_false h38) hm
        refine g_skip ?_
        refine g_n_blk ?_
        refine g_n_then ?_
        refine g_region ?_
        refine g_val rfl rfl rfl (fun _ _ => v_move rfl) ?_
        obtain ⟨t32, h39, hm⟩ := bindO hm
        refine g_val rfl rfl rfl (fun _ _ => v_addc h39 rfl rfl) ?_
        refine g_val rfl rfl rfl (fun _ _ => v_assign rfl) ?_
        refine g_nil ?_
        obtain rfl := Option.some.inj hm
        refine g_n_then ?_
        exact g_again' _ l_4 rfl (h19) ((.cons rfl (.cons rfl (.cons rfl (.cons rfl (.cons rfl .nil)))))) (fun w hh => hh)
     ·replace hm := ifF ((fun hh => Bool.noConfusion ((h16).symm.trans hh))) hm
      refine g_exit ?_
      refine g_x_then ?_
      refine g_x_then ?_
      refine g_x_blk ?_
      obtain rfl := Option.some.inj hm
      have hbo := h13 _ rfl
      subst hbo
      exact g_leaf l_2 (h12) ((.cons rfl (.cons rfl .nil))) (fun w hh => hh)
    ·intro l_1 hj
     have h11 := hj
     replace hm := h10
     refine g_n_then ?_
     refine g_seq ?_
     refine g_seq ?_
     refine g_region ?_
     refine g_val rfl rfl rfl (fun _ _ => v_move rfl) ?_
     refine g_val rfl rfl rfl (fun w _ => v_lenN (vlen RI h11 rfl) (Try.runUnderlying26 w) rfl) ?_
     refine g_val rfl rfl rfl (fun _ _ => v_eql rfl rfl) ?_
     refine g_nil ?_
     refine g_n_then ?_
     refine g_cond rfl (fun h40 => ?_) (fun h40 => ?_)
     ·replace hm := ifT (of_decide_eq_true h40) hm
      refine g_seq ?_
      refine g_region ?_
      refine g_val rfl rfl rfl (fun _ _ => v_assign rfl) ?_
      refine g_val rfl rfl rfl (fun _ _ => v_nilS rfl) ?_
      refine g_val rfl rfl rfl (fun _ _ => v_assign rfl) ?_
      refine g_nil ?_
      refine g_n_then ?_
      refine g_ret ?_
      refine g_r_then ?_
      refine g_r_scp ?_
      refine g_vnil 3 ?_
      obtain rfl := Option.some.inj hm
      refine g_done rfl (fun w hh => (.tmp rfl (.tmp rfl (.tmp rfl .nil)))) (fun w hh => ⟨⟨none, 0, 0, []⟩, rfl, VOK.nil, hh.sel [] [0] 3 (by decide) (by decide) rfl rfl rfl⟩)
     ·replace hm := ifF (of_decide_eq_false h40) hm
      refine g_skip ?_
      refine g_n_then ?_
      refine g_seq ?_
      refine g_region ?_
      refine g_val rfl rfl rfl (fun _ _ => v_move rfl) ?_
      refine g_val rfl rfl rfl (fun _ _ => v_move rfl) ?_
      refine g_val rfl rfl rfl (fun _ _ => v_assign rfl) ?_
      refine g_val rfl rfl rfl (fun _ _ => v_assign rfl) ?_
      refine g_val rfl rfl rfl (fun _ _ => v_assign rfl) ?_
      refine g_nil ?_
      refine g_n_then ?_
      refine g_ret ?_
      refine g_r_scp ?_
      obtain rfl := Option.some.inj hm
      refine g_done rfl (fun w hh => (.tmp rfl (.tmp rfl (.tmp rfl .nil)))) (fun w hh => ⟨l_1, rfl, h11, hh.sel [] [0] 3 (by decide) (by decide) rfl rfl rfl⟩)
  ·replace hm := ifF h4 hm
   refine g_callN rfl rfl rfl rfl rfl rfl rfl (fun a w => Try.call102 a w) (fun w hh => cx_openedE s0 qa0 na0 ca0 qa1 na1 ca1 qa2 na2 ca2 w (HV.callee (S0 := []) (vs0 := []) hh (roC (hh.rsep (S0 := []) (vs0 := []) 0 rfl) (roC (hh.rsep (S0 := []) (vs0 := []) 1 rfl) (roC (hh.rsep (S0 := []) (vs0 := []) 2 rfl) roN)))) hna0 hqa0 hla0 hna1 hqa1 hla1 hna2 hqa2 hla2 h3 h4) (fun l_10 h41 => ?_)
   refine g_val rfl rfl rfl (fun _ _ => v_move rfl) ?_
   refine g_val rfl rfl rfl (fun _ _ => v_extract rfl rfl) ?_
   refine g_val rfl rfl rfl (fun _ _ => v_extract rfl rfl) ?_
   refine g_val rfl rfl rfl (fun _ _ => v_assign rfl) ?_
   refine g_val rfl rfl rfl (fun _ _ => v_assign rfl) ?_
   refine g_nil ?_
   refine g_n_then ?_
   refine g_seq ?_
   refine g_block ?_
   refine g_seq ?_
   refine g_region ?_
   refine g_val rfl rfl rfl (fun _ _ => v_move rfl) ?_
   refine g_val rfl rfl rfl (fun _ _ => v_neqT h4 rfl rfl) ?_
   refine g_val rfl rfl rfl (fun _ _ => v_assign rfl) ?_
   refine g_nil ?_
   refine g_n_then ?_
   refine g_condT rfl rfl ?_
   refine g_seq ?_
   refine g_region ?_
   refine g_val rfl rfl rfl (fun _ _ => v_move rfl) ?_
   refine g_val rfl rfl rfl (fun _ _ => v_assign rfl) ?_
   refine g_val rfl rfl rfl (fun _ _ => v_nilS rfl) ?_
   refine g_val rfl rfl rfl (fun _ _ => v_assign rfl) ?_
   refine g_nil ?_
   refine g_n_then ?_
   refine g_ret ?_
   refine g_r_blk ?_
   refine g_r_then ?_
   refine g_r_scp ?_
   refine g_vnil 3 ?_
   obtain rfl := Option.some.inj hm
   refine g_done rfl (fun w hh => (.tmp rfl (.tmp rfl (.tmp rfl .nil)))) (fun w hh => ⟨⟨none, 0, 0, []⟩, rfl, VOK.nil, hh.sel [] [0] 3 (by decide) (by decide) rfl rfl rfl⟩)
end Go.Proofs.Wk

