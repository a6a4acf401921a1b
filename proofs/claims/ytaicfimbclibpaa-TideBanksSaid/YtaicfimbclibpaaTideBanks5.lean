/- What the functions that the law TideBanks reaches come to, and why it holds: part 5. -/
import Derived.Test.YtaicfimbclibpaaTideBanks4
namespace Go.Proofs.Wk
open Go Go.Fw Go.Gx Go.Pl
set_option linter.unusedVariables false

def m_tide_in (n0 : Int) (lo1 : Int) (hi2 : Int) : Option Bool :=
 (if lo1 ≤ n0 then
 (some (decide (n0 ≤ hi2))) else
 (some false)).bind fun o =>
 some o
set_option maxRecDepth 100000 in
set_option maxHeartbeats 4000000 in
theorem c_tide_in (n0 : Int) (lo1 : Int) (hi2 : Int)  (w : World) (hw : HV w (keys [] []) [] [] [] w)  {res : Bool} (hm : m_tide_in n0 lo1 hi2 = some res) :
    Calls Try.prog 90 #[.int .i64 n0, .int .i64 lo1, .int .i64 hi2] w (fun en w' => ∃ l : Unit, en = .returned (.bool res) ∧ (True) ∧ HV w (keys [] []) [] [] [] w') := by
  unfold m_tide_in at hm
  refine g_enter (args := [.int .i64 n0, .int .i64 lo1, .int .i64 hi2]) Try.func90 rfl Try.ntmps90 rfl (e := [(0, _), (1, _), (2, _)]) rfl (H := HV w (keys [] []) [] [] []) hw ?_
  refine g_seq ?_
  refine g_region ?_
  refine g_val rfl rfl rfl (fun _ _ => v_assign rfl) ?_
  refine g_nil ?_
  refine g_n_then ?_
  refine g_seq ?_
  obtain ⟨o, h1, h2⟩ := bindO hm
  refine g_cut (ι := Unit) (fun l => True) (fun l => [(6, .bool o)]) (fun l => []) (fun l => []) ?_ ?_
  ·replace hm := h1
   refine g_region ?_
   refine g_val rfl rfl rfl (fun _ _ => v_move rfl) ?_
   refine g_val rfl rfl rfl (fun _ _ => v_move rfl) ?_
   refine g_val rfl rfl rfl (fun _ _ => v_geq rfl rfl) ?_
   refine g_val rfl rfl rfl (fun _ _ => v_move rfl) ?_
   refine g_case 10 rfl (fun h3 => ?_) (fun h3 => ?_)
   ·replace hm := ifT (of_decide_eq_true h3) hm
    refine v_unguard rfl rfl ?_
    refine g_val rfl rfl rfl (fun _ _ => v_move rfl) ?_
    refine v_unguard rfl rfl ?_
    refine g_val rfl rfl rfl (fun _ _ => v_move rfl) ?_
    refine v_unguard rfl rfl ?_
    refine g_val rfl rfl rfl (fun _ _ => v_leq rfl rfl) ?_
    refine g_val rfl rfl rfl (fun _ _ => v_pickT rfl rfl) ?_
    refine g_val rfl rfl rfl (fun _ _ => v_assign rfl) ?_
    refine g_nil ?_
    obtain rfl := Option.some.inj hm
    exact g_leaf () (trivial) ((.cons rfl .nil)) (fun w hh => hh)
   ·replace hm := ifF (of_decide_eq_false h3) hm
    refine g_skipG rfl rfl rfl rfl rfl rfl ?_
    refine g_skipG rfl rfl rfl rfl rfl rfl ?_
    refine g_skipG rfl rfl rfl rfl rfl rfl ?_
    refine g_val rfl rfl rfl (fun _ _ => v_pickF rfl rfl) ?_
    refine g_val rfl rfl rfl (fun _ _ => v_assign rfl) ?_
    refine g_nil ?_
    obtain rfl := Option.some.inj hm
    exact g_leaf () (trivial) ((.cons rfl .nil)) (fun w hh => hh)
  ·intro l hj
   replace hm := h2
   refine g_n_then ?_
   refine g_ret ?_
   obtain rfl := Option.some.inj hm
   refine g_done rfl (fun w hh => (.tmp rfl .nil)) (fun w hh => ⟨(), rfl, trivial, hh⟩)
def m_tide_Crest_1_1 (i0 : Int) (a11_table : (List Water)) (a11_wind_lo : Int) (a11_wind_hi : Int) (a11_floors : (List Int)) (a11_sills : (List Sill)) : Option Bool :=
 (subc (a11_sills.length : Int) 1).bind fun t8 =>
 (m_tide_in i0 0 t8).bind fun t9 =>
 some t9
set_option maxRecDepth 100000 in
set_option maxHeartbeats 4000000 in
theorem c_tide_Crest_1_1 (i0 : Int) (a11_table : (List Water)) (a11_wind_lo : Int) (a11_wind_hi : Int) (a11_floors : (List Int)) (a11_sills : (List Sill)) (pb : Nat) (qa0 : Option Addr) (na0 ca0 : Nat) (qa1 : Option Addr) (na1 ca1 : Nat) (qa2 : Option Addr) (na2 ca2 : Nat) (w : World) (hw : HV w (keys [(pb, .cells #[.slice qa0 na0 ca0, .int .i64 a11_wind_lo, .int .i64 a11_wind_hi, .slice qa1 na1 ca1, .slice qa2 na2 ca2] 29 (0, 0))] []) [(pb, .cells #[.slice qa0 na0 ca0, .int .i64 a11_wind_lo, .int .i64 a11_wind_hi, .slice qa1 na1 ca1, .slice qa2 na2 ca2] 29 (0, 0))] [] [(aB qa0, aO qa0, RW.enc a11_table), (aB qa1, aO qa1, RI.enc a11_floors), (aB qa2, aO qa2, RS.enc a11_sills)] w) (hna0 : a11_table.length = na0) (hqa0 : AOK na0 qa0) (hla0 : na0 ≤ ca0) (hna1 : a11_floors.length = na1) (hqa1 : AOK na1 qa1) (hla1 : na1 ≤ ca1) (hna2 : a11_sills.length = na2) (hqa2 : AOK na2 qa2) (hla2 : na2 ≤ ca2) {res : Bool} (hm : m_tide_Crest_1_1 i0 a11_table a11_wind_lo a11_wind_hi a11_floors a11_sills = some res) :
    Calls Try.prog 133 #[.int .i64 i0, ptr pb 0] w (fun en w' => ∃ l : Unit, en = .returned (.bool res) ∧ (True) ∧ HV w (keys [(pb, .cells #[.slice qa0 na0 ca0, .int .i64 a11_wind_lo, .int .i64 a11_wind_hi, .slice qa1 na1 ca1, .slice qa2 na2 ca2] 29 (0, 0))] []) [(pb, .cells #[.slice qa0 na0 ca0, .int .i64 a11_wind_lo, .int .i64 a11_wind_hi, .slice qa1 na1 ca1, .slice qa2 na2 ca2] 29 (0, 0))] [] [] w') := by
  unfold m_tide_Crest_1_1 at hm
  refine g_enter (args := [.int .i64 i0, ptr pb 0]) Try.func133 rfl Try.ntmps133 rfl (e := [(0, _), (1, _)]) rfl (H := HV w (keys [(pb, .cells #[.slice qa0 na0 ca0, .int .i64 a11_wind_lo, .int .i64 a11_wind_hi, .slice qa1 na1 ca1, .slice qa2 na2 ca2] 29 (0, 0))] []) [(pb, .cells #[.slice qa0 na0 ca0, .int .i64 a11_wind_lo, .int .i64 a11_wind_hi, .slice qa1 na1 ca1, .slice qa2 na2 ca2] 29 (0, 0))] [] [(aB qa0, aO qa0, RW.enc a11_table), (aB qa1, aO qa1, RI.enc a11_floors), (aB qa2, aO qa2, RS.enc a11_sills)]) hw ?_
  refine g_seq ?_
  refine g_region ?_
  refine g_val rfl rfl rfl (fun _ _ => v_assign rfl) ?_
  refine g_nil ?_
  refine g_n_then ?_
  refine g_seq ?_
  refine g_region ?_
  refine g_val rfl rfl rfl (fun _ _ => v_move rfl) ?_
  refine g_val rfl rfl rfl (fun w _ => v_fieldAddr 4 (Try.runUnderlying29 w) rfl (Try.sizeOf27 w) rfl) ?_
  refine g_val rfl rfl rfl (fun w hh => v_load (Try.isAgg27 w) rfl (hh.cell 0 rfl rfl)) ?_
  refine g_val rfl rfl rfl (fun w _ => v_lenR hna2 (Try.runUnderlying27 w) rfl) ?_
  obtain ⟨t8, h1, hm⟩ := bindO hm
  refine g_val rfl rfl rfl (fun _ _ => v_subc h1 rfl rfl) ?_
  obtain ⟨t9, h2, hm⟩ := bindO hm
  refine g_callH [] [] rfl rfl rfl rfl rfl rfl rfl (fun a w => Try.call90 a w) (fun w hh => c_tide_in i0 0 t8 w (HV.callee (S0 := []) (vs0 := []) hh roN)  h2) (fun l h3 => ?_)
  refine g_val rfl rfl rfl (fun _ _ => v_assign rfl) ?_
  refine g_nil ?_
  refine g_n_then ?_
  refine g_ret ?_
  obtain rfl := Option.some.inj hm
  refine g_done rfl (fun w hh => (.tmp rfl .nil)) (fun w hh => ⟨(), rfl, trivial, hh.sel [0] [] 3 (by decide) (by decide) rfl rfl rfl⟩)
def m_tide_every_int_1 (x0 : Int) (a11_c0_table : (List Water)) (a11_c0_wind_lo : Int) (a11_c0_wind_hi : Int) (a11_c0_floors : (List Int)) (a11_c0_sills : (List Sill)) : Option Bool :=
 (m_tide_Crest_1_1 x0 a11_c0_table a11_c0_wind_lo a11_c0_wind_hi a11_c0_floors a11_c0_sills).bind fun t6 =>
 some (!t6)
set_option maxRecDepth 100000 in
set_option maxHeartbeats 4000000 in
theorem c_tide_every_int_1 (x0 : Int) (a11_c0_table : (List Water)) (a11_c0_wind_lo : Int) (a11_c0_wind_hi : Int) (a11_c0_floors : (List Int)) (a11_c0_sills : (List Sill)) (pb : Nat) (pb_1 : Nat) (qa0 : Option Addr) (na0 ca0 : Nat) (qa1 : Option Addr) (na1 ca1 : Nat) (qa2 : Option Addr) (na2 ca2 : Nat) (w : World) (hw : HV w (keys [(pb, .cells #[.func (.func 133) #[] #[ptr pb_1 0]] 129 (0, 0)), (pb_1, .cells #[.slice qa0 na0 ca0, .int .i64 a11_c0_wind_lo, .int .i64 a11_c0_wind_hi, .slice qa1 na1 ca1, .slice qa2 na2 ca2] 29 (0, 0))] []) [(pb, .cells #[.func (.func 133) #[] #[ptr pb_1 0]] 129 (0, 0)), (pb_1, .cells #[.slice qa0 na0 ca0, .int .i64 a11_c0_wind_lo, .int .i64 a11_c0_wind_hi, .slice qa1 na1 ca1, .slice qa2 na2 ca2] 29 (0, 0))] [] [(aB qa0, aO qa0, RW.enc a11_c0_table), (aB qa1, aO qa1, RI.enc a11_c0_floors), (aB qa2, aO qa2, RS.enc a11_c0_sills)] w) (hna0 : a11_c0_table.length = na0) (hqa0 : AOK na0 qa0) (hla0 : na0 ≤ ca0) (hna1 : a11_c0_floors.length = na1) (hqa1 : AOK na1 qa1) (hla1 : na1 ≤ ca1) (hna2 : a11_c0_sills.length = na2) (hqa2 : AOK na2 qa2) (hla2 : na2 ≤ ca2) {res : Bool} (hm : m_tide_every_int_1 x0 a11_c0_table a11_c0_wind_lo a11_c0_wind_hi a11_c0_floors a11_c0_sills = some res) :
    Calls Try.prog 151 #[.int .i64 x0, ptr pb 0] w (fun en w' => ∃ l : Unit, en = .returned (.bool res) ∧ (True) ∧ HV w (keys [(pb, .cells #[.func (.func 133) #[] #[ptr pb_1 0]] 129 (0, 0)), (pb_1, .cells #[.slice qa0 na0 ca0, .int .i64 a11_c0_wind_lo, .int .i64 a11_c0_wind_hi, .slice qa1 na1 ca1, .slice qa2 na2 ca2] 29 (0, 0))] []) [(pb, .cells #[.func (.func 133) #[] #[ptr pb_1 0]] 129 (0, 0)), (pb_1, .cells #[.slice qa0 na0 ca0, .int .i64 a11_c0_wind_lo, .int .i64 a11_c0_wind_hi, .slice qa1 na1 ca1, .slice qa2 na2 ca2] 29 (0, 0))] [] [] w') := by
  unfold m_tide_every_int_1 at hm
  refine g_enter (args := [.int .i64 x0, ptr pb 0]) Try.func151 rfl Try.ntmps151 rfl (e := [(0, _), (1, _)]) rfl (H := HV w (keys [(pb, .cells #[.func (.func 133) #[] #[ptr pb_1 0]] 129 (0, 0)), (pb_1, .cells #[.slice qa0 na0 ca0, .int .i64 a11_c0_wind_lo, .int .i64 a11_c0_wind_hi, .slice qa1 na1 ca1, .slice qa2 na2 ca2] 29 (0, 0))] []) [(pb, .cells #[.func (.func 133) #[] #[ptr pb_1 0]] 129 (0, 0)), (pb_1, .cells #[.slice qa0 na0 ca0, .int .i64 a11_c0_wind_lo, .int .i64 a11_c0_wind_hi, .slice qa1 na1 ca1, .slice qa2 na2 ca2] 29 (0, 0))] [] [(aB qa0, aO qa0, RW.enc a11_c0_table), (aB qa1, aO qa1, RI.enc a11_c0_floors), (aB qa2, aO qa2, RS.enc a11_c0_sills)]) hw ?_
  refine g_seq ?_
  refine g_region ?_
  refine g_val rfl rfl rfl (fun _ _ => v_assign rfl) ?_
  refine g_nil ?_
  refine g_n_then ?_
  refine g_seq ?_
  refine g_region ?_
  refine g_val rfl rfl rfl (fun w hh => v_load (Try.isAgg129 w) rfl (hh.cell 0 rfl rfl)) ?_
  refine g_val rfl rfl rfl (fun _ _ => v_move rfl) ?_
  obtain ⟨t6, h1, hm⟩ := bindO hm
  refine g_sel (S' := [_, _]) (vs' := []) [1, 0] [] 0 (by decide) (by decide) rfl rfl rfl ?_
  refine g_callH [_] [] rfl rfl rfl rfl rfl rfl rfl (fun a w => Try.call133 a w) (fun w hh => c_tide_Crest_1_1 x0 a11_c0_table a11_c0_wind_lo a11_c0_wind_hi a11_c0_floors a11_c0_sills pb_1 qa0 na0 ca0 qa1 na1 ca1 qa2 na2 ca2 w (HV.callee (S0 := [_]) (vs0 := []) hh (roC (hh.rsep (S0 := [_]) (vs0 := []) 0 rfl) (roC (hh.rsep (S0 := [_]) (vs0 := []) 1 rfl) (roC (hh.rsep (S0 := [_]) (vs0 := []) 2 rfl) roN)))) hna0 hqa0 hla0 hna1 hqa1 hla1 hna2 hqa2 hla2 h1) (fun l h2 => ?_)
  refine g_sel (S' := [_, _]) (vs' := []) [0, 1] [] 0 (by decide) (by decide) rfl rfl rfl ?_
  refine g_val rfl rfl rfl (fun _ _ => v_not rfl) ?_
  refine g_val rfl rfl rfl (fun _ _ => v_assign rfl) ?_
  refine g_nil ?_
  refine g_n_then ?_
  refine g_ret ?_
  obtain rfl := Option.some.inj hm
  refine g_done rfl (fun w hh => (.tmp rfl .nil)) (fun w hh => ⟨(), rfl, trivial, hh.sel [1, 0] [] 3 (by decide) (by decide) rfl rfl rfl⟩)
def m_slices_IndexFunc_intint_L0 (s0 : (List Int)) (f1_c0_c0_table : (List Water)) (f1_c0_c0_wind_lo : Int) (f1_c0_c0_wind_hi : Int) (f1_c0_c0_floors : (List Int)) (f1_c0_c0_sills : (List Sill)) (s : Int) : Option (Int ⊕ (Unit ⊕ Int)) :=
 if s < (s0.length : Int) then
 ((ix s0 s).bind fun t14 =>
 (m_tide_every_int_1 t14 f1_c0_c0_table f1_c0_c0_wind_lo f1_c0_c0_wind_hi f1_c0_c0_floors f1_c0_c0_sills).bind fun t16 =>
 if t16 = true then
 (some (.inr (.inr s))) else
 ((addc s 1).bind fun t18 =>
 some (.inl t18))) else
 (some (.inr (.inl ())))
def m_slices_IndexFunc_intint (s0 : (List Int)) (f1_c0_c0_table : (List Water)) (f1_c0_c0_wind_lo : Int) (f1_c0_c0_wind_hi : Int) (f1_c0_c0_floors : (List Int)) (f1_c0_c0_sills : (List Sill)) : Option Int :=
 (iterM FU (m_slices_IndexFunc_intint_L0 s0 f1_c0_c0_table f1_c0_c0_wind_lo f1_c0_c0_wind_hi f1_c0_c0_floors f1_c0_c0_sills) 0).bind fun o =>
 oc o (fun j => some (-1)) (fun r_1 => some r_1)
set_option maxRecDepth 100000 in
set_option maxHeartbeats 4000000 in
theorem c_slices_IndexFunc_intint (s0 : (List Int)) (f1_c0_c0_table : (List Water)) (f1_c0_c0_wind_lo : Int) (f1_c0_c0_wind_hi : Int) (f1_c0_c0_floors : (List Int)) (f1_c0_c0_sills : (List Sill)) (qa0 : Option Addr) (na0 ca0 : Nat) (pb : Nat) (pb_1 : Nat) (qa1 : Option Addr) (na1 ca1 : Nat) (qa2 : Option Addr) (na2 ca2 : Nat) (qa3 : Option Addr) (na3 ca3 : Nat) (w : World) (hw : HV w (keys [(pb, .cells #[.func (.func 133) #[] #[ptr pb_1 0]] 129 (0, 0)), (pb_1, .cells #[.slice qa1 na1 ca1, .int .i64 f1_c0_c0_wind_lo, .int .i64 f1_c0_c0_wind_hi, .slice qa2 na2 ca2, .slice qa3 na3 ca3] 29 (0, 0))] []) [(pb, .cells #[.func (.func 133) #[] #[ptr pb_1 0]] 129 (0, 0)), (pb_1, .cells #[.slice qa1 na1 ca1, .int .i64 f1_c0_c0_wind_lo, .int .i64 f1_c0_c0_wind_hi, .slice qa2 na2 ca2, .slice qa3 na3 ca3] 29 (0, 0))] [] [(aB qa0, aO qa0, RI.enc s0), (aB qa1, aO qa1, RW.enc f1_c0_c0_table), (aB qa2, aO qa2, RI.enc f1_c0_c0_floors), (aB qa3, aO qa3, RS.enc f1_c0_c0_sills)] w) (hna0 : s0.length = na0) (hqa0 : AOK na0 qa0) (hla0 : na0 ≤ ca0) (hna1 : f1_c0_c0_table.length = na1) (hqa1 : AOK na1 qa1) (hla1 : na1 ≤ ca1) (hna2 : f1_c0_c0_floors.length = na2) (hqa2 : AOK na2 qa2) (hla2 : na2 ≤ ca2) (hna3 : f1_c0_c0_sills.length = na3) (hqa3 : AOK na3 qa3) (hla3 : na3 ≤ ca3) {res : Int} (hm : m_slices_IndexFunc_intint s0 f1_c0_c0_table f1_c0_c0_wind_lo f1_c0_c0_wind_hi f1_c0_c0_floors f1_c0_c0_sills = some res) :
    Calls Try.prog 143 #[.slice qa0 na0 ca0, .func (.func 151) #[] #[ptr pb 0]] w (fun en w' => ∃ l : Unit, en = .returned (.int .i64 res) ∧ (True) ∧ HV w (keys [(pb, .cells #[.func (.func 133) #[] #[ptr pb_1 0]] 129 (0, 0)), (pb_1, .cells #[.slice qa1 na1 ca1, .int .i64 f1_c0_c0_wind_lo, .int .i64 f1_c0_c0_wind_hi, .slice qa2 na2 ca2, .slice qa3 na3 ca3] 29 (0, 0))] []) [(pb, .cells #[.func (.func 133) #[] #[ptr pb_1 0]] 129 (0, 0)), (pb_1, .cells #[.slice qa1 na1 ca1, .int .i64 f1_c0_c0_wind_lo, .int .i64 f1_c0_c0_wind_hi, .slice qa2 na2 ca2, .slice qa3 na3 ca3] 29 (0, 0))] [] [] w') := by
  unfold m_slices_IndexFunc_intint at hm
  refine g_enter (args := [.slice qa0 na0 ca0, .func (.func 151) #[] #[ptr pb 0]]) Try.func143 rfl Try.ntmps143 rfl (e := [(0, _), (1, _)]) rfl (H := HV w (keys [(pb, .cells #[.func (.func 133) #[] #[ptr pb_1 0]] 129 (0, 0)), (pb_1, .cells #[.slice qa1 na1 ca1, .int .i64 f1_c0_c0_wind_lo, .int .i64 f1_c0_c0_wind_hi, .slice qa2 na2 ca2, .slice qa3 na3 ca3] 29 (0, 0))] []) [(pb, .cells #[.func (.func 133) #[] #[ptr pb_1 0]] 129 (0, 0)), (pb_1, .cells #[.slice qa1 na1 ca1, .int .i64 f1_c0_c0_wind_lo, .int .i64 f1_c0_c0_wind_hi, .slice qa2 na2 ca2, .slice qa3 na3 ca3] 29 (0, 0))] [] [(aB qa0, aO qa0, RI.enc s0), (aB qa1, aO qa1, RW.enc f1_c0_c0_table), (aB qa2, aO qa2, RI.enc f1_c0_c0_floors), (aB qa3, aO qa3, RS.enc f1_c0_c0_sills)]) hw ?_
  refine g_seq ?_
  refine g_region ?_
  refine g_val rfl rfl rfl (fun _ _ => v_assign rfl) ?_
  refine g_nil ?_
  refine g_n_then ?_
  refine g_seq ?_
  refine g_seq ?_
  refine g_region ?_
  refine g_val rfl rfl rfl (fun _ _ => v_move rfl) ?_
  refine g_val rfl rfl rfl (fun w _ => v_lenR hna0 (Try.runUnderlying26 w) rfl) ?_
  refine g_val rfl rfl rfl (fun _ _ => v_move rfl) ?_
  refine g_nil ?_
  refine g_n_then ?_
  obtain ⟨o, h1, h2⟩ := bindO hm
  refine g_cut (ι := Unit) (fun j => o = .inl j) (fun j => []) (fun j => [(pb, .cells #[.func (.func 133) #[] #[ptr pb_1 0]] 129 (0, 0)), (pb_1, .cells #[.slice qa1 na1 ca1, .int .i64 f1_c0_c0_wind_lo, .int .i64 f1_c0_c0_wind_hi, .slice qa2 na2 ca2, .slice qa3 na3 ca3] 29 (0, 0))]) (fun j => []) ?_ ?_
  ·replace hm := h1
   refine g_block ?_
   refine g_loopF (ι := Unit) hm (fun s l => True) (fun s l => [(0, .slice qa0 na0 ca0), (1, .func (.func 151) #[] #[ptr pb 0]), (7, .int .i64 (s0.length : Int)), (8, .int .i64 s)]) (fun s l => [(pb, .cells #[.func (.func 133) #[] #[ptr pb_1 0]] 129 (0, 0)), (pb_1, .cells #[.slice qa1 na1 ca1, .int .i64 f1_c0_c0_wind_lo, .int .i64 f1_c0_c0_wind_hi, .slice qa2 na2 ca2, .slice qa3 na3 ca3] 29 (0, 0))]) (fun s l => []) () (trivial) ((.cons rfl (.cons rfl (.cons rfl (.cons rfl .nil))))) (fun w hh => hh) (fun s l r hpl hm h3 => ?_)
   unfold m_slices_IndexFunc_intint_L0 at hm
   refine g_seq ?_
   refine g_region ?_
   refine g_val rfl rfl rfl (fun _ _ => v_lss rfl rfl) ?_
   refine g_nil ?_
   refine g_n_then ?_
   refine g_seq ?_
   refine g_cond rfl (fun h4 => ?_) (fun h4 => ?_)
   ·replace hm := ifT (of_decide_eq_true h4) hm
    refine g_skip ?_
    refine g_n_then ?_
    refine g_seq ?_
    refine g_block ?_
    refine g_seq ?_
    refine g_region ?_
    refine g_val rfl rfl rfl (fun _ _ => v_move rfl) ?_
    refine g_val rfl rfl rfl (fun _ _ => v_assign rfl) ?_
    refine g_nil ?_
    refine g_n_then ?_
    refine g_seq ?_
    refine g_region ?_
    refine g_val rfl rfl rfl (fun _ _ => v_move rfl) ?_
    refine g_val rfl rfl rfl (fun _ _ => v_move rfl) ?_
    refine g_val rfl rfl rfl (fun _ _ => v_move rfl) ?_
    obtain ⟨t14, h5, hm⟩ := bindO hm
    refine g_val rfl rfl rfl (fun w _ => v_ixR h5 (Try.runUnderlying26 w) (Try.sizeOf3 w) rfl rfl hna0 hqa0) ?_
    refine g_val rfl rfl rfl (fun w hh => v_ldE RI 0 h5 (Try.isAgg3 w) rfl (hh.seg 0 rfl) rfl (Nat.add_zero _).symm) ?_
    obtain ⟨t16, h6, hm⟩ := bindO hm
    refine g_callH [_, _] [] rfl rfl rfl rfl rfl rfl rfl (fun a w => Try.call151 a w) (fun w hh => c_tide_every_int_1 t14 f1_c0_c0_table f1_c0_c0_wind_lo f1_c0_c0_wind_hi f1_c0_c0_floors f1_c0_c0_sills pb pb_1 qa1 na1 ca1 qa2 na2 ca2 qa3 na3 ca3 w (HV.callee (S0 := [_, _]) (vs0 := []) hh (roC (hh.rsep (S0 := [_, _]) (vs0 := []) 1 rfl) (roC (hh.rsep (S0 := [_, _]) (vs0 := []) 2 rfl) (roC (hh.rsep (S0 := [_, _]) (vs0 := []) 3 rfl) roN)))) hna1 hqa1 hla1 hna2 hqa2 hla2 hna3 hqa3 hla3 h6) (fun l_1 h7 => ?_)
    refine g_sel (S' := [_, _]) (vs' := []) [0, 1] [] 0 (by decide) (by decide) rfl rfl rfl ?_
    refine g_nil ?_
    refine g_n_then ?_
    refine g_cond rfl (fun h8 => ?_) (fun h8 => ?_)
    ·replace hm := ifT (h8) hm
     refine g_seq ?_
     refine g_region ?_
     refine g_val rfl rfl rfl (fun _ _ => v_move rfl) ?_
     refine g_val rfl rfl rfl (fun _ _ => v_assign rfl) ?_
     refine g_nil ?_
     refine g_n_then ?_
     refine g_ret ?_
     refine g_r_blk ?_
     refine g_r_then ?_
     refine g_r_then ?_
     refine g_r_blk ?_
     obtain rfl := Option.some.inj hm
     have hbo := h3 _ rfl
     subst hbo
     refine g_r_then ?_
     replace hm := ocR h2
     refine g_r_then ?_
     obtain rfl := Option.some.inj hm
     refine g_done rfl (fun w hh => (.tmp rfl .nil)) (fun w hh => ⟨(), rfl, trivial, hh.sel [0, 1] [] 4 (by decide) (by decide) rfl rfl rfl⟩)
    ·replace hm := ifF ((fun hh => Bool.noConfusion ((h8).symm.trans hh))) hm
     refine g_skip ?_
     refine g_n_blk ?_
     refine g_n_then ?_
     refine g_region ?_
     obtain ⟨t18, h9, hm⟩ := bindO hm
     refine g_val rfl rfl rfl (fun _ _ => v_addc h9 rfl rfl) ?_
     refine g_val rfl rfl rfl (fun _ _ => v_move rfl) ?_
     refine g_nil ?_
     obtain rfl := Option.some.inj hm
     refine g_n_then ?_
     exact g_again' _ () rfl (trivial) ((.cons rfl (.cons rfl (.cons rfl (.cons rfl .nil))))) (fun w hh => hh)
   ·replace hm := ifF (of_decide_eq_false h4) hm
    refine g_exit ?_
    refine g_x_then ?_
    refine g_x_then ?_
    refine g_x_blk ?_
    obtain rfl := Option.some.inj hm
    have hbo := h3 _ rfl
    subst hbo
    exact g_leaf () (rfl) (.nil) (fun w hh => hh)
  ·intro j hj
   have h10 := hj
   subst h10
   replace hm := ocL h2
   refine g_n_then ?_
   refine g_seq ?_
   refine g_region ?_
   refine g_val rfl rfl rfl (fun _ _ => v_assign rfl) ?_
   refine g_nil ?_
   refine g_n_then ?_
   refine g_ret ?_
   obtain rfl := Option.some.inj hm
   refine g_done rfl (fun w hh => (.tmp rfl .nil)) (fun w hh => ⟨(), rfl, trivial, hh.sel [0, 1] [] 4 (by decide) (by decide) rfl rfl rfl⟩)
def m_slices_ContainsFunc_intint (s0 : (List Int)) (f1_c0_c0_table : (List Water)) (f1_c0_c0_wind_lo : Int) (f1_c0_c0_wind_hi : Int) (f1_c0_c0_floors : (List Int)) (f1_c0_c0_sills : (List Sill)) : Option Bool :=
 (m_slices_IndexFunc_intint s0 f1_c0_c0_table f1_c0_c0_wind_lo f1_c0_c0_wind_hi f1_c0_c0_floors f1_c0_c0_sills).bind fun t7 =>
 some (decide (0 ≤ t7))
set_option maxRecDepth 100000 in
set_option maxHeartbeats 4000000 in
theorem c_slices_ContainsFunc_intint (s0 : (List Int)) (f1_c0_c0_table : (List Water)) (f1_c0_c0_wind_lo : Int) (f1_c0_c0_wind_hi : Int) (f1_c0_c0_floors : (List Int)) (f1_c0_c0_sills : (List Sill)) (qa0 : Option Addr) (na0 ca0 : Nat) (pb : Nat) (pb_1 : Nat) (qa1 : Option Addr) (na1 ca1 : Nat) (qa2 : Option Addr) (na2 ca2 : Nat) (qa3 : Option Addr) (na3 ca3 : Nat) (w : World) (hw : HV w (keys [(pb, .cells #[.func (.func 133) #[] #[ptr pb_1 0]] 129 (0, 0)), (pb_1, .cells #[.slice qa1 na1 ca1, .int .i64 f1_c0_c0_wind_lo, .int .i64 f1_c0_c0_wind_hi, .slice qa2 na2 ca2, .slice qa3 na3 ca3] 29 (0, 0))] []) [(pb, .cells #[.func (.func 133) #[] #[ptr pb_1 0]] 129 (0, 0)), (pb_1, .cells #[.slice qa1 na1 ca1, .int .i64 f1_c0_c0_wind_lo, .int .i64 f1_c0_c0_wind_hi, .slice qa2 na2 ca2, .slice qa3 na3 ca3] 29 (0, 0))] [] [(aB qa0, aO qa0, RI.enc s0), (aB qa1, aO qa1, RW.enc f1_c0_c0_table), (aB qa2, aO qa2, RI.enc f1_c0_c0_floors), (aB qa3, aO qa3, RS.enc f1_c0_c0_sills)] w) (hna0 : s0.length = na0) (hqa0 : AOK na0 qa0) (hla0 : na0 ≤ ca0) (hna1 : f1_c0_c0_table.length = na1) (hqa1 : AOK na1 qa1) (hla1 : na1 ≤ ca1) (hna2 : f1_c0_c0_floors.length = na2) (hqa2 : AOK na2 qa2) (hla2 : na2 ≤ ca2) (hna3 : f1_c0_c0_sills.length = na3) (hqa3 : AOK na3 qa3) (hla3 : na3 ≤ ca3) {res : Bool} (hm : m_slices_ContainsFunc_intint s0 f1_c0_c0_table f1_c0_c0_wind_lo f1_c0_c0_wind_hi f1_c0_c0_floors f1_c0_c0_sills = some res) :
    Calls Try.prog 78 #[.slice qa0 na0 ca0, .func (.func 151) #[] #[ptr pb 0]] w (fun en w' => ∃ l : Unit, en = .returned (.bool res) ∧ (True) ∧ HV w (keys [(pb, .cells #[.func (.func 133) #[] #[ptr pb_1 0]] 129 (0, 0)), (pb_1, .cells #[.slice qa1 na1 ca1, .int .i64 f1_c0_c0_wind_lo, .int .i64 f1_c0_c0_wind_hi, .slice qa2 na2 ca2, .slice qa3 na3 ca3] 29 (0, 0))] []) [(pb, .cells #[.func (.func 133) #[] #[ptr pb_1 0]] 129 (0, 0)), (pb_1, .cells #[.slice qa1 na1 ca1, .int .i64 f1_c0_c0_wind_lo, .int .i64 f1_c0_c0_wind_hi, .slice qa2 na2 ca2, .slice qa3 na3 ca3] 29 (0, 0))] [] [] w') := by
  unfold m_slices_ContainsFunc_intint at hm
  refine g_enter (args := [.slice qa0 na0 ca0, .func (.func 151) #[] #[ptr pb 0]]) Try.func78 rfl Try.ntmps78 rfl (e := [(0, _), (1, _)]) rfl (H := HV w (keys [(pb, .cells #[.func (.func 133) #[] #[ptr pb_1 0]] 129 (0, 0)), (pb_1, .cells #[.slice qa1 na1 ca1, .int .i64 f1_c0_c0_wind_lo, .int .i64 f1_c0_c0_wind_hi, .slice qa2 na2 ca2, .slice qa3 na3 ca3] 29 (0, 0))] []) [(pb, .cells #[.func (.func 133) #[] #[ptr pb_1 0]] 129 (0, 0)), (pb_1, .cells #[.slice qa1 na1 ca1, .int .i64 f1_c0_c0_wind_lo, .int .i64 f1_c0_c0_wind_hi, .slice qa2 na2 ca2, .slice qa3 na3 ca3] 29 (0, 0))] [] [(aB qa0, aO qa0, RI.enc s0), (aB qa1, aO qa1, RW.enc f1_c0_c0_table), (aB qa2, aO qa2, RI.enc f1_c0_c0_floors), (aB qa3, aO qa3, RS.enc f1_c0_c0_sills)]) hw ?_
  refine g_seq ?_
  refine g_region ?_
  refine g_val rfl rfl rfl (fun _ _ => v_assign rfl) ?_
  refine g_nil ?_
  refine g_n_then ?_
  refine g_seq ?_
  refine g_region ?_
  refine g_val rfl rfl rfl (fun _ _ => v_move rfl) ?_
  refine g_val rfl rfl rfl (fun _ _ => v_move rfl) ?_
  obtain ⟨t7, h1, hm⟩ := bindO hm
  refine g_callH [_, _] [] rfl rfl rfl rfl rfl rfl rfl (fun a w => Try.call143 a w) (fun w hh => c_slices_IndexFunc_intint s0 f1_c0_c0_table f1_c0_c0_wind_lo f1_c0_c0_wind_hi f1_c0_c0_floors f1_c0_c0_sills qa0 na0 ca0 pb pb_1 qa1 na1 ca1 qa2 na2 ca2 qa3 na3 ca3 w (HV.callee (S0 := [_, _]) (vs0 := []) hh (roC (hh.rsep (S0 := [_, _]) (vs0 := []) 0 rfl) (roC (hh.rsep (S0 := [_, _]) (vs0 := []) 1 rfl) (roC (hh.rsep (S0 := [_, _]) (vs0 := []) 2 rfl) (roC (hh.rsep (S0 := [_, _]) (vs0 := []) 3 rfl) roN))))) hna0 hqa0 hla0 hna1 hqa1 hla1 hna2 hqa2 hla2 hna3 hqa3 hla3 h1) (fun l h2 => ?_)
  refine g_sel (S' := [_, _]) (vs' := []) [0, 1] [] 0 (by decide) (by decide) rfl rfl rfl ?_
  refine g_val rfl rfl rfl (fun _ _ => v_geq rfl rfl) ?_
  refine g_val rfl rfl rfl (fun _ _ => v_assign rfl) ?_
  refine g_nil ?_
  refine g_n_then ?_
  refine g_ret ?_
  obtain rfl := Option.some.inj hm
  refine g_done rfl (fun w hh => (.tmp rfl .nil)) (fun w hh => ⟨(), rfl, trivial, hh.sel [0, 1] [] 4 (by decide) (by decide) rfl rfl rfl⟩)
def m_tide_every_int (l0 : (List Int)) (holds1_c0_table : (List Water)) (holds1_c0_wind_lo : Int) (holds1_c0_wind_hi : Int) (holds1_c0_floors : (List Int)) (holds1_c0_sills : (List Sill)) : Option Bool :=
 (m_slices_ContainsFunc_intint l0 holds1_c0_table holds1_c0_wind_lo holds1_c0_wind_hi holds1_c0_floors holds1_c0_sills).bind fun t7 =>
 some (!t7)
set_option maxRecDepth 100000 in
set_option maxHeartbeats 4000000 in
theorem c_tide_every_int (l0 : (List Int)) (holds1_c0_table : (List Water)) (holds1_c0_wind_lo : Int) (holds1_c0_wind_hi : Int) (holds1_c0_floors : (List Int)) (holds1_c0_sills : (List Sill)) (qa0 : Option Addr) (na0 ca0 : Nat) (pb : Nat) (qa1 : Option Addr) (na1 ca1 : Nat) (qa2 : Option Addr) (na2 ca2 : Nat) (qa3 : Option Addr) (na3 ca3 : Nat) (w : World) (hw : HV w (keys [(pb, .cells #[.slice qa1 na1 ca1, .int .i64 holds1_c0_wind_lo, .int .i64 holds1_c0_wind_hi, .slice qa2 na2 ca2, .slice qa3 na3 ca3] 29 (0, 0))] []) [(pb, .cells #[.slice qa1 na1 ca1, .int .i64 holds1_c0_wind_lo, .int .i64 holds1_c0_wind_hi, .slice qa2 na2 ca2, .slice qa3 na3 ca3] 29 (0, 0))] [] [(aB qa0, aO qa0, RI.enc l0), (aB qa1, aO qa1, RW.enc holds1_c0_table), (aB qa2, aO qa2, RI.enc holds1_c0_floors), (aB qa3, aO qa3, RS.enc holds1_c0_sills)] w) (hna0 : l0.length = na0) (hqa0 : AOK na0 qa0) (hla0 : na0 ≤ ca0) (hna1 : holds1_c0_table.length = na1) (hqa1 : AOK na1 qa1) (hla1 : na1 ≤ ca1) (hna2 : holds1_c0_floors.length = na2) (hqa2 : AOK na2 qa2) (hla2 : na2 ≤ ca2) (hna3 : holds1_c0_sills.length = na3) (hqa3 : AOK na3 qa3) (hla3 : na3 ≤ ca3) {res : Bool} (hm : m_tide_every_int l0 holds1_c0_table holds1_c0_wind_lo holds1_c0_wind_hi holds1_c0_floors holds1_c0_sills = some res) :
    Calls Try.prog 94 #[.slice qa0 na0 ca0, .func (.func 133) #[] #[ptr pb 0]] w (fun en w' => ∃ l : Unit, en = .returned (.bool res) ∧ (True) ∧ HV w (keys [(pb, .cells #[.slice qa1 na1 ca1, .int .i64 holds1_c0_wind_lo, .int .i64 holds1_c0_wind_hi, .slice qa2 na2 ca2, .slice qa3 na3 ca3] 29 (0, 0))] []) [(pb, .cells #[.slice qa1 na1 ca1, .int .i64 holds1_c0_wind_lo, .int .i64 holds1_c0_wind_hi, .slice qa2 na2 ca2, .slice qa3 na3 ca3] 29 (0, 0))] [] [] w') := by
  unfold m_tide_every_int at hm
  refine g_enter (args := [.slice qa0 na0 ca0, .func (.func 133) #[] #[ptr pb 0]]) Try.func94 rfl Try.ntmps94 rfl (e := [(0, _), (1, _)]) rfl (H := HV w (keys [(pb, .cells #[.slice qa1 na1 ca1, .int .i64 holds1_c0_wind_lo, .int .i64 holds1_c0_wind_hi, .slice qa2 na2 ca2, .slice qa3 na3 ca3] 29 (0, 0))] []) [(pb, .cells #[.slice qa1 na1 ca1, .int .i64 holds1_c0_wind_lo, .int .i64 holds1_c0_wind_hi, .slice qa2 na2 ca2, .slice qa3 na3 ca3] 29 (0, 0))] [] [(aB qa0, aO qa0, RI.enc l0), (aB qa1, aO qa1, RW.enc holds1_c0_table), (aB qa2, aO qa2, RI.enc holds1_c0_floors), (aB qa3, aO qa3, RS.enc holds1_c0_sills)]) hw ?_
  refine g_seq ?_
  refine g_region ?_
  refine g_boxV rfl rfl (fun b h1 => ?_)
  refine g_val rfl rfl rfl (fun _ _ => v_assign rfl) ?_
  refine g_nil ?_
  refine g_n_then ?_
  refine g_seq ?_
  refine g_region ?_
  refine g_val rfl rfl rfl (fun _ _ => v_move rfl) ?_
  refine g_val rfl rfl rfl (fun _ _ => v_makeFunc (u := #[]) (u' := #[_]) rfl rfl) ?_
  obtain ⟨t7, h2, hm⟩ := bindO hm
  refine g_callH [_, _] [] rfl rfl rfl rfl rfl rfl rfl (fun a w => Try.call78 a w) (fun w hh => c_slices_ContainsFunc_intint l0 holds1_c0_table holds1_c0_wind_lo holds1_c0_wind_hi holds1_c0_floors holds1_c0_sills qa0 na0 ca0 b pb qa1 na1 ca1 qa2 na2 ca2 qa3 na3 ca3 w (HV.callee (S0 := [_, _]) (vs0 := []) hh (roC (hh.rsep (S0 := [_, _]) (vs0 := []) 0 rfl) (roC (hh.rsep (S0 := [_, _]) (vs0 := []) 1 rfl) (roC (hh.rsep (S0 := [_, _]) (vs0 := []) 2 rfl) (roC (hh.rsep (S0 := [_, _]) (vs0 := []) 3 rfl) roN))))) hna0 hqa0 hla0 hna1 hqa1 hla1 hna2 hqa2 hla2 hna3 hqa3 hla3 h2) (fun l h3 => ?_)
  refine g_sel (S' := [_, _]) (vs' := []) [0, 1] [] 0 (by decide) (by decide) rfl rfl rfl ?_
  refine g_val rfl rfl rfl (fun _ _ => v_not rfl) ?_
  refine g_val rfl rfl rfl (fun _ _ => v_assign rfl) ?_
  refine g_nil ?_
  refine g_n_then ?_
  refine g_ret ?_
  obtain rfl := Option.some.inj hm
  refine g_done rfl (fun w hh => (.tmp rfl .nil)) (fun w hh => ⟨(), rfl, trivial, hh.sel [1] [] 4 (by decide) (by decide) rfl rfl rfl⟩)
structure m_tide_highest_S0 where
  n0 : Int
  t9 : Int
def m_tide_highest_L0 (l1 : (List Int)) (s : m_tide_highest_S0) : Option (m_tide_highest_S0 ⊕ Int) :=
 if s.t9 < (l1.length : Int) then
 ((ix l1 s.t9).bind fun t11 =>
 (addc s.t9 1).bind fun t16 =>
 some (.inl (⟨(max s.n0 t11), t16⟩ : m_tide_highest_S0))) else
 (some (.inr s.n0))
def m_tide_highest (n0 : Int) (l1 : (List Int)) : Option Int :=
 (iterM FU (m_tide_highest_L0 l1) (⟨n0, 0⟩ : m_tide_highest_S0)).bind fun o =>
 some o
set_option maxRecDepth 100000 in
set_option maxHeartbeats 4000000 in
theorem c_tide_highest (n0 : Int) (l1 : (List Int)) (qa0 : Option Addr) (na0 ca0 : Nat) (w : World) (hw : HV w (keys [] []) [] [] [(aB qa0, aO qa0, RI.enc l1)] w) (hna0 : l1.length = na0) (hqa0 : AOK na0 qa0) (hla0 : na0 ≤ ca0) {res : Int} (hm : m_tide_highest n0 l1 = some res) :
    Calls Try.prog 134 #[.int .i64 n0, .slice qa0 na0 ca0] w (fun en w' => ∃ l : Unit, en = .returned (.int .i64 res) ∧ (True) ∧ HV w (keys [] []) [] [] [] w') := by
  unfold m_tide_highest at hm
  refine g_enter (args := [.int .i64 n0, .slice qa0 na0 ca0]) Try.func134 rfl Try.ntmps134 rfl (e := [(0, _), (1, _)]) rfl (H := HV w (keys [] []) [] [] [(aB qa0, aO qa0, RI.enc l1)]) hw ?_
  refine g_seq ?_
  refine g_region ?_
  refine g_val rfl rfl rfl (fun _ _ => v_assign rfl) ?_
  refine g_nil ?_
  refine g_n_then ?_
  refine g_seq ?_
  refine g_seq ?_
  refine g_region ?_
  refine g_val rfl rfl rfl (fun _ _ => v_move rfl) ?_
  refine g_val rfl rfl rfl (fun w _ => v_lenR hna0 (Try.runUnderlying26 w) rfl) ?_
  refine g_val rfl rfl rfl (fun _ _ => v_move rfl) ?_
  refine g_nil ?_
  refine g_n_then ?_
  obtain ⟨o, h1, h2⟩ := bindO hm
  refine g_cut (ι := Unit) (fun l => True) (fun l => [(0, .int .i64 o)]) (fun l => []) (fun l => []) ?_ ?_
  ·replace hm := h1
   refine g_block ?_
   refine g_loopF (ι := Unit) hm (fun s l_1 => True) (fun s l_1 => [(0, .int .i64 s.n0), (7, .slice qa0 na0 ca0), (8, .int .i64 (l1.length : Int)), (9, .int .i64 s.t9)]) (fun s l_1 => []) (fun s l_1 => []) () (trivial) ((.cons rfl (.cons rfl (.cons rfl (.cons rfl .nil))))) (fun w hh => hh) (fun s l_1 r hpl hm h3 => ?_)
   unfold m_tide_highest_L0 at hm
   refine g_seq ?_
   refine g_region ?_
   refine g_val rfl rfl rfl (fun _ _ => v_lss rfl rfl) ?_
   refine g_nil ?_
   refine g_n_then ?_
   refine g_seq ?_
   refine g_cond rfl (fun h4 => ?_) (fun h4 => ?_)
   ·replace hm := ifT (of_decide_eq_true h4) hm
    refine g_skip ?_
    refine g_n_then ?_
    refine g_seq ?_
    refine g_block ?_
    refine g_seq ?_
    refine g_region ?_
    obtain ⟨t11, h5, hm⟩ := bindO hm
    refine g_val rfl rfl rfl (fun w _ => v_ixR h5 (Try.runUnderlying26 w) (Try.sizeOf3 w) rfl rfl hna0 hqa0) ?_
    refine g_val rfl rfl rfl (fun w hh => v_ldE RI 0 h5 (Try.isAgg3 w) rfl (hh.seg 0 rfl) rfl (Nat.add_zero _).symm) ?_
    refine g_val rfl rfl rfl (fun _ _ => v_assign rfl) ?_
    refine g_nil ?_
    refine g_n_then ?_
    refine g_region ?_
    refine g_val rfl rfl rfl (fun _ _ => v_move rfl) ?_
    refine g_val rfl rfl rfl (fun _ _ => v_move rfl) ?_
    refine g_val rfl rfl rfl (fun _ _ => v_max rfl rfl) ?_
    refine g_val rfl rfl rfl (fun _ _ => v_assign rfl) ?_
    refine g_nil ?_
    refine g_n_blk ?_
    refine g_n_then ?_
    refine g_region ?_
    obtain ⟨t16, h6, hm⟩ := bindO hm
    refine g_val rfl rfl rfl (fun _ _ => v_addc h6 rfl rfl) ?_
    refine g_val rfl rfl rfl (fun _ _ => v_move rfl) ?_
    refine g_nil ?_
    obtain rfl := Option.some.inj hm
    refine g_n_then ?_
    exact g_again' _ () rfl (trivial) ((.cons rfl (.cons rfl (.cons rfl (.cons rfl .nil))))) (fun w hh => hh)
   ·replace hm := ifF (of_decide_eq_false h4) hm
    refine g_exit ?_
    refine g_x_then ?_
    refine g_x_then ?_
    refine g_x_blk ?_
    obtain rfl := Option.some.inj hm
    have hbo := h3 _ rfl
    subst hbo
    exact g_leaf () (trivial) ((.cons rfl .nil)) (fun w hh => hh)
  ·intro l hj
   replace hm := h2
   refine g_n_then ?_
   refine g_seq ?_
   refine g_region ?_
   refine g_val rfl rfl rfl (fun _ _ => v_move rfl) ?_
   refine g_val rfl rfl rfl (fun _ _ => v_assign rfl) ?_
   refine g_nil ?_
   refine g_n_then ?_
   refine g_ret ?_
   obtain rfl := Option.some.inj hm
   refine g_done rfl (fun w hh => (.tmp rfl .nil)) (fun w hh => ⟨(), rfl, trivial, hh.sel [] [] 1 (by decide) (by decide) rfl rfl rfl⟩)
structure m_tide_Crest_1_R where
  r0 : Int
  r1 : Int
structure m_tide_Crest_1_C1 where
  at10 : Int
  crest11 : Int
  t39 : (List (Int × Bool))
structure m_tide_Crest_1_S0 where
  at10 : Int
  crest11 : Int
  t43 : Int
  t39 : (List (Int × Bool))
def m_tide_Crest_1_L0 (way2 : (List Int)) (s0 : Sands) (s : m_tide_Crest_1_S0) : Option (m_tide_Crest_1_S0 ⊕ (m_tide_Crest_1_C1 ⊕ m_tide_Crest_1_R)) :=
 if s.t43 < (way2.length : Int) then
 ((ix way2 s.t43).bind fun t45 =>
 (ix s0.sills t45).bind fun t50 =>
 (if s.at10 = t50.a then
 (some (.inl t50.b)) else
 (if s.at10 = t50.b then
 (some (.inl t50.a)) else
 (some (.inr (⟨0, 8⟩ : m_tide_Crest_1_R))))).bind fun o_2 =>
 oc o_2 (fun j_1 => if ((aget s.t39 j_1).getD false) = true then
 (some (.inr (.inr (⟨0, 8⟩ : m_tide_Crest_1_R)))) else
 ((ix s0.floors j_1).bind fun t76 =>
 (m_tide_highest s.crest11 [t50.h, t76]).bind fun t79 =>
 (some (aset s.t39 j_1 true)).bind fun t39_1 =>
 (addc s.t43 1).bind fun t80 =>
 some (.inl (⟨j_1, t79, t80, t39_1⟩ : m_tide_Crest_1_S0)))) (fun r_1 => some (.inr (.inr r_1)))) else
 (some (.inr (.inl (⟨s.at10, s.crest11, s.t39⟩ : m_tide_Crest_1_C1))))
def m_tide_Crest_1 (s0 : Sands) (place1 : Int) (way2 : (List Int)) : Option m_tide_Crest_1_R :=
 if s0.table.length ≤ 8796093022208 ∧ s0.floors.length ≤ 17592186044416 ∧ s0.sills.length ≤ 5864062014805 then (if check s0 = 0 then
 (((x_place s0 place1).bind fun t31 =>
 if (!t31) = true then
 (some true) else
 ((m_tide_every_int way2 s0.table s0.wind.lo s0.wind.hi s0.floors s0.sills).bind fun t36 =>
 some (!t36))).bind fun o =>
 if o = true then
 (some (⟨0, 1⟩ : m_tide_Crest_1_R)) else
 ((some (aset [] (-1) true)).bind fun t39 =>
 (iterM FU (m_tide_Crest_1_L0 way2 s0) (⟨-1, 0, 0, t39⟩ : m_tide_Crest_1_S0)).bind fun o_1 =>
 oc o_1 (fun j => if j.at10 = place1 then
 (some (⟨j.crest11, 0⟩ : m_tide_Crest_1_R)) else
 (some (⟨0, 8⟩ : m_tide_Crest_1_R))) (fun r_2 => some r_2))) else
 (some (⟨0, (check s0)⟩ : m_tide_Crest_1_R))) else none
set_option maxRecDepth 100000 in
set_option maxHeartbeats 4000000 in
theorem c_tide_Crest_1 (s0 : Sands) (place1 : Int) (way2 : (List Int)) (qa0 : Option (Nat × Nat)) (na0 ca0 : Nat) (qa1 : Option (Nat × Nat)) (na1 ca1 : Nat) (qa2 : Option (Nat × Nat)) (na2 ca2 : Nat) (qa3 : Option (Nat × Nat)) (na3 ca3 : Nat) (w : World) (hw : HV w (keys [] []) [] [] [(bk qa0, off qa0, RW.enc s0.table), (bk qa1, off qa1, RI.enc s0.floors), (bk qa2, off qa2, RS.enc s0.sills), (bk qa3, off qa3, RI.enc way2)] w) (hna0 : s0.table.length = na0) (hqa0 : 0 < na0 → qa0 ≠ none) (hla0 : na0 ≤ ca0) (hna1 : s0.floors.length = na1) (hqa1 : 0 < na1 → qa1 ≠ none) (hla1 : na1 ≤ ca1) (hna2 : s0.sills.length = na2) (hqa2 : 0 < na2 → qa2 ≠ none) (hla2 : na2 ≤ ca2) (hna3 : way2.length = na3) (hqa3 : 0 < na3 → qa3 ≠ none) (hla3 : na3 ≤ ca3) {res : m_tide_Crest_1_R} (hm : m_tide_Crest_1 s0 place1 way2 = some res) :
    Calls Try.prog 66 #[.agg #[slv qa0 na0 ca0, .int .i64 s0.wind.lo, .int .i64 s0.wind.hi, slv qa1 na1 ca1, slv qa2 na2 ca2], .int .i64 place1, slv qa3 na3 ca3] w (fun en w' => ∃ l : Unit, en = .returned (.tuple #[.int .i64 res.r0, .int .i64 res.r1]) ∧ (True) ∧ HV w (keys [] []) [] [] [] w') := by
  unfold m_tide_Crest_1 at hm
  refine g_enter (args := [.agg #[slv qa0 na0 ca0, .int .i64 s0.wind.lo, .int .i64 s0.wind.hi, slv qa1 na1 ca1, slv qa2 na2 ca2], .int .i64 place1, slv qa3 na3 ca3]) Try.func66 rfl Try.ntmps66 rfl (e := [(0, _), (1, _), (2, _)]) rfl (H := HV w (keys [] []) [] [] [(bk qa0, off qa0, RW.enc s0.table), (bk qa1, off qa1, RI.enc s0.floors), (bk qa2, off qa2, RS.enc s0.sills), (bk qa3, off qa3, RI.enc way2)]) hw ?_
  refine g_seq ?_
  refine g_region ?_
  refine g_boxV rfl rfl (fun b h1 => ?_)
  refine g_val rfl rfl rfl (fun _ _ => v_assign rfl) ?_
  refine g_val rfl rfl rfl (fun _ _ => v_assign rfl) ?_
  refine g_nil ?_
  refine g_n_then ?_
  refine g_seq ?_
  refine g_region ?_
  refine g_val rfl rfl rfl (fun w hh => v_loadAgg (vs := [_, _, _, _, _]) (Try.isAgg29 w) (Try.sizeOf29 w) rfl (hh.cells 0 rfl rfl)) ?_
  obtain ⟨h2, hm⟩ := ifO hm
  refine dec_cases (p := check s0 = 0) (fun h3 => ?_) (fun h3 => ?_)
  ·replace hm := ifT h3 hm
   refine g_callFV rfl rfl rfl rfl rfl rfl rfl (fun a w => Try.call102 a w) (fun w hh => cx_opened s0 qa0 na0 ca0 qa1 na1 ca1 qa2 na2 ca2 w (HV.callee (S0 := []) (vs0 := []) hh (roC (hh.rsep (S0 := []) (vs0 := []) 0 rfl) (roC (hh.rsep (S0 := []) (vs0 := []) 1 rfl) (roC (hh.rsep (S0 := []) (vs0 := []) 2 rfl) roN)))) hna0 hqa0 hla0 hna1 hqa1 hla1 hna2 hqa2 hla2 h2 h3) (fun b_1 => ?_)
   refine g_val rfl rfl rfl (fun _ _ => v_move rfl) ?_
   refine g_val rfl rfl rfl (fun _ _ => v_extract rfl rfl) ?_
   refine g_val rfl rfl rfl (fun _ _ => v_extract rfl rfl) ?_
   refine g_val rfl rfl rfl (fun _ _ => v_assign rfl) ?_
   refine g_val rfl rfl rfl (fun _ _ => v_assign rfl) ?_
   refine g_nil ?_
   refine g_n_then ?_
   refine g_seq ?_
   refine g_block ?_
   refine g_seq ?_
   refine g_region ?_
   refine g_val rfl rfl rfl (fun _ _ => v_move rfl) ?_
   refine g_val rfl rfl rfl (fun _ _ => v_neq rfl rfl) ?_
   refine g_val rfl rfl rfl (fun _ _ => v_assign rfl) ?_
   refine g_nil ?_
   refine g_n_then ?_
   refine g_condF rfl rfl ?_
   refine g_seq ?_
   obtain ⟨o, h4, h5⟩ := bindO hm
   refine g_cut (ι := Unit) (fun l => True) (fun l => [(1, .int .i64 place1), (2, slv qa3 na3 ca3), (3, ptr b 0), (25, .bool o)]) (fun l => [(b_1, .cells #[slv qa0 na0 ca0, .int .i64 s0.wind.lo, .int .i64 s0.wind.hi, slv qa1 na1 ca1, slv qa2 na2 ca2, .int .i64 ((gatesOf s0).getD 0 0), .int .i64 ((gatesOf s0).getD 1 0), .int .i64 ((gatesOf s0).getD 2 0), .int .i64 ((gatesOf s0).getD 3 0), .int .i64 ((gatesOf s0).getD 4 0), .int .i64 ((gatesOf s0).getD 5 0), .int .i64 ((gatesOf s0).getD 6 0), .int .i64 ((gatesOf s0).getD 7 0)] 157 (0, 0)), (b, .cells #[slv qa0 na0 ca0, .int .i64 s0.wind.lo, .int .i64 s0.wind.hi, slv qa1 na1 ca1, slv qa2 na2 ca2] 29 (0, 0))]) (fun l => []) ?_ ?_
   ·replace hm := h4
    refine g_region ?_
    refine g_val rfl rfl rfl (fun _ _ => v_move rfl) ?_
    refine g_val rfl rfl rfl (fun _ _ => v_nilCheck rfl) ?_
    refine g_val rfl rfl rfl (fun w _ => v_fieldAddr 0 (Try.runUnderlying157 w) rfl (Try.sizeOf29 w) rfl) ?_
    refine g_val rfl rfl rfl (fun w hh => v_loadAgg (vs := [_, _, _, _, _]) (Try.isAgg29 w) (Try.sizeOf29 w) rfl (hh.cells 0 rfl rfl)) ?_
    refine g_val rfl rfl rfl (fun _ _ => v_move rfl) ?_
    obtain ⟨t31, h6, hm⟩ := bindO hm
    refine g_callH [] [] rfl rfl rfl rfl rfl rfl rfl (fun a w => Try.call89 a w) (fun w hh => cx_place s0 place1 qa0 na0 ca0 qa1 na1 ca1 qa2 na2 ca2 w (HV.callee (S0 := []) (vs0 := []) hh (roC (hh.rsep (S0 := []) (vs0 := []) 0 rfl) (roC (hh.rsep (S0 := []) (vs0 := []) 1 rfl) (roC (hh.rsep (S0 := []) (vs0 := []) 2 rfl) roN)))) hna0 hqa0 hla0 hna1 hqa1 hla1 hna2 hqa2 hla2 h6) (fun l_1 h7 => ?_)
    refine g_val rfl rfl rfl (fun _ _ => v_not rfl) ?_
    refine g_val rfl rfl rfl (fun _ _ => v_move rfl) ?_
    refine g_case 33 rfl (fun h8 => ?_) (fun h8 => ?_)
    ·replace hm := ifT (h8) hm
     refine g_skipG rfl rfl rfl rfl rfl rfl ?_
     refine g_skipG rfl rfl rfl rfl rfl rfl ?_
     refine g_skipG rfl rfl rfl rfl rfl rfl ?_
     refine g_skipG rfl rfl rfl rfl rfl rfl ?_
     refine g_val rfl rfl rfl (fun _ _ => v_pickT rfl rfl) ?_
     refine g_val rfl rfl rfl (fun _ _ => v_assign rfl) ?_
     refine g_nil ?_
     obtain rfl := Option.some.inj hm
     exact g_leaf () (trivial) ((.cons rfl (.cons rfl (.cons rfl (.cons rfl .nil))))) (fun w hh => hh)
    ·replace hm := ifF ((fun hh => Bool.noConfusion ((h8).symm.trans hh))) hm
     refine v_unguard rfl rfl ?_
     refine g_val rfl rfl rfl (fun _ _ => v_move rfl) ?_
     refine v_unguard rfl rfl ?_
     refine g_val rfl rfl rfl (fun _ _ => v_makeFunc (u := #[]) (u' := #[_]) rfl rfl) ?_
     refine v_unguard rfl rfl ?_
     obtain ⟨t36, h9, hm⟩ := bindO hm
     refine g_sel (S' := [_, _]) (vs' := []) [1, 0] [] 0 (by decide) (by decide) rfl rfl rfl ?_
     refine g_callH [_] [] rfl rfl rfl rfl rfl rfl rfl (fun a w => Try.call94 a w) (fun w hh => c_tide_every_int way2 s0.table s0.wind.lo s0.wind.hi s0.floors s0.sills (qA qa3) na3 ca3 b (qA qa0) na0 ca0 (qA qa1) na1 ca1 (qA qa2) na2 ca2 w (HV.callee (S0 := [_]) (vs0 := []) hh (roC (sepA (hh.rsep (S0 := [_]) (vs0 := []) 3 rfl)) (roC (sepA (hh.rsep (S0 := [_]) (vs0 := []) 0 rfl)) (roC (sepA (hh.rsep (S0 := [_]) (vs0 := []) 1 rfl)) (roC (sepA (hh.rsep (S0 := [_]) (vs0 := []) 2 rfl)) roN))))) hna3 (AOK.q hqa3) hla3 hna0 (AOK.q hqa0) hla0 hna1 (AOK.q hqa1) hla1 hna2 (AOK.q hqa2) hla2 h9) (fun l_2 h10 => ?_)
     refine g_sel (S' := [_, _]) (vs' := []) [0, 1] [] 0 (by decide) (by decide) rfl rfl rfl ?_
     refine v_unguard rfl rfl ?_
     refine g_val rfl rfl rfl (fun _ _ => v_not rfl) ?_
     refine g_val rfl rfl rfl (fun _ _ => v_pickF rfl rfl) ?_
     refine g_val rfl rfl rfl (fun _ _ => v_assign rfl) ?_
     refine g_nil ?_
     obtain rfl := Option.some.inj hm
     exact g_leaf () (trivial) ((.cons rfl (.cons rfl (.cons rfl (.cons rfl .nil))))) (fun w hh => hh.sel [1, 0] [] 0 (by decide) (by decide) rfl rfl rfl)
   ·intro l hj
    replace hm := h5
    refine g_n_then ?_
    refine g_cond rfl (fun h11 => ?_) (fun h11 => ?_)
    ·replace hm := ifT (h11) hm
     refine g_seq ?_
     refine g_region ?_
     refine g_val rfl rfl rfl (fun _ _ => v_assign rfl) ?_
     refine g_val rfl rfl rfl (fun _ _ => v_assign rfl) ?_
     refine g_nil ?_
     refine g_n_then ?_
     refine g_ret ?_
     refine g_r_blk ?_
     refine g_r_then ?_
     obtain rfl := Option.some.inj hm
     refine g_done rfl (fun w hh => (.tmp rfl (.tmp rfl .nil))) (fun w hh => ⟨(), rfl, trivial, hh.sel [] [] 4 (by decide) (by decide) rfl rfl rfl⟩)
    ·replace hm := ifF ((fun hh => Bool.noConfusion ((h11).symm.trans hh))) hm
     refine g_skip ?_
     refine g_n_blk ?_
     refine g_n_then ?_
     refine g_seq ?_
     refine g_region ?_
     refine g_val rfl rfl rfl (fun _ _ => v_assign rfl) ?_
     refine g_val rfl rfl rfl (fun _ _ => v_assign rfl) ?_
     refine g_nil ?_
     refine g_n_then ?_
     refine g_seq ?_
     refine g_region ?_
     refine g_mkMapV kI kB rfl (fun b_2 h12 => ?_)
     obtain ⟨t39, ht39, hm⟩ := bindO hm
     refine g_insertV (k := (-1)) (v := true) 0 (fun w => Try.runUnderlying176 w) (KeyOK.int (fun w => Try.runUnderlying3 w)) rfl rfl rfl rfl (Option.some.inj ht39) rfl ?_
     refine g_val rfl rfl rfl (fun _ _ => v_move rfl) ?_
     refine g_val rfl rfl rfl (fun _ _ => v_assign rfl) ?_
     refine g_nil ?_
     refine g_n_then ?_
     refine g_seq ?_
     refine g_seq ?_
     refine g_region ?_
     refine g_val rfl rfl rfl (fun _ _ => v_move rfl) ?_
     refine g_val rfl rfl rfl (fun w _ => v_lenN hna3 (Try.runUnderlying26 w) rfl) ?_
     refine g_val rfl rfl rfl (fun _ _ => v_move rfl) ?_
     refine g_nil ?_
     refine g_n_then ?_
     obtain ⟨o_1, h13, h14⟩ := bindO hm
     refine g_cut (ι := m_tide_Crest_1_C1) (fun j => o_1 = .inl j) (fun j => [(1, .int .i64 place1), (10, .int .i64 j.at10), (11, .int .i64 j.crest11)]) (fun j => [(b_2, gobj kI kB j.t39), (b_1, .cells #[slv qa0 na0 ca0, .int .i64 s0.wind.lo, .int .i64 s0.wind.hi, slv qa1 na1 ca1, slv qa2 na2 ca2, .int .i64 ((gatesOf s0).getD 0 0), .int .i64 ((gatesOf s0).getD 1 0), .int .i64 ((gatesOf s0).getD 2 0), .int .i64 ((gatesOf s0).getD 3 0), .int .i64 ((gatesOf s0).getD 4 0), .int .i64 ((gatesOf s0).getD 5 0), .int .i64 ((gatesOf s0).getD 6 0), .int .i64 ((gatesOf s0).getD 7 0)] 157 (0, 0)), (b, .cells #[slv qa0 na0 ca0, .int .i64 s0.wind.lo, .int .i64 s0.wind.hi, slv qa1 na1 ca1, slv qa2 na2 ca2] 29 (0, 0))]) (fun j => []) ?_ ?_
     ·replace hm := h13
      refine g_block ?_
      refine g_loopF (ι := Unit) hm (fun s l_3 => True) (fun s l_3 => [(1, .int .i64 place1), (3, ptr b 0), (10, .int .i64 s.at10), (11, .int .i64 s.crest11), (12, .map (some b_2)), (41, slv qa3 na3 ca3), (42, .int .i64 (way2.length : Int)), (43, .int .i64 s.t43)]) (fun s l_3 => [(b_2, gobj kI kB s.t39), (b_1, .cells #[slv qa0 na0 ca0, .int .i64 s0.wind.lo, .int .i64 s0.wind.hi, slv qa1 na1 ca1, slv qa2 na2 ca2, .int .i64 ((gatesOf s0).getD 0 0), .int .i64 ((gatesOf s0).getD 1 0), .int .i64 ((gatesOf s0).getD 2 0), .int .i64 ((gatesOf s0).getD 3 0), .int .i64 ((gatesOf s0).getD 4 0), .int .i64 ((gatesOf s0).getD 5 0), .int .i64 ((gatesOf s0).getD 6 0), .int .i64 ((gatesOf s0).getD 7 0)] 157 (0, 0)), (b, .cells #[slv qa0 na0 ca0, .int .i64 s0.wind.lo, .int .i64 s0.wind.hi, slv qa1 na1 ca1, slv qa2 na2 ca2] 29 (0, 0))]) (fun s l_3 => []) () (trivial) ((.cons rfl (.cons rfl (.cons rfl (.cons rfl (.cons rfl (.cons rfl (.cons rfl (.cons rfl .nil))))))))) (fun w hh => hh) (fun s l_3 r hpl hm h15 => ?_)
      unfold m_tide_Crest_1_L0 at hm
      refine g_seq ?_
      refine g_region ?_
      refine g_val rfl rfl rfl (fun _ _ => v_lss rfl rfl) ?_
      refine g_nil ?_
      refine g_n_then ?_
      refine g_seq ?_
      refine g_cond rfl (fun h16 => ?_) (fun h16 => ?_)
      ·replace hm := ifT (of_decide_eq_true h16) hm
       refine g_skip ?_
       refine g_n_then ?_
       refine g_seq ?_
       refine g_block ?_
       refine g_seq ?_
       refine g_region ?_
       obtain ⟨t45, h17, hm⟩ := bindO hm
       refine g_val rfl rfl rfl (fun w _ => v_ixA h17 (Try.runUnderlying26 w) (Try.sizeOf3 w) rfl rfl hna3 hqa3) ?_
       refine g_val rfl rfl rfl (fun w hh => v_ldE RI 0 h17 (Try.isAgg3 w) rfl (hh.seg 3 rfl) rfl (Nat.add_zero _).symm) ?_
       refine g_val rfl rfl rfl (fun _ _ => v_assign rfl) ?_
       refine g_nil ?_
       refine g_n_then ?_
       refine g_seq ?_
       refine g_region ?_
       refine g_val rfl rfl rfl (fun w _ => v_fieldAddr 4 (Try.runUnderlying29 w) rfl (Try.sizeOf27 w) rfl) ?_
       refine g_val rfl rfl rfl (fun w hh => v_load (Try.isAgg27 w) rfl (hh.cell 2 rfl rfl)) ?_
       refine g_val rfl rfl rfl (fun _ _ => v_move rfl) ?_
       obtain ⟨t50, h18, hm⟩ := bindO hm
       refine g_val rfl rfl rfl (fun w _ => v_ixA h18 (Try.runUnderlying27 w) (Try.sizeOf51 w) rfl rfl hna2 hqa2) ?_
       refine g_val rfl rfl rfl (fun w hh => v_ldEA RS 0 [.int .i64 t50.a, .int .i64 t50.b, .int .i64 t50.h] h18 (Try.isAgg51 w) (Try.sizeOf51 w) rfl (hh.seg 2 rfl) rfl (Nat.add_zero _).symm) ?_
       refine g_allocV (fun w => Try.zeroValue51 w) rfl (fun b_3 h19 => ?_)
       refine g_stSA (us := #[_, _, _]) (cs' := [_, _, _]) (S' := [_, _, _, _]) 0 (fun w => Try.sizeOf51 w) rfl rfl rfl rfl rfl rfl rfl ?_
       refine g_nil ?_
       refine g_n_then ?_
       refine g_seq ?_
       obtain ⟨o_2, h20, h21⟩ := bindO hm
       refine g_cut (ι := Int) (fun j_1 => o_2 = .inl j_1) (fun j_1 => [(1, .int .i64 place1), (3, ptr b 0), (10, .int .i64 j_1), (11, .int .i64 s.crest11), (12, .map (some b_2)), (15, ptr b_3 0), (41, slv qa3 na3 ca3), (42, .int .i64 (way2.length : Int)), (43, .int .i64 s.t43)]) (fun j_1 => [(b_3, .cells #[.int .i64 t50.a, .int .i64 t50.b, .int .i64 t50.h] 51 (0, 0)), (b_2, gobj kI kB s.t39), (b_1, .cells #[slv qa0 na0 ca0, .int .i64 s0.wind.lo, .int .i64 s0.wind.hi, slv qa1 na1 ca1, slv qa2 na2 ca2, .int .i64 ((gatesOf s0).getD 0 0), .int .i64 ((gatesOf s0).getD 1 0), .int .i64 ((gatesOf s0).getD 2 0), .int .i64 ((gatesOf s0).getD 3 0), .int .i64 ((gatesOf s0).getD 4 0), .int .i64 ((gatesOf s0).getD 5 0), .int .i64 ((gatesOf s0).getD 6 0), .int .i64 ((gatesOf s0).getD 7 0)] 157 (0, 0)), (b, .cells #[slv qa0 na0 ca0, .int .i64 s0.wind.lo, .int .i64 s0.wind.hi, slv qa1 na1 ca1, slv qa2 na2 ca2] 29 (0, 0))]) (fun j_1 => []) ?_ ?_
       ·replace hm := h20
        refine g_seq ?_
        refine g_region ?_
        refine g_val rfl rfl rfl (fun _ _ => v_move rfl) ?_
        refine g_nil ?_
        refine g_n_then ?_
        refine g_block ?_
        refine g_seq ?_
        refine g_region ?_
        refine g_val rfl rfl rfl (fun w _ => v_fieldAddr 0 (Try.runUnderlying51 w) rfl (Try.sizeOf3 w) rfl) ?_
        refine g_val rfl rfl rfl (fun w hh => v_load (Try.isAgg3 w) rfl (hh.cell 0 rfl rfl)) ?_
        refine g_val rfl rfl rfl (fun _ _ => v_eql rfl rfl) ?_
        refine g_val rfl rfl rfl (fun _ _ => v_assign rfl) ?_
        refine g_nil ?_
        refine g_n_then ?_
        refine g_cond rfl (fun h22 => ?_) (fun h22 => ?_)
        ·replace hm := ifT (of_decide_eq_true h22) hm
         refine g_region ?_
         refine g_val rfl rfl rfl (fun w _ => v_fieldAddr 1 (Try.runUnderlying51 w) rfl (Try.sizeOf3 w) rfl) ?_
         refine g_val rfl rfl rfl (fun w hh => v_load (Try.isAgg3 w) rfl (hh.cell 0 rfl rfl)) ?_
         refine g_val rfl rfl rfl (fun _ _ => v_assign rfl) ?_
         refine g_nil ?_
         refine g_n_blk ?_
         obtain rfl := Option.some.inj hm
         exact g_leaf t50.b (rfl) ((.cons rfl (.cons rfl (.cons rfl (.cons rfl (.cons rfl (.cons rfl (.cons rfl (.cons rfl (.cons rfl .nil)))))))))) (fun w hh => hh)
        ·replace hm := ifF (of_decide_eq_false h22) hm
         refine g_seq ?_
         refine g_region ?_
         refine g_val rfl rfl rfl (fun w _ => v_fieldAddr 1 (Try.runUnderlying51 w) rfl (Try.sizeOf3 w) rfl) ?_
         refine g_val rfl rfl rfl (fun w hh => v_load (Try.isAgg3 w) rfl (hh.cell 0 rfl rfl)) ?_
         refine g_val rfl rfl rfl (fun _ _ => v_eql rfl rfl) ?_
         refine g_val rfl rfl rfl (fun _ _ => v_assign rfl) ?_
         refine g_nil ?_
         refine g_n_then ?_
         refine g_cond rfl (fun h23 => ?_) (fun h23 => ?_)
         ·replace hm := ifT (of_decide_eq_true h23) hm
          refine g_region ?_
          refine g_val rfl rfl rfl (fun w _ => v_fieldAddr 0 (Try.runUnderlying51 w) rfl (Try.sizeOf3 w) rfl) ?_
          refine g_val rfl rfl rfl (fun w hh => v_load (Try.isAgg3 w) rfl (hh.cell 0 rfl rfl)) ?_
          refine g_val rfl rfl rfl (fun _ _ => v_assign rfl) ?_
          refine g_nil ?_
          refine g_n_blk ?_
          obtain rfl := Option.some.inj hm
          exact g_leaf t50.a (rfl) ((.cons rfl (.cons rfl (.cons rfl (.cons rfl (.cons rfl (.cons rfl (.cons rfl (.cons rfl (.cons rfl .nil)))))))))) (fun w hh => hh)
         ·replace hm := ifF (of_decide_eq_false h23) hm
          refine g_seq ?_
          refine g_region ?_
          refine g_val rfl rfl rfl (fun _ _ => v_assign rfl) ?_
          refine g_val rfl rfl rfl (fun _ _ => v_assign rfl) ?_
          refine g_nil ?_
          refine g_n_then ?_
          refine g_ret ?_
          refine g_r_blk ?_
          obtain rfl := Option.some.inj hm
          refine g_r_then ?_
          replace hm := ocR h21
          refine g_r_then ?_
          refine g_r_blk ?_
          refine g_r_then ?_
          refine g_r_then ?_
          refine g_r_blk ?_
          obtain rfl := Option.some.inj hm
          have hbo := h15 _ rfl
          subst hbo
          refine g_r_then ?_
          replace hm := ocR h14
          refine g_r_then ?_
          obtain rfl := Option.some.inj hm
          refine g_done rfl (fun w hh => (.tmp rfl (.tmp rfl .nil))) (fun w hh => ⟨(), rfl, trivial, hh.sel [] [] 4 (by decide) (by decide) rfl rfl rfl⟩)
       ·intro j_1 hj
        have h24 := hj
        subst h24
        replace hm := ocL h21
        refine g_n_then ?_
        refine g_seq ?_
        refine g_seq ?_
        refine g_region ?_
        refine g_val rfl rfl rfl (fun _ _ => v_move rfl) ?_
        refine g_val rfl rfl rfl (fun _ _ => v_move rfl) ?_
        refine g_val rfl rfl rfl (fun w hh => v_lookG (k := j_1) (z := false) (Try.runUnderlying176 w) (KeyOK.int (fun w => Try.runUnderlying3 w)) (Try.zeroValue4 w) rfl rfl (hh.mget 1 rfl)) ?_
        refine g_nil ?_
        refine g_n_then ?_
        refine g_cond rfl (fun h25 => ?_) (fun h25 => ?_)
        ·replace hm := ifT (h25) hm
         refine g_seq ?_
         refine g_region ?_
         refine g_val rfl rfl rfl (fun _ _ => v_assign rfl) ?_
         refine g_val rfl rfl rfl (fun _ _ => v_assign rfl) ?_
         refine g_nil ?_
         refine g_n_then ?_
         refine g_ret ?_
         refine g_r_then ?_
         refine g_r_blk ?_
         refine g_r_then ?_
         refine g_r_then ?_
         refine g_r_blk ?_
         obtain rfl := Option.some.inj hm
         have hbo := h15 _ rfl
         subst hbo
         refine g_r_then ?_
         replace hm := ocR h14
         refine g_r_then ?_
         obtain rfl := Option.some.inj hm
         refine g_done rfl (fun w hh => (.tmp rfl (.tmp rfl .nil))) (fun w hh => ⟨(), rfl, trivial, hh.sel [] [] 4 (by decide) (by decide) rfl rfl rfl⟩)
        ·replace hm := ifF ((fun hh => Bool.noConfusion ((h25).symm.trans hh))) hm
         refine g_skip ?_
         refine g_n_then ?_
         refine g_draw none (.free 0 (.free 1 (.free 2 (.free 3 (.hoist 4 (.free 5 (.hoist 6 (.free 7 (.free 8 (.hoist 9 (.one 10 (.one 11 (.one 12 (.free 13 .done)))))))))))))) (HV _ _ [(b_3, .cells #[.int .i64 t50.a, .int .i64 t50.b, .int .i64 t50.h] 51 (0, 0)), (b_1, .cells #[slv qa0 na0 ca0, .int .i64 s0.wind.lo, .int .i64 s0.wind.hi, slv qa1 na1 ca1, slv qa2 na2 ca2, .int .i64 ((gatesOf s0).getD 0 0), .int .i64 ((gatesOf s0).getD 1 0), .int .i64 ((gatesOf s0).getD 2 0), .int .i64 ((gatesOf s0).getD 3 0), .int .i64 ((gatesOf s0).getD 4 0), .int .i64 ((gatesOf s0).getD 5 0), .int .i64 ((gatesOf s0).getD 6 0), .int .i64 ((gatesOf s0).getD 7 0)] 157 (0, 0)), (b, .cells #[slv qa0 na0 ca0, .int .i64 s0.wind.lo, .int .i64 s0.wind.hi, slv qa1 na1 ca1, slv qa2 na2 ca2] 29 (0, 0))] [] _) rfl (by decide +kernel) (fun w k hh => hh.draw k) (fun w hh => hh.sel [0, 2, 3] [] 0 (by decide) (by decide) rfl rfl rfl) ?_
         refine p_free rfl rfl rfl rfl (fun _ _ => v_move rfl) ?_
         refine p_free rfl rfl rfl rfl (fun _ _ => v_move rfl) ?_
         refine p_free rfl rfl rfl rfl (fun _ _ => v_move rfl) ?_
         refine p_free rfl rfl rfl rfl (fun w _ => v_fieldAddr 2 (Try.runUnderlying51 w) rfl (Try.sizeOf3 w) rfl) ?_
         refine p_hoist rfl rfl rfl rfl (fun w hh => v_load (Try.isAgg3 w) rfl (hh.cell 0 rfl rfl)) ?_
         refine p_free rfl rfl rfl rfl (fun w _ => v_fieldAddr 3 (Try.runUnderlying29 w) rfl (Try.sizeOf26 w) rfl) ?_
         refine p_hoist rfl rfl rfl rfl (fun w hh => v_load (Try.isAgg26 w) rfl (hh.cell 2 rfl rfl)) ?_
         refine p_free rfl rfl rfl rfl (fun _ _ => v_move rfl) ?_
         obtain ⟨t76, h26, hm⟩ := bindO hm
         refine p_free rfl rfl rfl rfl (fun w _ => v_ixA h26 (Try.runUnderlying26 w) (Try.sizeOf3 w) rfl rfl hna1 hqa1) ?_
         refine p_hoist rfl rfl rfl rfl (fun w hh => v_ldE RI 0 h26 (Try.isAgg3 w) rfl (hh.seg 1 rfl) rfl (Nat.add_zero _).symm) ?_
         refine p_one rfl ?_
         refine g_vlit RI [t50.h, t76] (ps := [(0, _), (1, _)]) (cells := [_, _]) (fun w => Try.runUnderlying26 w) (fun w => Try.sizeOf3 w) (fun w => Try.zeroValue3 w) rfl rfl rfl rfl rfl rfl rfl rfl (fun L h27 => ?_)
         refine p_next (fun w hh => hh.sel [0, 2, 3] [] 0 (by decide) (by decide) rfl rfl rfl) ?_
         refine p_one rfl ?_
         obtain ⟨t79, h28, hm⟩ := bindO hm
         refine g_callH [] [] rfl rfl rfl rfl rfl rfl rfl (fun a w => Try.call134 a w) (fun w hh => c_tide_highest s.crest11 [t50.h, t76] (qA L.q) L.n L.cap w (HV.callee (S0 := []) (vs0 := []) hh (roC (hh.vsepA (S0 := []) (vs0 := []) 0 rfl h27) roN)) (vlen RI h27 rfl) (AOK.q (vne h27)) (h27).hle h28) (fun l_4 h29 => ?_)
         refine p_next (fun w hh => hh.sel [0, 2, 3] [] 0 (by decide) (by decide) rfl rfl rfl) ?_
         refine p_one rfl ?_
         obtain ⟨t39_1, ht39_1, hm⟩ := bindO hm
         refine g_mapUpV (k := j_1) (v := true) 1 (fun w => Try.runUnderlying176 w) (KeyOK.int (fun w => Try.runUnderlying3 w)) rfl rfl rfl rfl (Option.some.inj ht39_1) rfl ?_
         refine p_next (fun w hh => hh.sel [0, 2, 3] [] 0 (by decide) (by decide) rfl rfl rfl) ?_
         refine p_free rfl rfl rfl rfl (fun _ _ => v_assign rfl) ?_
         refine p_done ?_
         refine g_n_blk ?_
         refine g_n_then ?_
         refine g_region ?_
         obtain ⟨t80, h30, hm⟩ := bindO hm
         refine g_val rfl rfl rfl (fun _ _ => v_addc h30 rfl rfl) ?_
         refine g_val rfl rfl rfl (fun _ _ => v_move rfl) ?_
         refine g_nil ?_
         obtain rfl := Option.some.inj hm
         refine g_n_then ?_
         exact g_again' _ () rfl (trivial) ((.cons rfl (.cons rfl (.cons rfl (.cons rfl (.cons rfl (.cons rfl (.cons rfl (.cons rfl .nil))))))))) (fun w hh => hh.sel [1, 2, 3] [] 0 (by decide) (by decide) rfl rfl rfl)
      ·replace hm := ifF (of_decide_eq_false h16) hm
       refine g_exit ?_
       refine g_x_then ?_
       refine g_x_then ?_
       refine g_x_blk ?_
       obtain rfl := Option.some.inj hm
       have hbo := h15 _ rfl
       subst hbo
       exact g_leaf (⟨s.at10, s.crest11, s.t39⟩ : m_tide_Crest_1_C1) (rfl) ((.cons rfl (.cons rfl (.cons rfl .nil)))) (fun w hh => hh)
     ·intro j hj
      have h31 := hj
      subst h31
      replace hm := ocL h14
      refine g_n_then ?_
      refine g_seq ?_
      refine g_seq ?_
      refine g_region ?_
      refine g_val rfl rfl rfl (fun _ _ => v_move rfl) ?_
      refine g_val rfl rfl rfl (fun _ _ => v_move rfl) ?_
      refine g_val rfl rfl rfl (fun _ _ => v_neq rfl rfl) ?_
      refine g_nil ?_
      refine g_n_then ?_
      refine g_cond rfl (fun h32 => ?_) (fun h32 => ?_)
      ·replace hm := ifF (of_ndec_true h32) hm
       refine g_seq ?_
       refine g_region ?_
       refine g_val rfl rfl rfl (fun _ _ => v_assign rfl) ?_
       refine g_val rfl rfl rfl (fun _ _ => v_assign rfl) ?_
       refine g_nil ?_
       refine g_n_then ?_
       refine g_ret ?_
       refine g_r_then ?_
       obtain rfl := Option.some.inj hm
       refine g_done rfl (fun w hh => (.tmp rfl (.tmp rfl .nil))) (fun w hh => ⟨(), rfl, trivial, hh.sel [] [] 4 (by decide) (by decide) rfl rfl rfl⟩)
      ·replace hm := ifT (of_ndec_false h32) hm
       refine g_skip ?_
       refine g_n_then ?_
       refine g_seq ?_
       refine g_region ?_
       refine g_val rfl rfl rfl (fun _ _ => v_move rfl) ?_
       refine g_val rfl rfl rfl (fun _ _ => v_assign rfl) ?_
       refine g_val rfl rfl rfl (fun _ _ => v_assign rfl) ?_
       refine g_nil ?_
       refine g_n_then ?_
       refine g_ret ?_
       obtain rfl := Option.some.inj hm
       refine g_done rfl (fun w hh => (.tmp rfl (.tmp rfl .nil))) (fun w hh => ⟨(), rfl, trivial, hh.sel [] [] 4 (by decide) (by decide) rfl rfl rfl⟩)
  ·replace hm := ifF h3 hm
   refine g_callN rfl rfl rfl rfl rfl rfl rfl (fun a w => Try.call102 a w) (fun w hh => cx_openedE s0 qa0 na0 ca0 qa1 na1 ca1 qa2 na2 ca2 w (HV.callee (S0 := []) (vs0 := []) hh (roC (hh.rsep (S0 := []) (vs0 := []) 0 rfl) (roC (hh.rsep (S0 := []) (vs0 := []) 1 rfl) (roC (hh.rsep (S0 := []) (vs0 := []) 2 rfl) roN)))) hna0 hqa0 hla0 hna1 hqa1 hla1 hna2 hqa2 hla2 h2 h3) (fun l_5 h33 => ?_)
   refine g_val rfl rfl rfl (fun _ _ => v_move rfl) ?_
   refine g_val rfl rfl rfl (fun _ _ => v_extract rfl rfl) ?_
   refine g_val rfl rfl rfl (fun _ _ => v_extract rfl rfl) ?_
   refine g_val rfl rfl rfl (fun _ _ => v_assign rfl) ?_
   refine g_val rfl rfl rfl (fun _ _ => v_assign rfl) ?_
   refine g_nil ?_
   refine g_n_then ?_
   refine g_seq ?_
   refine g_block ?_
   refine g_seq ?_
   refine g_region ?_
   refine g_val rfl rfl rfl (fun _ _ => v_move rfl) ?_
   refine g_val rfl rfl rfl (fun _ _ => v_neqT h3 rfl rfl) ?_
   refine g_val rfl rfl rfl (fun _ _ => v_assign rfl) ?_
   refine g_nil ?_
   refine g_n_then ?_
   refine g_condT rfl rfl ?_
   refine g_seq ?_
   refine g_region ?_
   refine g_val rfl rfl rfl (fun _ _ => v_move rfl) ?_
   refine g_val rfl rfl rfl (fun _ _ => v_assign rfl) ?_
   refine g_val rfl rfl rfl (fun _ _ => v_assign rfl) ?_
   refine g_nil ?_
   refine g_n_then ?_
   refine g_ret ?_
   refine g_r_blk ?_
   refine g_r_then ?_
   obtain rfl := Option.some.inj hm
   refine g_done rfl (fun w hh => (.tmp rfl (.tmp rfl .nil))) (fun w hh => ⟨(), rfl, trivial, hh.sel [] [] 4 (by decide) (by decide) rfl rfl rfl⟩)
def m_laurelref01_listed_L0 (l1 : (List Int)) (s0 : Sands) (s : Int) : Option (Int ⊕ (Unit ⊕ Int)) :=
 if s < (l1.length : Int) then
 ((ix l1 s).bind fun t14 =>
 (subc (s0.sills.length : Int) 1).bind fun t19 =>
 (m_laurelref01_off t14 0 t19).bind fun t20 =>
 if t20 = true then
 (some (.inr (.inr 1))) else
 ((addc s 1).bind fun t11 =>
 some (.inl t11))) else
 (some (.inr (.inl ())))
def m_laurelref01_listed (s0 : Sands) (l1 : (List Int)) : Option Int :=
 (iterM FU (m_laurelref01_listed_L0 l1 s0) 0).bind fun o =>
 oc o (fun j => some 0) (fun r_1 => some r_1)
set_option maxRecDepth 100000 in
set_option maxHeartbeats 4000000 in
theorem c_laurelref01_listed (s0 : Sands) (l1 : (List Int)) (qa0 : Option Addr) (na0 ca0 : Nat) (qa1 : Option Addr) (na1 ca1 : Nat) (qa2 : Option Addr) (na2 ca2 : Nat) (qa3 : Option Addr) (na3 ca3 : Nat) (w : World) (hw : HV w (keys [] []) [] [] [(aB qa0, aO qa0, RW.enc s0.table), (aB qa1, aO qa1, RI.enc s0.floors), (aB qa2, aO qa2, RS.enc s0.sills), (aB qa3, aO qa3, RI.enc l1)] w) (hna0 : s0.table.length = na0) (hqa0 : AOK na0 qa0) (hla0 : na0 ≤ ca0) (hna1 : s0.floors.length = na1) (hqa1 : AOK na1 qa1) (hla1 : na1 ≤ ca1) (hna2 : s0.sills.length = na2) (hqa2 : AOK na2 qa2) (hla2 : na2 ≤ ca2) (hna3 : l1.length = na3) (hqa3 : AOK na3 qa3) (hla3 : na3 ≤ ca3) {res : Int} (hm : m_laurelref01_listed s0 l1 = some res) :
    Calls Try.prog 135 #[.agg #[.slice qa0 na0 ca0, .int .i64 s0.wind.lo, .int .i64 s0.wind.hi, .slice qa1 na1 ca1, .slice qa2 na2 ca2], .slice qa3 na3 ca3] w (fun en w' => ∃ l : Unit, en = .returned (.int .i64 res) ∧ (True) ∧ HV w (keys [] []) [] [] [] w') := by
  unfold m_laurelref01_listed at hm
  refine g_enter (args := [.agg #[.slice qa0 na0 ca0, .int .i64 s0.wind.lo, .int .i64 s0.wind.hi, .slice qa1 na1 ca1, .slice qa2 na2 ca2], .slice qa3 na3 ca3]) Try.func135 rfl Try.ntmps135 rfl (e := [(0, _), (1, _)]) rfl (H := HV w (keys [] []) [] [] [(aB qa0, aO qa0, RW.enc s0.table), (aB qa1, aO qa1, RI.enc s0.floors), (aB qa2, aO qa2, RS.enc s0.sills), (aB qa3, aO qa3, RI.enc l1)]) hw ?_
  refine g_seq ?_
  refine g_region ?_
  refine g_boxV rfl rfl (fun b h1 => ?_)
  refine g_val rfl rfl rfl (fun _ _ => v_assign rfl) ?_
  refine g_nil ?_
  refine g_n_then ?_
  refine g_seq ?_
  refine g_seq ?_
  refine g_region ?_
  refine g_val rfl rfl rfl (fun _ _ => v_assign rfl) ?_
  refine g_nil ?_
  refine g_n_then ?_
  obtain ⟨o, h2, h3⟩ := bindO hm
  refine g_cut (ι := Unit) (fun j => o = .inl j) (fun j => []) (fun j => [(b, .cells #[.slice qa0 na0 ca0, .int .i64 s0.wind.lo, .int .i64 s0.wind.hi, .slice qa1 na1 ca1, .slice qa2 na2 ca2] 59 (0, 0))]) (fun j => []) ?_ ?_
  ·replace hm := h2
   refine g_block ?_
   refine g_loopF (ι := Unit) hm (fun s l => True) (fun s l => [(1, .slice qa3 na3 ca3), (2, ptr b 0), (5, .int .i64 s)]) (fun s l => [(b, .cells #[.slice qa0 na0 ca0, .int .i64 s0.wind.lo, .int .i64 s0.wind.hi, .slice qa1 na1 ca1, .slice qa2 na2 ca2] 59 (0, 0))]) (fun s l => []) () (trivial) ((.cons rfl (.cons rfl (.cons rfl .nil)))) (fun w hh => hh) (fun s l r hpl hm h4 => ?_)
   unfold m_laurelref01_listed_L0 at hm
   refine g_seq ?_
   refine g_seq ?_
   refine g_region ?_
   refine g_val rfl rfl rfl (fun _ _ => v_move rfl) ?_
   refine g_val rfl rfl rfl (fun _ _ => v_move rfl) ?_
   refine g_val rfl rfl rfl (fun w _ => v_lenR hna3 (Try.runUnderlying26 w) rfl) ?_
   refine g_val rfl rfl rfl (fun _ _ => v_lss rfl rfl) ?_
   refine g_nil ?_
   refine g_n_then ?_
   refine g_cond rfl (fun h5 => ?_) (fun h5 => ?_)
   ·replace hm := ifT (of_decide_eq_true h5) hm
    refine g_skip ?_
    refine g_n_then ?_
    refine g_seq ?_
    refine g_block ?_
    refine g_seq ?_
    refine g_draw none (.free 0 (.free 1 (.free 2 (.hoist 3 (.free 4 (.hoist 5 (.free 6 (.free 7 (.one 8 .done))))))))) _ rfl (by decide +kernel) (fun w k hh => hh.draw k) (fun w hh => hh) ?_
    refine p_free rfl rfl rfl rfl (fun _ _ => v_move rfl) ?_
    refine p_free rfl rfl rfl rfl (fun _ _ => v_move rfl) ?_
    obtain ⟨t14, h6, hm⟩ := bindO hm
    refine p_free rfl rfl rfl rfl (fun w _ => v_ixR h6 (Try.runUnderlying26 w) (Try.sizeOf3 w) rfl rfl hna3 hqa3) ?_
    refine p_hoist rfl rfl rfl rfl (fun w hh => v_ldE RI 0 h6 (Try.isAgg3 w) rfl (hh.seg 3 rfl) rfl (Nat.add_zero _).symm) ?_
    refine p_free rfl rfl rfl rfl (fun w _ => v_fieldAddr 4 (Try.runUnderlying59 w) rfl (Try.sizeOf57 w) rfl) ?_
    refine p_hoist rfl rfl rfl rfl (fun w hh => v_load (Try.isAgg57 w) rfl (hh.cell 0 rfl rfl)) ?_
    refine p_free rfl rfl rfl rfl (fun w _ => v_lenR hna2 (Try.runUnderlying57 w) rfl) ?_
    obtain ⟨t19, h7, hm⟩ := bindO hm
    refine p_free rfl rfl rfl rfl (fun _ _ => v_subc h7 rfl rfl) ?_
    refine p_one rfl ?_
    obtain ⟨t20, h8, hm⟩ := bindO hm
    refine g_callH [] [] rfl rfl rfl rfl rfl rfl rfl (fun a w => Try.call107 a w) (fun w hh => c_laurelref01_off t14 0 t19 w (HV.callee (S0 := []) (vs0 := []) hh roN)  h8) (fun l_1 h9 => ?_)
    refine p_next (fun w hh => hh) ?_
    refine p_done ?_
    refine g_n_then ?_
    refine g_cond rfl (fun h10 => ?_) (fun h10 => ?_)
    ·replace hm := ifT (h10) hm
     refine g_seq ?_
     refine g_region ?_
     refine g_val rfl rfl rfl (fun _ _ => v_assign rfl) ?_
     refine g_nil ?_
     refine g_n_then ?_
     refine g_ret ?_
     refine g_r_blk ?_
     refine g_r_then ?_
     refine g_r_then ?_
     refine g_r_blk ?_
     obtain rfl := Option.some.inj hm
     have hbo := h4 _ rfl
     subst hbo
     refine g_r_then ?_
     replace hm := ocR h3
     refine g_r_then ?_
     obtain rfl := Option.some.inj hm
     refine g_done rfl (fun w hh => (.tmp rfl .nil)) (fun w hh => ⟨(), rfl, trivial, hh.sel [] [] 4 (by decide) (by decide) rfl rfl rfl⟩)
    ·replace hm := ifF ((fun hh => Bool.noConfusion ((h10).symm.trans hh))) hm
     refine g_skip ?_
     refine g_n_blk ?_
     refine g_n_then ?_
     refine g_region ?_
     refine g_val rfl rfl rfl (fun _ _ => v_move rfl) ?_
     obtain ⟨t11, h11, hm⟩ := bindO hm
     refine g_val rfl rfl rfl (fun _ _ => v_addc h11 rfl rfl) ?_
     refine g_val rfl rfl rfl (fun _ _ => v_assign rfl) ?_
     refine g_nil ?_
     obtain rfl := Option.some.inj hm
     refine g_n_then ?_
     exact g_again' _ () rfl (trivial) ((.cons rfl (.cons rfl (.cons rfl .nil)))) (fun w hh => hh)
   ·replace hm := ifF (of_decide_eq_false h5) hm
    refine g_exit ?_
    refine g_x_then ?_
    refine g_x_then ?_
    refine g_x_blk ?_
    obtain rfl := Option.some.inj hm
    have hbo := h4 _ rfl
    subst hbo
    exact g_leaf () (rfl) (.nil) (fun w hh => hh)
  ·intro j hj
   have h12 := hj
   subst h12
   replace hm := ocL h3
   refine g_n_then ?_
   refine g_seq ?_
   refine g_region ?_
   refine g_val rfl rfl rfl (fun _ _ => v_assign rfl) ?_
   refine g_nil ?_
   refine g_n_then ?_
   refine g_ret ?_
   obtain rfl := Option.some.inj hm
   refine g_done rfl (fun w hh => (.tmp rfl .nil)) (fun w hh => ⟨(), rfl, trivial, hh.sel [] [] 4 (by decide) (by decide) rfl rfl rfl⟩)
structure m_laurelref01_Crest_R where
  r0 : Int
  r1 : Int
structure m_laurelref01_Crest_C0 where
  at11 : Int
  crest12 : Int
structure m_laurelref01_Crest_S0 where
  at11 : Int
  crest12 : Int
  i14 : Int
  met13 : (List Int)
def m_laurelref01_Crest_L0 (way2 : (List Int)) (s0 : Sands) (s : m_laurelref01_Crest_S0) : Option (m_laurelref01_Crest_S0 ⊕ (m_laurelref01_Crest_C0 ⊕ m_laurelref01_Crest_R)) :=
 if s.i14 < (way2.length : Int) then
 ((ix way2 s.i14).bind fun t45 =>
 (ix s0.sills t45).bind fun t47 =>
 (if t47.a = s.at11 then
 (some t47.b) else
 (some (-2))).bind fun o_1 =>
 (if t47.b = s.at11 then
 (some t47.a) else
 (some o_1)).bind fun o_2 =>
 (if o_2 = (-2) then
 (some true) else
 ((m_laurelref01_has s.met13 o_2).bind fun t66 =>
 some t66)).bind fun o_3 =>
 if o_3 = true then
 (some (.inr (.inr (⟨0, 8⟩ : m_laurelref01_Crest_R)))) else
 ((appc 8 s.met13 [o_2]).bind fun t72 =>
 (ix s0.floors o_2).bind fun t79 =>
 (addc s.i14 1).bind fun t40 =>
 some (.inl (⟨o_2, (max (max s.crest12 t47.h) t79), t40, t72⟩ : m_laurelref01_Crest_S0)))) else
 (some (.inr (.inl (⟨s.at11, s.crest12⟩ : m_laurelref01_Crest_C0))))
def m_laurelref01_Crest (s0 : Sands) (place1 : Int) (way2 : (List Int)) : Option m_laurelref01_Crest_R :=
 (m_laurelref01_Check s0).bind fun t18 =>
 if t18 = 0 then
 ((m_laurelref01_Place s0 place1).bind fun t24 =>
 if t24 = 0 then
 ((m_laurelref01_listed s0 way2).bind fun t30 =>
 if t30 = 0 then
 ((iterM FU (m_laurelref01_Crest_L0 way2 s0) (⟨-1, 0, 0, [-1]⟩ : m_laurelref01_Crest_S0)).bind fun o =>
 oc o (fun j => if j.at11 = place1 then
 (some (⟨j.crest12, 0⟩ : m_laurelref01_Crest_R)) else
 (some (⟨0, 8⟩ : m_laurelref01_Crest_R))) (fun r_1 => some r_1)) else
 (some (⟨0, t30⟩ : m_laurelref01_Crest_R))) else
 (some (⟨0, t24⟩ : m_laurelref01_Crest_R))) else
 (some (⟨0, t18⟩ : m_laurelref01_Crest_R))
set_option maxRecDepth 100000 in
set_option maxHeartbeats 4000000 in
theorem c_laurelref01_Crest (s0 : Sands) (place1 : Int) (way2 : (List Int)) (qa0 : Option Addr) (na0 ca0 : Nat) (qa1 : Option Addr) (na1 ca1 : Nat) (qa2 : Option Addr) (na2 ca2 : Nat) (qa3 : Option Addr) (na3 ca3 : Nat) (w : World) (hw : HV w (keys [] []) [] [] [(aB qa0, aO qa0, RW.enc s0.table), (aB qa1, aO qa1, RI.enc s0.floors), (aB qa2, aO qa2, RS.enc s0.sills), (aB qa3, aO qa3, RI.enc way2)] w) (hna0 : s0.table.length = na0) (hqa0 : AOK na0 qa0) (hla0 : na0 ≤ ca0) (hna1 : s0.floors.length = na1) (hqa1 : AOK na1 qa1) (hla1 : na1 ≤ ca1) (hna2 : s0.sills.length = na2) (hqa2 : AOK na2 qa2) (hla2 : na2 ≤ ca2) (hna3 : way2.length = na3) (hqa3 : AOK na3 qa3) (hla3 : na3 ≤ ca3) {res : m_laurelref01_Crest_R} (hm : m_laurelref01_Crest s0 place1 way2 = some res) :
    Calls Try.prog 67 #[.agg #[.slice qa0 na0 ca0, .int .i64 s0.wind.lo, .int .i64 s0.wind.hi, .slice qa1 na1 ca1, .slice qa2 na2 ca2], .int .i64 place1, .slice qa3 na3 ca3] w (fun en w' => ∃ l : Unit, en = .returned (.tuple #[.int .i64 res.r0, .int .i64 res.r1]) ∧ (True) ∧ HV w (keys [] []) [] [] [] w') := by
  unfold m_laurelref01_Crest at hm
  refine g_enter (args := [.agg #[.slice qa0 na0 ca0, .int .i64 s0.wind.lo, .int .i64 s0.wind.hi, .slice qa1 na1 ca1, .slice qa2 na2 ca2], .int .i64 place1, .slice qa3 na3 ca3]) Try.func67 rfl Try.ntmps67 rfl (e := [(0, _), (1, _), (2, _)]) rfl (H := HV w (keys [] []) [] [] [(aB qa0, aO qa0, RW.enc s0.table), (aB qa1, aO qa1, RI.enc s0.floors), (aB qa2, aO qa2, RS.enc s0.sills), (aB qa3, aO qa3, RI.enc way2)]) hw ?_
  refine g_seq ?_
  refine g_region ?_
  refine g_boxV rfl rfl (fun b h1 => ?_)
  refine g_val rfl rfl rfl (fun _ _ => v_assign rfl) ?_
  refine g_val rfl rfl rfl (fun _ _ => v_assign rfl) ?_
  refine g_nil ?_
  refine g_n_then ?_
  refine g_seq ?_
  refine g_seq ?_
  refine g_region ?_
  refine g_val rfl rfl rfl (fun w hh => v_loadAgg (vs := [_, _, _, _, _]) (Try.isAgg59 w) (Try.sizeOf59 w) rfl (hh.cells 0 rfl rfl)) ?_
  obtain ⟨t18, h2, hm⟩ := bindO hm
  refine g_callH [] [] rfl rfl rfl rfl rfl rfl rfl (fun a w => Try.call33 a w) (fun w hh => c_laurelref01_Check s0 qa0 na0 ca0 qa1 na1 ca1 qa2 na2 ca2 w (HV.callee (S0 := []) (vs0 := []) hh (roC (hh.rsep (S0 := []) (vs0 := []) 0 rfl) (roC (hh.rsep (S0 := []) (vs0 := []) 1 rfl) (roC (hh.rsep (S0 := []) (vs0 := []) 2 rfl) roN)))) hna0 hqa0 hla0 hna1 hqa1 hla1 hna2 hqa2 hla2 h2) (fun l h3 => ?_)
  refine g_val rfl rfl rfl (fun _ _ => v_assign rfl) ?_
  refine g_nil ?_
  refine g_n_then ?_
  refine g_seq ?_
  refine g_region ?_
  refine g_val rfl rfl rfl (fun _ _ => v_move rfl) ?_
  refine g_val rfl rfl rfl (fun _ _ => v_neq rfl rfl) ?_
  refine g_nil ?_
  refine g_n_then ?_
  refine g_cond rfl (fun h4 => ?_) (fun h4 => ?_)
  ·replace hm := ifF (of_ndec_true h4) hm
   refine g_seq ?_
   refine g_region ?_
   refine g_val rfl rfl rfl (fun _ _ => v_move rfl) ?_
   refine g_val rfl rfl rfl (fun _ _ => v_assign rfl) ?_
   refine g_val rfl rfl rfl (fun _ _ => v_assign rfl) ?_
   refine g_nil ?_
   refine g_n_then ?_
   refine g_ret ?_
   refine g_r_then ?_
   obtain rfl := Option.some.inj hm
   refine g_done rfl (fun w hh => (.tmp rfl (.tmp rfl .nil))) (fun w hh => ⟨(), rfl, trivial, hh.sel [] [] 4 (by decide) (by decide) rfl rfl rfl⟩)
  ·replace hm := ifT (of_ndec_false h4) hm
   refine g_skip ?_
   refine g_n_then ?_
   refine g_seq ?_
   refine g_seq ?_
   refine g_region ?_
   refine g_val rfl rfl rfl (fun w hh => v_loadAgg (vs := [_, _, _, _, _]) (Try.isAgg59 w) (Try.sizeOf59 w) rfl (hh.cells 0 rfl rfl)) ?_
   refine g_val rfl rfl rfl (fun _ _ => v_move rfl) ?_
   obtain ⟨t24, h5, hm⟩ := bindO hm
   refine g_callH [] [] rfl rfl rfl rfl rfl rfl rfl (fun a w => Try.call44 a w) (fun w hh => c_laurelref01_Place s0 place1 qa0 na0 ca0 qa1 na1 ca1 qa2 na2 ca2 w (HV.callee (S0 := []) (vs0 := []) hh (roC (hh.rsep (S0 := []) (vs0 := []) 0 rfl) (roC (hh.rsep (S0 := []) (vs0 := []) 1 rfl) (roC (hh.rsep (S0 := []) (vs0 := []) 2 rfl) roN)))) hna0 hqa0 hla0 hna1 hqa1 hla1 hna2 hqa2 hla2 h5) (fun l_1 h6 => ?_)
   refine g_val rfl rfl rfl (fun _ _ => v_assign rfl) ?_
   refine g_nil ?_
   refine g_n_then ?_
   refine g_seq ?_
   refine g_region ?_
   refine g_val rfl rfl rfl (fun _ _ => v_move rfl) ?_
   refine g_val rfl rfl rfl (fun _ _ => v_neq rfl rfl) ?_
   refine g_nil ?_
   refine g_n_then ?_
   refine g_cond rfl (fun h7 => ?_) (fun h7 => ?_)
   ·replace hm := ifF (of_ndec_true h7) hm
    refine g_seq ?_
    refine g_region ?_
    refine g_val rfl rfl rfl (fun _ _ => v_move rfl) ?_
    refine g_val rfl rfl rfl (fun _ _ => v_assign rfl) ?_
    refine g_val rfl rfl rfl (fun _ _ => v_assign rfl) ?_
    refine g_nil ?_
    refine g_n_then ?_
    refine g_ret ?_
    refine g_r_then ?_
    obtain rfl := Option.some.inj hm
    refine g_done rfl (fun w hh => (.tmp rfl (.tmp rfl .nil))) (fun w hh => ⟨(), rfl, trivial, hh.sel [] [] 4 (by decide) (by decide) rfl rfl rfl⟩)
   ·replace hm := ifT (of_ndec_false h7) hm
    refine g_skip ?_
    refine g_n_then ?_
    refine g_seq ?_
    refine g_seq ?_
    refine g_region ?_
    refine g_val rfl rfl rfl (fun w hh => v_loadAgg (vs := [_, _, _, _, _]) (Try.isAgg59 w) (Try.sizeOf59 w) rfl (hh.cells 0 rfl rfl)) ?_
    refine g_val rfl rfl rfl (fun _ _ => v_move rfl) ?_
    obtain ⟨t30, h8, hm⟩ := bindO hm
    refine g_callH [] [] rfl rfl rfl rfl rfl rfl rfl (fun a w => Try.call135 a w) (fun w hh => c_laurelref01_listed s0 way2 qa0 na0 ca0 qa1 na1 ca1 qa2 na2 ca2 qa3 na3 ca3 w (HV.callee (S0 := []) (vs0 := []) hh (roC (hh.rsep (S0 := []) (vs0 := []) 0 rfl) (roC (hh.rsep (S0 := []) (vs0 := []) 1 rfl) (roC (hh.rsep (S0 := []) (vs0 := []) 2 rfl) (roC (hh.rsep (S0 := []) (vs0 := []) 3 rfl) roN))))) hna0 hqa0 hla0 hna1 hqa1 hla1 hna2 hqa2 hla2 hna3 hqa3 hla3 h8) (fun l_2 h9 => ?_)
    refine g_val rfl rfl rfl (fun _ _ => v_assign rfl) ?_
    refine g_nil ?_
    refine g_n_then ?_
    refine g_seq ?_
    refine g_region ?_
    refine g_val rfl rfl rfl (fun _ _ => v_move rfl) ?_
    refine g_val rfl rfl rfl (fun _ _ => v_neq rfl rfl) ?_
    refine g_nil ?_
    refine g_n_then ?_
    refine g_cond rfl (fun h10 => ?_) (fun h10 => ?_)
    ·replace hm := ifF (of_ndec_true h10) hm
     refine g_seq ?_
     refine g_region ?_
     refine g_val rfl rfl rfl (fun _ _ => v_move rfl) ?_
     refine g_val rfl rfl rfl (fun _ _ => v_assign rfl) ?_
     refine g_val rfl rfl rfl (fun _ _ => v_assign rfl) ?_
     refine g_nil ?_
     refine g_n_then ?_
     refine g_ret ?_
     refine g_r_then ?_
     obtain rfl := Option.some.inj hm
     refine g_done rfl (fun w hh => (.tmp rfl (.tmp rfl .nil))) (fun w hh => ⟨(), rfl, trivial, hh.sel [] [] 4 (by decide) (by decide) rfl rfl rfl⟩)
    ·replace hm := ifT (of_ndec_false h10) hm
     refine g_skip ?_
     refine g_n_then ?_
     refine g_seq ?_
     refine g_region ?_
     refine g_val rfl rfl rfl (fun _ _ => v_assign rfl) ?_
     refine g_val rfl rfl rfl (fun _ _ => v_assign rfl) ?_
     refine g_nil ?_
     refine g_n_then ?_
     refine g_seq ?_
     refine g_region ?_
     refine g_vlit RI [-1] (ps := [(0, _)]) (cells := [_]) (fun w => Try.runUnderlying26 w) (fun w => Try.sizeOf3 w) (fun w => Try.zeroValue3 w) rfl rfl rfl rfl rfl rfl rfl rfl (fun L h11 => ?_)
     refine g_val rfl rfl rfl (fun _ _ => v_assign rfl) ?_
     refine g_nil ?_
     refine g_n_then ?_
     refine g_seq ?_
     refine g_seq ?_
     refine g_region ?_
     refine g_val rfl rfl rfl (fun _ _ => v_assign rfl) ?_
     refine g_nil ?_
     refine g_n_then ?_
     obtain ⟨o, h12, h13⟩ := bindO hm
     refine g_cut (ι := m_laurelref01_Crest_C0) (fun j => o = .inl j) (fun j => [(1, .int .i64 place1), (11, .int .i64 j.at11), (12, .int .i64 j.crest12)]) (fun j => [(b, .cells #[.slice qa0 na0 ca0, .int .i64 s0.wind.lo, .int .i64 s0.wind.hi, .slice qa1 na1 ca1, .slice qa2 na2 ca2] 59 (0, 0))]) (fun j => []) ?_ ?_
     ·replace hm := h12
      refine g_block ?_
      refine g_loopF (ι := VL) hm (fun s l_3 => VOK 1 l_3.n l_3.cap (RI.enc s.met13) l_3.sp l_3.q) (fun s l_3 => [(1, .int .i64 place1), (2, .slice qa3 na3 ca3), (3, ptr b 0), (11, .int .i64 s.at11), (12, .int .i64 s.crest12), (13, slv l_3.q l_3.n l_3.cap), (14, .int .i64 s.i14)]) (fun s l_3 => [(b, .cells #[.slice qa0 na0 ca0, .int .i64 s0.wind.lo, .int .i64 s0.wind.hi, .slice qa1 na1 ca1, .slice qa2 na2 ca2] 59 (0, 0))]) (fun s l_3 => [⟨3, RI.enc s.met13, l_3.sp, l_3.q⟩]) L (h11) ((.cons rfl (.cons rfl (.cons rfl (.cons rfl (.cons rfl (.cons rfl (.cons rfl .nil)))))))) (fun w hh => hh) (fun s l_3 r hpl hm h15 => ?_)
      have h14 := hpl
      unfold m_laurelref01_Crest_L0 at hm
      refine g_seq ?_
      refine g_seq ?_
      refine g_region ?_
      refine g_val rfl rfl rfl (fun _ _ => v_move rfl) ?_
      refine g_val rfl rfl rfl (fun _ _ => v_move rfl) ?_
      refine g_val rfl rfl rfl (fun w _ => v_lenR hna3 (Try.runUnderlying26 w) rfl) ?_
      refine g_val rfl rfl rfl (fun _ _ => v_lss rfl rfl) ?_
      refine g_nil ?_
      refine g_n_then ?_
      refine g_cond rfl (fun h16 => ?_) (fun h16 => ?_)
      ·replace hm := ifT (of_decide_eq_true h16) hm
       refine g_skip ?_
       refine g_n_then ?_
       refine g_seq ?_
       refine g_block ?_
       refine g_seq ?_
       refine g_draw none (.free 0 (.hoist 1 (.free 2 (.free 3 (.free 4 (.hoist 5 (.free 6 (.hoist 7 (.one 8 (.one 9 .done)))))))))) _ rfl (by decide +kernel) (fun w k hh => hh.draw k) (fun w hh => hh) ?_
       refine p_free rfl rfl rfl rfl (fun w _ => v_fieldAddr 4 (Try.runUnderlying59 w) rfl (Try.sizeOf57 w) rfl) ?_
       refine p_hoist rfl rfl rfl rfl (fun w hh => v_load (Try.isAgg57 w) rfl (hh.cell 0 rfl rfl)) ?_
       refine p_free rfl rfl rfl rfl (fun _ _ => v_move rfl) ?_
       refine p_free rfl rfl rfl rfl (fun _ _ => v_move rfl) ?_
       obtain ⟨t45, h17, hm⟩ := bindO hm
       refine p_free rfl rfl rfl rfl (fun w _ => v_ixR h17 (Try.runUnderlying26 w) (Try.sizeOf3 w) rfl rfl hna3 hqa3) ?_
       refine p_hoist rfl rfl rfl rfl (fun w hh => v_ldE RI 0 h17 (Try.isAgg3 w) rfl (hh.seg 3 rfl) rfl (Nat.add_zero _).symm) ?_
       obtain ⟨t47, h18, hm⟩ := bindO hm
       refine p_free rfl rfl rfl rfl (fun w _ => v_ixR h18 (Try.runUnderlying57 w) (Try.sizeOf159 w) rfl rfl hna2 hqa2) ?_
       refine p_hoist rfl rfl rfl rfl (fun w hh => v_ldEA RS 0 [.int .i64 t47.a, .int .i64 t47.b, .int .i64 t47.h] h18 (Try.isAgg159 w) (Try.sizeOf159 w) rfl (hh.seg 2 rfl) rfl (Nat.add_zero _).symm) ?_
       refine p_one rfl ?_
       refine g_allocV (fun w => Try.zeroValue159 w) rfl (fun b_1 h19 => ?_)
       refine p_next (fun w hh => hh.sel [1] [0] 0 (by decide) (by decide) rfl rfl rfl) ?_
       refine p_one rfl ?_
       refine g_stSA (us := #[_, _, _]) (cs' := [_, _, _]) (S' := [_, _]) 0 (fun w => Try.sizeOf159 w) rfl rfl rfl rfl rfl rfl rfl ?_
       refine p_next (fun w hh => hh.sel [1] [0] 0 (by decide) (by decide) rfl rfl rfl) ?_
       refine p_done ?_
       refine g_n_then ?_
       refine g_seq ?_
       refine g_region ?_
       refine g_val rfl rfl rfl (fun _ _ => v_assign rfl) ?_
       refine g_nil ?_
       refine g_n_then ?_
       refine g_seq ?_
       obtain ⟨o_1, h20, h21⟩ := bindO hm
       refine g_cut (ι := Unit) (fun l_4 => True) (fun l_4 => [(1, .int .i64 place1), (2, .slice qa3 na3 ca3), (3, ptr b 0), (11, .int .i64 s.at11), (12, .int .i64 s.crest12), (13, slv l_3.q l_3.n l_3.cap), (14, .int .i64 s.i14), (15, ptr b_1 0), (16, .int .i64 o_1)]) (fun l_4 => [(b_1, .cells #[.int .i64 t47.a, .int .i64 t47.b, .int .i64 t47.h] 159 (0, 0)), (b, .cells #[.slice qa0 na0 ca0, .int .i64 s0.wind.lo, .int .i64 s0.wind.hi, .slice qa1 na1 ca1, .slice qa2 na2 ca2] 59 (0, 0))]) (fun l_4 => [⟨3, RI.enc s.met13, l_3.sp, l_3.q⟩]) ?_ ?_
       ·replace hm := h20
        refine g_seq ?_
        refine g_region ?_
        refine g_val rfl rfl rfl (fun w _ => v_fieldAddr 0 (Try.runUnderlying159 w) rfl (Try.sizeOf3 w) rfl) ?_
        refine g_val rfl rfl rfl (fun w hh => v_load (Try.isAgg3 w) rfl (hh.cell 0 rfl rfl)) ?_
        refine g_val rfl rfl rfl (fun _ _ => v_move rfl) ?_
        refine g_val rfl rfl rfl (fun _ _ => v_eql rfl rfl) ?_
        refine g_nil ?_
        refine g_n_then ?_
        refine g_cond rfl (fun h22 => ?_) (fun h22 => ?_)
        ·replace hm := ifT (of_decide_eq_true h22) hm
         refine g_region ?_
         refine g_val rfl rfl rfl (fun w _ => v_fieldAddr 1 (Try.runUnderlying159 w) rfl (Try.sizeOf3 w) rfl) ?_
         refine g_val rfl rfl rfl (fun w hh => v_load (Try.isAgg3 w) rfl (hh.cell 0 rfl rfl)) ?_
         refine g_val rfl rfl rfl (fun _ _ => v_assign rfl) ?_
         refine g_nil ?_
         obtain rfl := Option.some.inj hm
         exact g_leaf () (trivial) ((.cons rfl (.cons rfl (.cons rfl (.cons rfl (.cons rfl (.cons rfl (.cons rfl (.cons rfl (.cons rfl .nil)))))))))) (fun w hh => hh)
        ·replace hm := ifF (of_decide_eq_false h22) hm
         refine g_skip ?_
         obtain rfl := Option.some.inj hm
         exact g_leaf () (trivial) ((.cons rfl (.cons rfl (.cons rfl (.cons rfl (.cons rfl (.cons rfl (.cons rfl (.cons rfl (.cons rfl .nil)))))))))) (fun w hh => hh)
       ·intro l_4 hj
        replace hm := h21
        refine g_n_then ?_
        refine g_seq ?_
        obtain ⟨o_2, h23, h24⟩ := bindO hm
        refine g_cut (ι := Unit) (fun l_5 => True) (fun l_5 => [(1, .int .i64 place1), (2, .slice qa3 na3 ca3), (3, ptr b 0), (12, .int .i64 s.crest12), (13, slv l_3.q l_3.n l_3.cap), (14, .int .i64 s.i14), (15, ptr b_1 0), (16, .int .i64 o_2)]) (fun l_5 => [(b_1, .cells #[.int .i64 t47.a, .int .i64 t47.b, .int .i64 t47.h] 159 (0, 0)), (b, .cells #[.slice qa0 na0 ca0, .int .i64 s0.wind.lo, .int .i64 s0.wind.hi, .slice qa1 na1 ca1, .slice qa2 na2 ca2] 59 (0, 0))]) (fun l_5 => [⟨3, RI.enc s.met13, l_3.sp, l_3.q⟩]) ?_ ?_
        ·replace hm := h23
         refine g_seq ?_
         refine g_region ?_
         refine g_val rfl rfl rfl (fun w _ => v_fieldAddr 1 (Try.runUnderlying159 w) rfl (Try.sizeOf3 w) rfl) ?_
         refine g_val rfl rfl rfl (fun w hh => v_load (Try.isAgg3 w) rfl (hh.cell 0 rfl rfl)) ?_
         refine g_val rfl rfl rfl (fun _ _ => v_move rfl) ?_
         refine g_val rfl rfl rfl (fun _ _ => v_eql rfl rfl) ?_
         refine g_nil ?_
         refine g_n_then ?_
         refine g_cond rfl (fun h25 => ?_) (fun h25 => ?_)
         ·replace hm := ifT (of_decide_eq_true h25) hm
          refine g_region ?_
          refine g_val rfl rfl rfl (fun w _ => v_fieldAddr 0 (Try.runUnderlying159 w) rfl (Try.sizeOf3 w) rfl) ?_
          refine g_val rfl rfl rfl (fun w hh => v_load (Try.isAgg3 w) rfl (hh.cell 0 rfl rfl)) ?_
          refine g_val rfl rfl rfl (fun _ _ => v_assign rfl) ?_
          refine g_nil ?_
          obtain rfl := Option.some.inj hm
          exact g_leaf () (trivial) ((.cons rfl (.cons rfl (.cons rfl (.cons rfl (.cons rfl (.cons rfl (.cons rfl (.cons rfl .nil))))))))) (fun w hh => hh)
         ·replace hm := ifF (of_decide_eq_false h25) hm
          refine g_skip ?_
          obtain rfl := Option.some.inj hm
          exact g_leaf () (trivial) ((.cons rfl (.cons rfl (.cons rfl (.cons rfl (.cons rfl (.cons rfl (.cons rfl (.cons rfl .nil))))))))) (fun w hh => hh)
        ·intro l_5 hj
         replace hm := h24
         refine g_n_then ?_
         refine g_seq ?_
         refine g_seq ?_
         obtain ⟨o_3, h26, h27⟩ := bindO hm
         refine g_cut (ι := Unit) (fun l_6 => True) (fun l_6 => [(1, .int .i64 place1), (2, .slice qa3 na3 ca3), (3, ptr b 0), (12, .int .i64 s.crest12), (13, slv l_3.q l_3.n l_3.cap), (14, .int .i64 s.i14), (15, ptr b_1 0), (16, .int .i64 o_2), (67, .bool o_3)]) (fun l_6 => [(b_1, .cells #[.int .i64 t47.a, .int .i64 t47.b, .int .i64 t47.h] 159 (0, 0)), (b, .cells #[.slice qa0 na0 ca0, .int .i64 s0.wind.lo, .int .i64 s0.wind.hi, .slice qa1 na1 ca1, .slice qa2 na2 ca2] 59 (0, 0))]) (fun l_6 => [⟨3, RI.enc s.met13, l_3.sp, l_3.q⟩]) ?_ ?_
         ·replace hm := h26
          refine g_region ?_
          refine g_val rfl rfl rfl (fun _ _ => v_move rfl) ?_
          refine g_val rfl rfl rfl (fun _ _ => v_eql rfl rfl) ?_
          refine g_val rfl rfl rfl (fun _ _ => v_move rfl) ?_
          refine g_case 63 rfl (fun h28 => ?_) (fun h28 => ?_)
          ·replace hm := ifT (of_decide_eq_true h28) hm
           refine g_skipG rfl rfl rfl rfl rfl rfl ?_
           refine g_skipG rfl rfl rfl rfl rfl rfl ?_
           refine g_skipG rfl rfl rfl rfl rfl rfl ?_
           refine g_val rfl rfl rfl (fun _ _ => v_pickT rfl rfl) ?_
           refine g_nil ?_
           obtain rfl := Option.some.inj hm
           exact g_leaf () (trivial) ((.cons rfl (.cons rfl (.cons rfl (.cons rfl (.cons rfl (.cons rfl (.cons rfl (.cons rfl (.cons rfl .nil)))))))))) (fun w hh => hh)
          ·replace hm := ifF (of_decide_eq_false h28) hm
           refine v_unguard rfl rfl ?_
           refine g_val rfl rfl rfl (fun _ _ => v_move rfl) ?_
           refine v_unguard rfl rfl ?_
           refine g_val rfl rfl rfl (fun _ _ => v_move rfl) ?_
           refine v_unguard rfl rfl ?_
           obtain ⟨t66, h29, hm⟩ := bindO hm
           refine g_callH [] [] rfl rfl rfl rfl rfl rfl rfl (fun a w => Try.call136 a w) (fun w hh => c_laurelref01_has s.met13 o_2 (qA l_3.q) l_3.n l_3.cap w (HV.callee (S0 := []) (vs0 := []) hh (roC (hh.vsepA (S0 := []) (vs0 := []) 0 rfl h14) roN)) (vlen RI h14 rfl) (AOK.q (vne h14)) (h14).hle h29) (fun l_7 h30 => ?_)
           refine g_val rfl rfl rfl (fun _ _ => v_pickF rfl rfl) ?_
           refine g_nil ?_
           obtain rfl := Option.some.inj hm
           exact g_leaf () (trivial) ((.cons rfl (.cons rfl (.cons rfl (.cons rfl (.cons rfl (.cons rfl (.cons rfl (.cons rfl (.cons rfl .nil)))))))))) (fun w hh => hh)
         ·intro l_6 hj
          replace hm := h27
          refine g_n_then ?_
          refine g_cond rfl (fun h31 => ?_) (fun h31 => ?_)
          ·replace hm := ifT (h31) hm
           refine g_seq ?_
           refine g_region ?_
           refine g_val rfl rfl rfl (fun _ _ => v_assign rfl) ?_
           refine g_val rfl rfl rfl (fun _ _ => v_assign rfl) ?_
           refine g_nil ?_
           refine g_n_then ?_
           refine g_ret ?_
           refine g_r_then ?_
           refine g_r_blk ?_
           refine g_r_then ?_
           refine g_r_then ?_
           refine g_r_blk ?_
           obtain rfl := Option.some.inj hm
           have hbo := h15 _ rfl
           subst hbo
           refine g_r_then ?_
           replace hm := ocR h13
           refine g_r_then ?_
           obtain rfl := Option.some.inj hm
           refine g_done rfl (fun w hh => (.tmp rfl (.tmp rfl .nil))) (fun w hh => ⟨(), rfl, trivial, hh.sel [] [] 4 (by decide) (by decide) rfl rfl rfl⟩)
          ·replace hm := ifF ((fun hh => Bool.noConfusion ((h31).symm.trans hh))) hm
           refine g_skip ?_
           refine g_n_then ?_
           refine g_seq ?_
           refine g_region ?_
           refine g_val rfl rfl rfl (fun _ _ => v_move rfl) ?_
           refine g_val rfl rfl rfl (fun _ _ => v_assign rfl) ?_
           refine g_nil ?_
           refine g_n_then ?_
           refine g_seq ?_
           refine g_region ?_
           refine g_val rfl rfl rfl (fun _ _ => v_move rfl) ?_
           refine g_val rfl rfl rfl (fun _ _ => v_move rfl) ?_
           refine g_vlit RI [o_2] (ps := [(0, _)]) (cells := [_]) (fun w => Try.runUnderlying26 w) (fun w => Try.sizeOf3 w) (fun w => Try.zeroValue3 w) rfl rfl rfl rfl rfl rfl rfl rfl (fun L_1 h32 => ?_)
           obtain ⟨t72, h33, hm⟩ := bindO hm
           refine g_vapp RI 1 h33 Try.underlying26 gxinf3 rfl rfl rfl rfl rfl h14 rfl rfl (vlen RI h32 rfl) (AOK.q (vne h32)) (fun w hh => (hh.vsegA 0 rfl h32)) rfl (fun L_2 h34 h34n => ?_)
           refine g_sel (S' := [_, _]) (vs' := [_, _]) [0, 1] [0, 1] 0 (by decide) (by decide) rfl rfl rfl ?_
           refine g_val rfl rfl rfl (fun _ _ => v_assign rfl) ?_
           refine g_nil ?_
           refine g_n_then ?_
           refine g_draw none (.free 0 (.free 1 (.hoist 2 (.free 3 (.hoist 4 (.free 5 (.free 6 (.hoist 7 (.free 8 (.free 9 .done)))))))))) _ rfl (by decide +kernel) (fun w k hh => hh.draw k) (fun w hh => hh) ?_
           refine p_free rfl rfl rfl rfl (fun _ _ => v_move rfl) ?_
           refine p_free rfl rfl rfl rfl (fun w _ => v_fieldAddr 2 (Try.runUnderlying159 w) rfl (Try.sizeOf3 w) rfl) ?_
           refine p_hoist rfl rfl rfl rfl (fun w hh => v_load (Try.isAgg3 w) rfl (hh.cell 0 rfl rfl)) ?_
           refine p_free rfl rfl rfl rfl (fun w _ => v_fieldAddr 3 (Try.runUnderlying59 w) rfl (Try.sizeOf26 w) rfl) ?_
           refine p_hoist rfl rfl rfl rfl (fun w hh => v_load (Try.isAgg26 w) rfl (hh.cell 1 rfl rfl)) ?_
           refine p_free rfl rfl rfl rfl (fun _ _ => v_move rfl) ?_
           obtain ⟨t79, h35, hm⟩ := bindO hm
           refine p_free rfl rfl rfl rfl (fun w _ => v_ixR h35 (Try.runUnderlying26 w) (Try.sizeOf3 w) rfl rfl hna1 hqa1) ?_
           refine p_hoist rfl rfl rfl rfl (fun w hh => v_ldE RI 0 h35 (Try.isAgg3 w) rfl (hh.seg 1 rfl) rfl (Nat.add_zero _).symm) ?_
           refine p_free rfl rfl rfl rfl (fun _ _ => v_max3 rfl rfl rfl) ?_
           refine p_free rfl rfl rfl rfl (fun _ _ => v_assign rfl) ?_
           refine p_done ?_
           refine g_n_blk ?_
           refine g_n_then ?_
           refine g_region ?_
           refine g_val rfl rfl rfl (fun _ _ => v_move rfl) ?_
           obtain ⟨t40, h36, hm⟩ := bindO hm
           refine g_val rfl rfl rfl (fun _ _ => v_addc h36 rfl rfl) ?_
           refine g_val rfl rfl rfl (fun _ _ => v_assign rfl) ?_
           refine g_nil ?_
           obtain rfl := Option.some.inj hm
           refine g_n_then ?_
           exact g_again' _ L_2 rfl (h34) ((.cons rfl (.cons rfl (.cons rfl (.cons rfl (.cons rfl (.cons rfl (.cons rfl .nil)))))))) (fun w hh => hh.sel [1] [1] 0 (by decide) (by decide) rfl rfl rfl)
      ·replace hm := ifF (of_decide_eq_false h16) hm
       refine g_exit ?_
       refine g_x_then ?_
       refine g_x_then ?_
       refine g_x_blk ?_
       obtain rfl := Option.some.inj hm
       have hbo := h15 _ rfl
       subst hbo
       exact g_leaf (⟨s.at11, s.crest12⟩ : m_laurelref01_Crest_C0) (rfl) ((.cons rfl (.cons rfl (.cons rfl .nil)))) (fun w hh => hh.sel [0] [] 0 (by decide) (by decide) rfl rfl rfl)
     ·intro j hj
      have h37 := hj
      subst h37
      replace hm := ocL h13
      refine g_n_then ?_
      refine g_seq ?_
      refine g_seq ?_
      refine g_region ?_
      refine g_val rfl rfl rfl (fun _ _ => v_move rfl) ?_
      refine g_val rfl rfl rfl (fun _ _ => v_move rfl) ?_
      refine g_val rfl rfl rfl (fun _ _ => v_neq rfl rfl) ?_
      refine g_nil ?_
      refine g_n_then ?_
      refine g_cond rfl (fun h38 => ?_) (fun h38 => ?_)
      ·replace hm := ifF (of_ndec_true h38) hm
       refine g_seq ?_
       refine g_region ?_
       refine g_val rfl rfl rfl (fun _ _ => v_assign rfl) ?_
       refine g_val rfl rfl rfl (fun _ _ => v_assign rfl) ?_
       refine g_nil ?_
       refine g_n_then ?_
       refine g_ret ?_
       refine g_r_then ?_
       obtain rfl := Option.some.inj hm
       refine g_done rfl (fun w hh => (.tmp rfl (.tmp rfl .nil))) (fun w hh => ⟨(), rfl, trivial, hh.sel [] [] 4 (by decide) (by decide) rfl rfl rfl⟩)
      ·replace hm := ifT (of_ndec_false h38) hm
       refine g_skip ?_
       refine g_n_then ?_
       refine g_seq ?_
       refine g_region ?_
       refine g_val rfl rfl rfl (fun _ _ => v_move rfl) ?_
       refine g_val rfl rfl rfl (fun _ _ => v_assign rfl) ?_
       refine g_val rfl rfl rfl (fun _ _ => v_assign rfl) ?_
       refine g_nil ?_
       refine g_n_then ?_
       refine g_ret ?_
       obtain rfl := Option.some.inj hm
       refine g_done rfl (fun w hh => (.tmp rfl (.tmp rfl .nil))) (fun w hh => ⟨(), rfl, trivial, hh.sel [] [] 4 (by decide) (by decide) rfl rfl rfl⟩)
def m_laurelref01_repeats_L1 (s : Int) (l0 : (List Int)) (s_1 : Int) : Option (Int ⊕ (Unit ⊕ Bool)) :=
 if s_1 < s then
 ((ix l0 s).bind fun t18 =>
 (ix l0 s_1).bind fun t22 =>
 if t18 = t22 then
 (some (.inr (.inr true))) else
 ((addc s_1 1).bind fun t15 =>
 some (.inl t15))) else
 (some (.inr (.inl ())))
def m_laurelref01_repeats_L0 (l0 : (List Int)) (s : Int) : Option (Int ⊕ (Unit ⊕ Bool)) :=
 if s < (l0.length : Int) then
 ((iterM FU (m_laurelref01_repeats_L1 s l0) 0).bind fun o_1 =>
 oc o_1 (fun j_1 => (addc s 1).bind fun t10 =>
 some (.inl t10)) (fun r_2 => some (.inr (.inr r_2)))) else
 (some (.inr (.inl ())))
def m_laurelref01_repeats (l0 : (List Int)) : Option Bool :=
 (iterM FU (m_laurelref01_repeats_L0 l0) 0).bind fun o =>
 oc o (fun j => some false) (fun r_3 => some r_3)
set_option maxRecDepth 100000 in
set_option maxHeartbeats 4000000 in
theorem c_laurelref01_repeats (l0 : (List Int)) (qa0 : Option Addr) (na0 ca0 : Nat) (w : World) (hw : HV w (keys [] []) [] [] [(aB qa0, aO qa0, RI.enc l0)] w) (hna0 : l0.length = na0) (hqa0 : AOK na0 qa0) (hla0 : na0 ≤ ca0) {res : Bool} (hm : m_laurelref01_repeats l0 = some res) :
    Calls Try.prog 137 #[.slice qa0 na0 ca0] w (fun en w' => ∃ l : Unit, en = .returned (.bool res) ∧ (True) ∧ HV w (keys [] []) [] [] [] w') := by
  unfold m_laurelref01_repeats at hm
  refine g_enter (args := [.slice qa0 na0 ca0]) Try.func137 rfl Try.ntmps137 rfl (e := [(0, _)]) rfl (H := HV w (keys [] []) [] [] [(aB qa0, aO qa0, RI.enc l0)]) hw ?_
  refine g_seq ?_
  refine g_region ?_
  refine g_val rfl rfl rfl (fun _ _ => v_assign rfl) ?_
  refine g_nil ?_
  refine g_n_then ?_
  refine g_seq ?_
  refine g_seq ?_
  refine g_region ?_
  refine g_val rfl rfl rfl (fun _ _ => v_assign rfl) ?_
  refine g_nil ?_
  refine g_n_then ?_
  obtain ⟨o, h1, h2⟩ := bindO hm
  refine g_cut (ι := Unit) (fun j => o = .inl j) (fun j => []) (fun j => []) (fun j => []) ?_ ?_
  ·replace hm := h1
   refine g_block ?_
   refine g_loopF (ι := Unit) hm (fun s l => True) (fun s l => [(0, .slice qa0 na0 ca0), (3, .int .i64 s)]) (fun s l => []) (fun s l => []) () (trivial) ((.cons rfl (.cons rfl .nil))) (fun w hh => hh) (fun s l r hpl hm h3 => ?_)
   unfold m_laurelref01_repeats_L0 at hm
   refine g_seq ?_
   refine g_seq ?_
   refine g_region ?_
   refine g_val rfl rfl rfl (fun _ _ => v_move rfl) ?_
   refine g_val rfl rfl rfl (fun _ _ => v_move rfl) ?_
   refine g_val rfl rfl rfl (fun w _ => v_lenR hna0 (Try.runUnderlying26 w) rfl) ?_
   refine g_val rfl rfl rfl (fun _ _ => v_lss rfl rfl) ?_
   refine g_nil ?_
   refine g_n_then ?_
   refine g_cond rfl (fun h4 => ?_) (fun h4 => ?_)
   ·replace hm := ifT (of_decide_eq_true h4) hm
    refine g_skip ?_
    refine g_n_then ?_
    refine g_seq ?_
    refine g_block ?_
    refine g_seq ?_
    refine g_region ?_
    refine g_val rfl rfl rfl (fun _ _ => v_assign rfl) ?_
    refine g_nil ?_
    refine g_n_then ?_
    obtain ⟨o_1, h5, h6⟩ := bindO hm
    refine g_cut (ι := Unit) (fun j_1 => o_1 = .inl j_1) (fun j_1 => [(0, .slice qa0 na0 ca0), (3, .int .i64 s)]) (fun j_1 => []) (fun j_1 => []) ?_ ?_
    ·replace hm := h5
     refine g_block ?_
     refine g_loopF (ι := Unit) hm (fun s_1 l_1 => True) (fun s_1 l_1 => [(0, .slice qa0 na0 ca0), (3, .int .i64 s), (4, .int .i64 s_1)]) (fun s_1 l_1 => []) (fun s_1 l_1 => []) () (trivial) ((.cons rfl (.cons rfl (.cons rfl .nil)))) (fun w hh => hh) (fun s_1 l_1 r_1 hpl hm h7 => ?_)
     unfold m_laurelref01_repeats_L1 at hm
     refine g_seq ?_
     refine g_seq ?_
     refine g_region ?_
     refine g_val rfl rfl rfl (fun _ _ => v_move rfl) ?_
     refine g_val rfl rfl rfl (fun _ _ => v_move rfl) ?_
     refine g_val rfl rfl rfl (fun _ _ => v_lss rfl rfl) ?_
     refine g_nil ?_
     refine g_n_then ?_
     refine g_cond rfl (fun h8 => ?_) (fun h8 => ?_)
     ·replace hm := ifT (of_decide_eq_true h8) hm
      refine g_skip ?_
      refine g_n_then ?_
      refine g_seq ?_
      refine g_block ?_
      refine g_seq ?_
      refine g_draw none (.free 0 (.free 1 (.free 2 (.hoist 3 (.free 4 (.free 5 (.free 6 (.hoist 7 (.free 8 .done))))))))) _ rfl (by decide +kernel) (fun w k hh => hh.draw k) (fun w hh => hh) ?_
      refine p_free rfl rfl rfl rfl (fun _ _ => v_move rfl) ?_
      refine p_free rfl rfl rfl rfl (fun _ _ => v_move rfl) ?_
      obtain ⟨t18, h9, hm⟩ := bindO hm
      refine p_free rfl rfl rfl rfl (fun w _ => v_ixR h9 (Try.runUnderlying26 w) (Try.sizeOf3 w) rfl rfl hna0 hqa0) ?_
      refine p_hoist rfl rfl rfl rfl (fun w hh => v_ldE RI 0 h9 (Try.isAgg3 w) rfl (hh.seg 0 rfl) rfl (Nat.add_zero _).symm) ?_
      refine p_free rfl rfl rfl rfl (fun _ _ => v_move rfl) ?_
      refine p_free rfl rfl rfl rfl (fun _ _ => v_move rfl) ?_
      obtain ⟨t22, h10, hm⟩ := bindO hm
      refine p_free rfl rfl rfl rfl (fun w _ => v_ixR h10 (Try.runUnderlying26 w) (Try.sizeOf3 w) rfl rfl hna0 hqa0) ?_
      refine p_hoist rfl rfl rfl rfl (fun w hh => v_ldE RI 0 h10 (Try.isAgg3 w) rfl (hh.seg 0 rfl) rfl (Nat.add_zero _).symm) ?_
      refine p_free rfl rfl rfl rfl (fun _ _ => v_eql rfl rfl) ?_
      refine p_done ?_
      refine g_n_then ?_
      refine g_cond rfl (fun h11 => ?_) (fun h11 => ?_)
      ·replace hm := ifT (of_decide_eq_true h11) hm
       refine g_seq ?_
       refine g_region ?_
       refine g_val rfl rfl rfl (fun _ _ => v_assign rfl) ?_
       refine g_nil ?_
       refine g_n_then ?_
       refine g_ret ?_
       refine g_r_blk ?_
       refine g_r_then ?_
       refine g_r_then ?_
       refine g_r_blk ?_
       obtain rfl := Option.some.inj hm
       have hbo := h7 _ rfl
       subst hbo
       refine g_r_then ?_
       replace hm := ocR h6
       refine g_r_blk ?_
       refine g_r_then ?_
       refine g_r_then ?_
       refine g_r_blk ?_
       obtain rfl := Option.some.inj hm
       have hbo := h3 _ rfl
       subst hbo
       refine g_r_then ?_
       replace hm := ocR h2
       refine g_r_then ?_
       obtain rfl := Option.some.inj hm
       refine g_done rfl (fun w hh => (.tmp rfl .nil)) (fun w hh => ⟨(), rfl, trivial, hh.sel [] [] 1 (by decide) (by decide) rfl rfl rfl⟩)
      ·replace hm := ifF (of_decide_eq_false h11) hm
       refine g_skip ?_
       refine g_n_blk ?_
       refine g_n_then ?_
       refine g_region ?_
       refine g_val rfl rfl rfl (fun _ _ => v_move rfl) ?_
       obtain ⟨t15, h12, hm⟩ := bindO hm
       refine g_val rfl rfl rfl (fun _ _ => v_addc h12 rfl rfl) ?_
       refine g_val rfl rfl rfl (fun _ _ => v_assign rfl) ?_
       refine g_nil ?_
       obtain rfl := Option.some.inj hm
       refine g_n_then ?_
       exact g_again' _ () rfl (trivial) ((.cons rfl (.cons rfl (.cons rfl .nil)))) (fun w hh => hh)
     ·replace hm := ifF (of_decide_eq_false h8) hm
      refine g_exit ?_
      refine g_x_then ?_
      refine g_x_then ?_
      refine g_x_blk ?_
      obtain rfl := Option.some.inj hm
      have hbo := h7 _ rfl
      subst hbo
      exact g_leaf () (rfl) ((.cons rfl (.cons rfl .nil))) (fun w hh => hh)
    ·intro j_1 hj
     have h13 := hj
     subst h13
     replace hm := ocL h6
     refine g_n_blk ?_
     refine g_n_then ?_
     refine g_region ?_
     refine g_val rfl rfl rfl (fun _ _ => v_move rfl) ?_
     obtain ⟨t10, h14, hm⟩ := bindO hm
     refine g_val rfl rfl rfl (fun _ _ => v_addc h14 rfl rfl) ?_
     refine g_val rfl rfl rfl (fun _ _ => v_assign rfl) ?_
     refine g_nil ?_
     obtain rfl := Option.some.inj hm
     refine g_n_then ?_
     exact g_again' _ () rfl (trivial) ((.cons rfl (.cons rfl .nil))) (fun w hh => hh)
   ·replace hm := ifF (of_decide_eq_false h4) hm
    refine g_exit ?_
    refine g_x_then ?_
    refine g_x_then ?_
    refine g_x_blk ?_
    obtain rfl := Option.some.inj hm
    have hbo := h3 _ rfl
    subst hbo
    exact g_leaf () (rfl) (.nil) (fun w hh => hh)
  ·intro j hj
   have h15 := hj
   subst h15
   replace hm := ocL h2
   refine g_n_then ?_
   refine g_seq ?_
   refine g_region ?_
   refine g_val rfl rfl rfl (fun _ _ => v_assign rfl) ?_
   refine g_nil ?_
   refine g_n_then ?_
   refine g_ret ?_
   obtain rfl := Option.some.inj hm
   refine g_done rfl (fun w hh => (.tmp rfl .nil)) (fun w hh => ⟨(), rfl, trivial, hh.sel [] [] 1 (by decide) (by decide) rfl rfl rfl⟩)
structure m_laurelref01_Hold_R where
  r0 : Int
  r1 : Int
def m_laurelref01_Hold_L0 (places3 : (List Int)) (s0 : Sands) (s : Int) : Option (Int ⊕ (Unit ⊕ m_laurelref01_Hold_R)) :=
 if s < (places3.length : Int) then
 ((ix places3 s).bind fun t44 =>
 (m_laurelref01_Place s0 t44).bind fun t46 =>
 if t46 = 0 then
 ((addc s 1).bind fun t40 =>
 some (.inl t40)) else
 (some (.inr (.inr (⟨0, t46⟩ : m_laurelref01_Hold_R))))) else
 (some (.inr (.inl ())))
structure m_laurelref01_Hold_S1 where
  out15 : Int
  i16 : Int
def m_laurelref01_Hold_L1 (sills2 : (List Int)) (s0 : Sands) (s_1 : m_laurelref01_Hold_S1) : Option (m_laurelref01_Hold_S1 ⊕ Int) :=
 if s_1.i16 < (sills2.length : Int) then
 ((ix sills2 s_1.i16).bind fun t73 =>
 (ix s0.sills t73).bind fun t75 =>
 (addc s_1.i16 1).bind fun t67 =>
 some (.inl (⟨(min s_1.out15 t75.h), t67⟩ : m_laurelref01_Hold_S1))) else
 (some (.inr s_1.out15))
structure m_laurelref01_Hold_S2 where
  out15 : Int
  i17 : Int
def m_laurelref01_Hold_L2 (places3 : (List Int)) (s0 : Sands) (s_2 : m_laurelref01_Hold_S2) : Option (m_laurelref01_Hold_S2 ⊕ Int) :=
 if s_2.i17 < (places3.length : Int) then
 ((ix places3 s_2.i17).bind fun t90 =>
 (ix s0.floors t90).bind fun t92 =>
 (addc s_2.i17 1).bind fun t84 =>
 some (.inl (⟨(min s_2.out15 t92), t84⟩ : m_laurelref01_Hold_S2))) else
 (some (.inr s_2.out15))
def m_laurelref01_Hold (s0 : Sands) (place1 : Int) (sills2 : (List Int)) (places3 : (List Int)) : Option m_laurelref01_Hold_R :=
 (m_laurelref01_Check s0).bind fun t19 =>
 if t19 = 0 then
 ((m_laurelref01_Place s0 place1).bind fun t25 =>
 if t25 = 0 then
 ((m_laurelref01_listed s0 sills2).bind fun t31 =>
 if t31 = 0 then
 ((iterM FU (m_laurelref01_Hold_L0 places3 s0) 0).bind fun o =>
 oc o (fun j => ((m_laurelref01_repeats sills2).bind fun t51 =>
 if t51 = true then
 (some true) else
 ((m_laurelref01_repeats places3).bind fun t54 =>
 some t54)).bind fun o_1 =>
 if o_1 = true then
 (some (⟨0, 5⟩ : m_laurelref01_Hold_R)) else
 ((m_laurelref01_least FU s0 (-1) [] 0 place1 sills2 places3).bind fun t60 =>
 if t60 = 5000 then
 ((iterM FU (m_laurelref01_Hold_L1 sills2 s0) (⟨5000, 0⟩ : m_laurelref01_Hold_S1)).bind fun o_2 =>
 (iterM FU (m_laurelref01_Hold_L2 places3 s0) (⟨o_2, 0⟩ : m_laurelref01_Hold_S2)).bind fun o_3 =>
 if o_3 = 5000 then
 (some (⟨0, 6⟩ : m_laurelref01_Hold_R)) else
 (some (⟨o_3, 0⟩ : m_laurelref01_Hold_R))) else
 (some (⟨0, 8⟩ : m_laurelref01_Hold_R)))) (fun r_3 => some r_3)) else
 (some (⟨0, t31⟩ : m_laurelref01_Hold_R))) else
 (some (⟨0, t25⟩ : m_laurelref01_Hold_R))) else
 (some (⟨0, t19⟩ : m_laurelref01_Hold_R))
set_option maxRecDepth 100000 in
set_option maxHeartbeats 4000000 in
theorem c_laurelref01_Hold (s0 : Sands) (place1 : Int) (sills2 : (List Int)) (places3 : (List Int)) (qa0 : Option Addr) (na0 ca0 : Nat) (qa1 : Option Addr) (na1 ca1 : Nat) (qa2 : Option Addr) (na2 ca2 : Nat) (qa3 : Option Addr) (na3 ca3 : Nat) (qa4 : Option Addr) (na4 ca4 : Nat) (w : World) (hw : HV w (keys [] []) [] [] [(aB qa0, aO qa0, RW.enc s0.table), (aB qa1, aO qa1, RI.enc s0.floors), (aB qa2, aO qa2, RS.enc s0.sills), (aB qa3, aO qa3, RI.enc sills2), (aB qa4, aO qa4, RI.enc places3)] w) (hna0 : s0.table.length = na0) (hqa0 : AOK na0 qa0) (hla0 : na0 ≤ ca0) (hna1 : s0.floors.length = na1) (hqa1 : AOK na1 qa1) (hla1 : na1 ≤ ca1) (hna2 : s0.sills.length = na2) (hqa2 : AOK na2 qa2) (hla2 : na2 ≤ ca2) (hna3 : sills2.length = na3) (hqa3 : AOK na3 qa3) (hla3 : na3 ≤ ca3) (hna4 : places3.length = na4) (hqa4 : AOK na4 qa4) (hla4 : na4 ≤ ca4) {res : m_laurelref01_Hold_R} (hm : m_laurelref01_Hold s0 place1 sills2 places3 = some res) :
    Calls Try.prog 68 #[.agg #[.slice qa0 na0 ca0, .int .i64 s0.wind.lo, .int .i64 s0.wind.hi, .slice qa1 na1 ca1, .slice qa2 na2 ca2], .int .i64 place1, .slice qa3 na3 ca3, .slice qa4 na4 ca4] w (fun en w' => ∃ l : Unit, en = .returned (.tuple #[.int .i64 res.r0, .int .i64 res.r1]) ∧ (True) ∧ HV w (keys [] []) [] [] [] w') := by
  unfold m_laurelref01_Hold at hm
  refine g_enter (args := [.agg #[.slice qa0 na0 ca0, .int .i64 s0.wind.lo, .int .i64 s0.wind.hi, .slice qa1 na1 ca1, .slice qa2 na2 ca2], .int .i64 place1, .slice qa3 na3 ca3, .slice qa4 na4 ca4]) Try.func68 rfl Try.ntmps68 rfl (e := [(0, _), (1, _), (2, _), (3, _)]) rfl (H := HV w (keys [] []) [] [] [(aB qa0, aO qa0, RW.enc s0.table), (aB qa1, aO qa1, RI.enc s0.floors), (aB qa2, aO qa2, RS.enc s0.sills), (aB qa3, aO qa3, RI.enc sills2), (aB qa4, aO qa4, RI.enc places3)]) hw ?_
  refine g_seq ?_
  refine g_region ?_
  refine g_boxV rfl rfl (fun b h1 => ?_)
  refine g_val rfl rfl rfl (fun _ _ => v_assign rfl) ?_
  refine g_val rfl rfl rfl (fun _ _ => v_assign rfl) ?_
  refine g_nil ?_
  refine g_n_then ?_
  refine g_seq ?_
  refine g_seq ?_
  refine g_region ?_
  refine g_val rfl rfl rfl (fun w hh => v_loadAgg (vs := [_, _, _, _, _]) (Try.isAgg59 w) (Try.sizeOf59 w) rfl (hh.cells 0 rfl rfl)) ?_
  obtain ⟨t19, h2, hm⟩ := bindO hm
  refine g_callH [] [] rfl rfl rfl rfl rfl rfl rfl (fun a w => Try.call33 a w) (fun w hh => c_laurelref01_Check s0 qa0 na0 ca0 qa1 na1 ca1 qa2 na2 ca2 w (HV.callee (S0 := []) (vs0 := []) hh (roC (hh.rsep (S0 := []) (vs0 := []) 0 rfl) (roC (hh.rsep (S0 := []) (vs0 := []) 1 rfl) (roC (hh.rsep (S0 := []) (vs0 := []) 2 rfl) roN)))) hna0 hqa0 hla0 hna1 hqa1 hla1 hna2 hqa2 hla2 h2) (fun l h3 => ?_)
  refine g_val rfl rfl rfl (fun _ _ => v_assign rfl) ?_
  refine g_nil ?_
  refine g_n_then ?_
  refine g_seq ?_
  refine g_region ?_
  refine g_val rfl rfl rfl (fun _ _ => v_move rfl) ?_
  refine g_val rfl rfl rfl (fun _ _ => v_neq rfl rfl) ?_
  refine g_nil ?_
  refine g_n_then ?_
  refine g_cond rfl (fun h4 => ?_) (fun h4 => ?_)
  ·replace hm := ifF (of_ndec_true h4) hm
   refine g_seq ?_
   refine g_region ?_
   refine g_val rfl rfl rfl (fun _ _ => v_move rfl) ?_
   refine g_val rfl rfl rfl (fun _ _ => v_assign rfl) ?_
   refine g_val rfl rfl rfl (fun _ _ => v_assign rfl) ?_
   refine g_nil ?_
   refine g_n_then ?_
   refine g_ret ?_
   refine g_r_then ?_
   obtain rfl := Option.some.inj hm
   refine g_done rfl (fun w hh => (.tmp rfl (.tmp rfl .nil))) (fun w hh => ⟨(), rfl, trivial, hh.sel [] [] 5 (by decide) (by decide) rfl rfl rfl⟩)
  ·replace hm := ifT (of_ndec_false h4) hm
   refine g_skip ?_
   refine g_n_then ?_
   refine g_seq ?_
   refine g_seq ?_
   refine g_region ?_
   refine g_val rfl rfl rfl (fun w hh => v_loadAgg (vs := [_, _, _, _, _]) (Try.isAgg59 w) (Try.sizeOf59 w) rfl (hh.cells 0 rfl rfl)) ?_
   refine g_val rfl rfl rfl (fun _ _ => v_move rfl) ?_
   obtain ⟨t25, h5, hm⟩ := bindO hm
   refine g_callH [] [] rfl rfl rfl rfl rfl rfl rfl (fun a w => Try.call44 a w) (fun w hh => c_laurelref01_Place s0 place1 qa0 na0 ca0 qa1 na1 ca1 qa2 na2 ca2 w (HV.callee (S0 := []) (vs0 := []) hh (roC (hh.rsep (S0 := []) (vs0 := []) 0 rfl) (roC (hh.rsep (S0 := []) (vs0 := []) 1 rfl) (roC (hh.rsep (S0 := []) (vs0 := []) 2 rfl) roN)))) hna0 hqa0 hla0 hna1 hqa1 hla1 hna2 hqa2 hla2 h5) (fun l_1 h6 => ?_)
   refine g_val rfl rfl rfl (fun _ _ => v_assign rfl) ?_
   refine g_nil ?_
   refine g_n_then ?_
   refine g_seq ?_
   refine g_region ?_
   refine g_val rfl rfl rfl (fun _ _ => v_move rfl) ?_
   refine g_val rfl rfl rfl (fun _ _ => v_neq rfl rfl) ?_
   refine g_nil ?_
   refine g_n_then ?_
   refine g_cond rfl (fun h7 => ?_) (fun h7 => ?_)
   ·replace hm := ifF (of_ndec_true h7) hm
    refine g_seq ?_
    refine g_region ?_
    refine g_val rfl rfl rfl (fun _ _ => v_move rfl) ?_
    refine g_val rfl rfl rfl (fun _ _ => v_assign rfl) ?_
    refine g_val rfl rfl rfl (fun _ _ => v_assign rfl) ?_
    refine g_nil ?_
    refine g_n_then ?_
    refine g_ret ?_
    refine g_r_then ?_
    obtain rfl := Option.some.inj hm
    refine g_done rfl (fun w hh => (.tmp rfl (.tmp rfl .nil))) (fun w hh => ⟨(), rfl, trivial, hh.sel [] [] 5 (by decide) (by decide) rfl rfl rfl⟩)
   ·replace hm := ifT (of_ndec_false h7) hm
    refine g_skip ?_
    refine g_n_then ?_
    refine g_seq ?_
    refine g_seq ?_
    refine g_region ?_
    refine g_val rfl rfl rfl (fun w hh => v_loadAgg (vs := [_, _, _, _, _]) (Try.isAgg59 w) (Try.sizeOf59 w) rfl (hh.cells 0 rfl rfl)) ?_
    refine g_val rfl rfl rfl (fun _ _ => v_move rfl) ?_
    obtain ⟨t31, h8, hm⟩ := bindO hm
    refine g_callH [] [] rfl rfl rfl rfl rfl rfl rfl (fun a w => Try.call135 a w) (fun w hh => c_laurelref01_listed s0 sills2 qa0 na0 ca0 qa1 na1 ca1 qa2 na2 ca2 qa3 na3 ca3 w (HV.callee (S0 := []) (vs0 := []) hh (roC (hh.rsep (S0 := []) (vs0 := []) 0 rfl) (roC (hh.rsep (S0 := []) (vs0 := []) 1 rfl) (roC (hh.rsep (S0 := []) (vs0 := []) 2 rfl) (roC (hh.rsep (S0 := []) (vs0 := []) 3 rfl) roN))))) hna0 hqa0 hla0 hna1 hqa1 hla1 hna2 hqa2 hla2 hna3 hqa3 hla3 h8) (fun l_2 h9 => ?_)
    refine g_val rfl rfl rfl (fun _ _ => v_assign rfl) ?_
    refine g_nil ?_
    refine g_n_then ?_
    refine g_seq ?_
    refine g_region ?_
    refine g_val rfl rfl rfl (fun _ _ => v_move rfl) ?_
    refine g_val rfl rfl rfl (fun _ _ => v_neq rfl rfl) ?_
    refine g_nil ?_
    refine g_n_then ?_
    refine g_cond rfl (fun h10 => ?_) (fun h10 => ?_)
    ·replace hm := ifF (of_ndec_true h10) hm
     refine g_seq ?_
     refine g_region ?_
     refine g_val rfl rfl rfl (fun _ _ => v_move rfl) ?_
     refine g_val rfl rfl rfl (fun _ _ => v_assign rfl) ?_
     refine g_val rfl rfl rfl (fun _ _ => v_assign rfl) ?_
     refine g_nil ?_
     refine g_n_then ?_
     refine g_ret ?_
     refine g_r_then ?_
     obtain rfl := Option.some.inj hm
     refine g_done rfl (fun w hh => (.tmp rfl (.tmp rfl .nil))) (fun w hh => ⟨(), rfl, trivial, hh.sel [] [] 5 (by decide) (by decide) rfl rfl rfl⟩)
    ·replace hm := ifT (of_ndec_false h10) hm
     refine g_skip ?_
     refine g_n_then ?_
     refine g_seq ?_
     refine g_seq ?_
     refine g_region ?_
     refine g_val rfl rfl rfl (fun _ _ => v_assign rfl) ?_
     refine g_nil ?_
     refine g_n_then ?_
     obtain ⟨o, h11, h12⟩ := bindO hm
     refine g_cut (ι := Unit) (fun j => o = .inl j) (fun j => [(1, .int .i64 place1), (2, .slice qa3 na3 ca3), (3, .slice qa4 na4 ca4), (4, ptr b 0)]) (fun j => [(b, .cells #[.slice qa0 na0 ca0, .int .i64 s0.wind.lo, .int .i64 s0.wind.hi, .slice qa1 na1 ca1, .slice qa2 na2 ca2] 59 (0, 0))]) (fun j => []) ?_ ?_
     ·replace hm := h11
      refine g_block ?_
      refine g_loopF (ι := Unit) hm (fun s l_3 => True) (fun s l_3 => [(1, .int .i64 place1), (2, .slice qa3 na3 ca3), (3, .slice qa4 na4 ca4), (4, ptr b 0), (13, .int .i64 s)]) (fun s l_3 => [(b, .cells #[.slice qa0 na0 ca0, .int .i64 s0.wind.lo, .int .i64 s0.wind.hi, .slice qa1 na1 ca1, .slice qa2 na2 ca2] 59 (0, 0))]) (fun s l_3 => []) () (trivial) ((.cons rfl (.cons rfl (.cons rfl (.cons rfl (.cons rfl .nil)))))) (fun w hh => hh) (fun s l_3 r hpl hm h13 => ?_)
      unfold m_laurelref01_Hold_L0 at hm
      refine g_seq ?_
      refine g_seq ?_
      refine g_region ?_
      refine g_val rfl rfl rfl (fun _ _ => v_move rfl) ?_
      refine g_val rfl rfl rfl (fun _ _ => v_move rfl) ?_
      refine g_val rfl rfl rfl (fun w _ => v_lenR hna4 (Try.runUnderlying26 w) rfl) ?_
      refine g_val rfl rfl rfl (fun _ _ => v_lss rfl rfl) ?_
      refine g_nil ?_
      refine g_n_then ?_
      refine g_cond rfl (fun h14 => ?_) (fun h14 => ?_)
      ·replace hm := ifT (of_decide_eq_true h14) hm
       refine g_skip ?_
       refine g_n_then ?_
       refine g_seq ?_
       refine g_block ?_
       refine g_seq ?_
       refine g_draw none (.hoist 0 (.free 1 (.free 2 (.free 3 (.hoist 4 (.one 5 (.free 6 .done))))))) _ rfl (by decide +kernel) (fun w k hh => hh.draw k) (fun w hh => hh) ?_
       refine p_hoist rfl rfl rfl rfl (fun w hh => v_loadAgg (vs := [_, _, _, _, _]) (Try.isAgg59 w) (Try.sizeOf59 w) rfl (hh.cells 0 rfl rfl)) ?_
       refine p_free rfl rfl rfl rfl (fun _ _ => v_move rfl) ?_
       refine p_free rfl rfl rfl rfl (fun _ _ => v_move rfl) ?_
       obtain ⟨t44, h15, hm⟩ := bindO hm
       refine p_free rfl rfl rfl rfl (fun w _ => v_ixR h15 (Try.runUnderlying26 w) (Try.sizeOf3 w) rfl rfl hna4 hqa4) ?_
       refine p_hoist rfl rfl rfl rfl (fun w hh => v_ldE RI 0 h15 (Try.isAgg3 w) rfl (hh.seg 4 rfl) rfl (Nat.add_zero _).symm) ?_
       refine p_one rfl ?_
       obtain ⟨t46, h16, hm⟩ := bindO hm
       refine g_callH [] [] rfl rfl rfl rfl rfl rfl rfl (fun a w => Try.call44 a w) (fun w hh => c_laurelref01_Place s0 t44 qa0 na0 ca0 qa1 na1 ca1 qa2 na2 ca2 w (HV.callee (S0 := []) (vs0 := []) hh (roC (hh.rsep (S0 := []) (vs0 := []) 0 rfl) (roC (hh.rsep (S0 := []) (vs0 := []) 1 rfl) (roC (hh.rsep (S0 := []) (vs0 := []) 2 rfl) roN)))) hna0 hqa0 hla0 hna1 hqa1 hla1 hna2 hqa2 hla2 h16) (fun l_4 h17 => ?_)
       refine p_next (fun w hh => hh) ?_
       refine p_free rfl rfl rfl rfl (fun _ _ => v_assign rfl) ?_
       refine p_done ?_
       refine g_n_then ?_
       refine g_seq ?_
       refine g_region ?_
       refine g_val rfl rfl rfl (fun _ _ => v_move rfl) ?_
       refine g_val rfl rfl rfl (fun _ _ => v_neq rfl rfl) ?_
       refine g_nil ?_
       refine g_n_then ?_
       refine g_cond rfl (fun h18 => ?_) (fun h18 => ?_)
       ·replace hm := ifF (of_ndec_true h18) hm
        refine g_seq ?_
        refine g_region ?_
        refine g_val rfl rfl rfl (fun _ _ => v_move rfl) ?_
        refine g_val rfl rfl rfl (fun _ _ => v_assign rfl) ?_
        refine g_val rfl rfl rfl (fun _ _ => v_assign rfl) ?_
        refine g_nil ?_
        refine g_n_then ?_
        refine g_ret ?_
        refine g_r_blk ?_
        refine g_r_then ?_
        refine g_r_then ?_
        refine g_r_blk ?_
        obtain rfl := Option.some.inj hm
        have hbo := h13 _ rfl
        subst hbo
        refine g_r_then ?_
        replace hm := ocR h12
        refine g_r_then ?_
        obtain rfl := Option.some.inj hm
        refine g_done rfl (fun w hh => (.tmp rfl (.tmp rfl .nil))) (fun w hh => ⟨(), rfl, trivial, hh.sel [] [] 5 (by decide) (by decide) rfl rfl rfl⟩)
       ·replace hm := ifT (of_ndec_false h18) hm
        refine g_skip ?_
        refine g_n_blk ?_
        refine g_n_then ?_
        refine g_region ?_
        refine g_val rfl rfl rfl (fun _ _ => v_move rfl) ?_
        obtain ⟨t40, h19, hm⟩ := bindO hm
        refine g_val rfl rfl rfl (fun _ _ => v_addc h19 rfl rfl) ?_
        refine g_val rfl rfl rfl (fun _ _ => v_assign rfl) ?_
        refine g_nil ?_
        obtain rfl := Option.some.inj hm
        refine g_n_then ?_
        exact g_again' _ () rfl (trivial) ((.cons rfl (.cons rfl (.cons rfl (.cons rfl (.cons rfl .nil)))))) (fun w hh => hh)
      ·replace hm := ifF (of_decide_eq_false h14) hm
       refine g_exit ?_
       refine g_x_then ?_
       refine g_x_then ?_
       refine g_x_blk ?_
       obtain rfl := Option.some.inj hm
       have hbo := h13 _ rfl
       subst hbo
       exact g_leaf () (rfl) ((.cons rfl (.cons rfl (.cons rfl (.cons rfl .nil))))) (fun w hh => hh)
     ·intro j hj
      have h20 := hj
      subst h20
      replace hm := ocL h12
      refine g_n_then ?_
      refine g_seq ?_
      refine g_seq ?_
      obtain ⟨o_1, h21, h22⟩ := bindO hm
      refine g_cut (ι := Unit) (fun l_5 => True) (fun l_5 => [(1, .int .i64 place1), (2, .slice qa3 na3 ca3), (3, .slice qa4 na4 ca4), (4, ptr b 0), (55, .bool o_1)]) (fun l_5 => [(b, .cells #[.slice qa0 na0 ca0, .int .i64 s0.wind.lo, .int .i64 s0.wind.hi, .slice qa1 na1 ca1, .slice qa2 na2 ca2] 59 (0, 0))]) (fun l_5 => []) ?_ ?_
      ·replace hm := h21
       refine g_region ?_
       refine g_val rfl rfl rfl (fun _ _ => v_move rfl) ?_
       obtain ⟨t51, h23, hm⟩ := bindO hm
       refine g_callH [] [] rfl rfl rfl rfl rfl rfl rfl (fun a w => Try.call137 a w) (fun w hh => c_laurelref01_repeats sills2 qa3 na3 ca3 w (HV.callee (S0 := []) (vs0 := []) hh (roC (hh.rsep (S0 := []) (vs0 := []) 3 rfl) roN)) hna3 hqa3 hla3 h23) (fun l_6 h24 => ?_)
       refine g_val rfl rfl rfl (fun _ _ => v_move rfl) ?_
       refine g_case 52 rfl (fun h25 => ?_) (fun h25 => ?_)
       ·replace hm := ifT (h25) hm
        refine g_skipG rfl rfl rfl rfl rfl rfl ?_
        refine g_skipG rfl rfl rfl rfl rfl rfl ?_
        refine g_val rfl rfl rfl (fun _ _ => v_pickT rfl rfl) ?_
        refine g_nil ?_
        obtain rfl := Option.some.inj hm
        exact g_leaf () (trivial) ((.cons rfl (.cons rfl (.cons rfl (.cons rfl (.cons rfl .nil)))))) (fun w hh => hh)
       ·replace hm := ifF ((fun hh => Bool.noConfusion ((h25).symm.trans hh))) hm
        refine v_unguard rfl rfl ?_
        refine g_val rfl rfl rfl (fun _ _ => v_move rfl) ?_
        refine v_unguard rfl rfl ?_
        obtain ⟨t54, h26, hm⟩ := bindO hm
        refine g_callH [] [] rfl rfl rfl rfl rfl rfl rfl (fun a w => Try.call137 a w) (fun w hh => c_laurelref01_repeats places3 qa4 na4 ca4 w (HV.callee (S0 := []) (vs0 := []) hh (roC (hh.rsep (S0 := []) (vs0 := []) 4 rfl) roN)) hna4 hqa4 hla4 h26) (fun l_7 h27 => ?_)
        refine g_val rfl rfl rfl (fun _ _ => v_pickF rfl rfl) ?_
        refine g_nil ?_
        obtain rfl := Option.some.inj hm
        exact g_leaf () (trivial) ((.cons rfl (.cons rfl (.cons rfl (.cons rfl (.cons rfl .nil)))))) (fun w hh => hh)
      ·intro l_5 hj
       replace hm := h22
       refine g_n_then ?_
       refine g_cond rfl (fun h28 => ?_) (fun h28 => ?_)
       ·replace hm := ifT (h28) hm
        refine g_seq ?_
        refine g_region ?_
        refine g_val rfl rfl rfl (fun _ _ => v_assign rfl) ?_
        refine g_val rfl rfl rfl (fun _ _ => v_assign rfl) ?_
        refine g_nil ?_
        refine g_n_then ?_
        refine g_ret ?_
        refine g_r_then ?_
        obtain rfl := Option.some.inj hm
        refine g_done rfl (fun w hh => (.tmp rfl (.tmp rfl .nil))) (fun w hh => ⟨(), rfl, trivial, hh.sel [] [] 5 (by decide) (by decide) rfl rfl rfl⟩)
       ·replace hm := ifF ((fun hh => Bool.noConfusion ((h28).symm.trans hh))) hm
        refine g_skip ?_
        refine g_n_then ?_
        refine g_seq ?_
        refine g_seq ?_
        refine g_region ?_
        refine g_val rfl rfl rfl (fun w hh => v_loadAgg (vs := [_, _, _, _, _]) (Try.isAgg59 w) (Try.sizeOf59 w) rfl (hh.cells 0 rfl rfl)) ?_
        refine g_val rfl rfl rfl (fun _ _ => v_move rfl) ?_
        refine g_val rfl rfl rfl (fun _ _ => v_move rfl) ?_
        refine g_val rfl rfl rfl (fun _ _ => v_move rfl) ?_
        obtain ⟨t60, h29, hm⟩ := bindO hm
        refine g_callH [] [] rfl rfl rfl rfl rfl rfl rfl (fun a w => Try.call138 a w) (fun w hh => c_laurelref01_least FU s0 (-1) [] 0 place1 sills2 places3 qa0 na0 ca0 qa1 na1 ca1 qa2 na2 ca2 none 0 0 qa3 na3 ca3 qa4 na4 ca4 w (HV.callee (S0 := []) (vs0 := []) hh (roC (hh.rsep (S0 := []) (vs0 := []) 0 rfl) (roC (hh.rsep (S0 := []) (vs0 := []) 1 rfl) (roC (hh.rsep (S0 := []) (vs0 := []) 2 rfl) (roC ⟨segOK.nil, fun hx => absurd rfl hx⟩ (roC (hh.rsep (S0 := []) (vs0 := []) 3 rfl) (roC (hh.rsep (S0 := []) (vs0 := []) 4 rfl) roN))))))) hna0 hqa0 hla0 hna1 hqa1 hla1 hna2 hqa2 hla2 rfl AOK.nil (Nat.le_refl 0) hna3 hqa3 hla3 hna4 hqa4 hla4 h29) (fun l_8 h30 => ?_)
        refine g_val rfl rfl rfl (fun _ _ => v_neq rfl rfl) ?_
        refine g_nil ?_
        refine g_n_then ?_
        refine g_cond rfl (fun h31 => ?_) (fun h31 => ?_)
        ·replace hm := ifF (of_ndec_true h31) hm
         refine g_seq ?_
         refine g_region ?_
         refine g_val rfl rfl rfl (fun _ _ => v_assign rfl) ?_
         refine g_val rfl rfl rfl (fun _ _ => v_assign rfl) ?_
         refine g_nil ?_
         refine g_n_then ?_
         refine g_ret ?_
         refine g_r_then ?_
         obtain rfl := Option.some.inj hm
         refine g_done rfl (fun w hh => (.tmp rfl (.tmp rfl .nil))) (fun w hh => ⟨(), rfl, trivial, hh.sel [] [] 5 (by decide) (by decide) rfl rfl rfl⟩)
        ·replace hm := ifT (of_ndec_false h31) hm
         refine g_skip ?_
         refine g_n_then ?_
         refine g_seq ?_
         refine g_region ?_
         refine g_val rfl rfl rfl (fun _ _ => v_assign rfl) ?_
         refine g_nil ?_
         refine g_n_then ?_
         refine g_seq ?_
         refine g_seq ?_
         refine g_region ?_
         refine g_val rfl rfl rfl (fun _ _ => v_assign rfl) ?_
         refine g_nil ?_
         refine g_n_then ?_
         obtain ⟨o_2, h32, h33⟩ := bindO hm
         refine g_cut (ι := Unit) (fun l_9 => True) (fun l_9 => [(3, .slice qa4 na4 ca4), (4, ptr b 0), (15, .int .i64 o_2)]) (fun l_9 => [(b, .cells #[.slice qa0 na0 ca0, .int .i64 s0.wind.lo, .int .i64 s0.wind.hi, .slice qa1 na1 ca1, .slice qa2 na2 ca2] 59 (0, 0))]) (fun l_9 => []) ?_ ?_
         ·replace hm := h32
          refine g_block ?_
          refine g_loopF (ι := Unit) hm (fun s_1 l_10 => True) (fun s_1 l_10 => [(2, .slice qa3 na3 ca3), (3, .slice qa4 na4 ca4), (4, ptr b 0), (15, .int .i64 s_1.out15), (16, .int .i64 s_1.i16)]) (fun s_1 l_10 => [(b, .cells #[.slice qa0 na0 ca0, .int .i64 s0.wind.lo, .int .i64 s0.wind.hi, .slice qa1 na1 ca1, .slice qa2 na2 ca2] 59 (0, 0))]) (fun s_1 l_10 => []) () (trivial) ((.cons rfl (.cons rfl (.cons rfl (.cons rfl (.cons rfl .nil)))))) (fun w hh => hh) (fun s_1 l_10 r_1 hpl hm h34 => ?_)
          unfold m_laurelref01_Hold_L1 at hm
          refine g_seq ?_
          refine g_seq ?_
          refine g_region ?_
          refine g_val rfl rfl rfl (fun _ _ => v_move rfl) ?_
          refine g_val rfl rfl rfl (fun _ _ => v_move rfl) ?_
          refine g_val rfl rfl rfl (fun w _ => v_lenR hna3 (Try.runUnderlying26 w) rfl) ?_
          refine g_val rfl rfl rfl (fun _ _ => v_lss rfl rfl) ?_
          refine g_nil ?_
          refine g_n_then ?_
          refine g_cond rfl (fun h35 => ?_) (fun h35 => ?_)
          ·replace hm := ifT (of_decide_eq_true h35) hm
           refine g_skip ?_
           refine g_n_then ?_
           refine g_seq ?_
           refine g_block ?_
           refine g_draw none (.free 0 (.free 1 (.hoist 2 (.free 3 (.free 4 (.free 5 (.hoist 6 (.free 7 (.free 8 (.hoist 9 (.free 10 (.free 11 .done)))))))))))) _ rfl (by decide +kernel) (fun w k hh => hh.draw k) (fun w hh => hh) ?_
           refine p_free rfl rfl rfl rfl (fun _ _ => v_move rfl) ?_
           refine p_free rfl rfl rfl rfl (fun w _ => v_fieldAddr 4 (Try.runUnderlying59 w) rfl (Try.sizeOf57 w) rfl) ?_
           refine p_hoist rfl rfl rfl rfl (fun w hh => v_load (Try.isAgg57 w) rfl (hh.cell 0 rfl rfl)) ?_
           refine p_free rfl rfl rfl rfl (fun _ _ => v_move rfl) ?_
           refine p_free rfl rfl rfl rfl (fun _ _ => v_move rfl) ?_
           obtain ⟨t73, h36, hm⟩ := bindO hm
           refine p_free rfl rfl rfl rfl (fun w _ => v_ixR h36 (Try.runUnderlying26 w) (Try.sizeOf3 w) rfl rfl hna3 hqa3) ?_
           refine p_hoist rfl rfl rfl rfl (fun w hh => v_ldE RI 0 h36 (Try.isAgg3 w) rfl (hh.seg 3 rfl) rfl (Nat.add_zero _).symm) ?_
           obtain ⟨t75, h37, hm⟩ := bindO hm
           refine p_free rfl rfl rfl rfl (fun w _ => v_ixR h37 (Try.runUnderlying57 w) (Try.sizeOf159 w) rfl rfl hna2 hqa2) ?_
           refine p_free rfl rfl rfl rfl (fun w _ => v_fieldAddr 2 (Try.runUnderlying159 w) rfl (Try.sizeOf3 w) rfl) ?_
           refine p_hoist rfl rfl rfl rfl (fun w hh => v_ldE RS 2 h37 (Try.isAgg3 w) rfl (hh.seg 2 rfl) rfl rfl) ?_
           refine p_free rfl rfl rfl rfl (fun _ _ => v_min rfl rfl) ?_
           refine p_free rfl rfl rfl rfl (fun _ _ => v_assign rfl) ?_
           refine p_done ?_
           refine g_n_blk ?_
           refine g_n_then ?_
           refine g_region ?_
           refine g_val rfl rfl rfl (fun _ _ => v_move rfl) ?_
           obtain ⟨t67, h38, hm⟩ := bindO hm
           refine g_val rfl rfl rfl (fun _ _ => v_addc h38 rfl rfl) ?_
           refine g_val rfl rfl rfl (fun _ _ => v_assign rfl) ?_
           refine g_nil ?_
           obtain rfl := Option.some.inj hm
           refine g_n_then ?_
           exact g_again' _ () rfl (trivial) ((.cons rfl (.cons rfl (.cons rfl (.cons rfl (.cons rfl .nil)))))) (fun w hh => hh)
          ·replace hm := ifF (of_decide_eq_false h35) hm
           refine g_exit ?_
           refine g_x_then ?_
           refine g_x_then ?_
           refine g_x_blk ?_
           obtain rfl := Option.some.inj hm
           have hbo := h34 _ rfl
           subst hbo
           exact g_leaf () (trivial) ((.cons rfl (.cons rfl (.cons rfl .nil)))) (fun w hh => hh)
         ·intro l_9 hj
          replace hm := h33
          refine g_n_then ?_
          refine g_seq ?_
          refine g_seq ?_
          refine g_region ?_
          refine g_val rfl rfl rfl (fun _ _ => v_assign rfl) ?_
          refine g_nil ?_
          refine g_n_then ?_
          obtain ⟨o_3, h39, h40⟩ := bindO hm
          refine g_cut (ι := Unit) (fun l_11 => True) (fun l_11 => [(15, .int .i64 o_3)]) (fun l_11 => [(b, .cells #[.slice qa0 na0 ca0, .int .i64 s0.wind.lo, .int .i64 s0.wind.hi, .slice qa1 na1 ca1, .slice qa2 na2 ca2] 59 (0, 0))]) (fun l_11 => []) ?_ ?_
          ·replace hm := h39
           refine g_block ?_
           refine g_loopF (ι := Unit) hm (fun s_2 l_12 => True) (fun s_2 l_12 => [(3, .slice qa4 na4 ca4), (4, ptr b 0), (15, .int .i64 s_2.out15), (17, .int .i64 s_2.i17)]) (fun s_2 l_12 => [(b, .cells #[.slice qa0 na0 ca0, .int .i64 s0.wind.lo, .int .i64 s0.wind.hi, .slice qa1 na1 ca1, .slice qa2 na2 ca2] 59 (0, 0))]) (fun s_2 l_12 => []) () (trivial) ((.cons rfl (.cons rfl (.cons rfl (.cons rfl .nil))))) (fun w hh => hh) (fun s_2 l_12 r_2 hpl hm h41 => ?_)
           unfold m_laurelref01_Hold_L2 at hm
           refine g_seq ?_
           refine g_seq ?_
           refine g_region ?_
           refine g_val rfl rfl rfl (fun _ _ => v_move rfl) ?_
           refine g_val rfl rfl rfl (fun _ _ => v_move rfl) ?_
           refine g_val rfl rfl rfl (fun w _ => v_lenR hna4 (Try.runUnderlying26 w) rfl) ?_
           refine g_val rfl rfl rfl (fun _ _ => v_lss rfl rfl) ?_
           refine g_nil ?_
           refine g_n_then ?_
           refine g_cond rfl (fun h42 => ?_) (fun h42 => ?_)
           ·replace hm := ifT (of_decide_eq_true h42) hm
            refine g_skip ?_
            refine g_n_then ?_
            refine g_seq ?_
            refine g_block ?_
            refine g_draw none (.free 0 (.free 1 (.hoist 2 (.free 3 (.free 4 (.free 5 (.hoist 6 (.free 7 (.hoist 8 (.free 9 (.free 10 .done))))))))))) _ rfl (by decide +kernel) (fun w k hh => hh.draw k) (fun w hh => hh) ?_
            refine p_free rfl rfl rfl rfl (fun _ _ => v_move rfl) ?_
            refine p_free rfl rfl rfl rfl (fun w _ => v_fieldAddr 3 (Try.runUnderlying59 w) rfl (Try.sizeOf26 w) rfl) ?_
            refine p_hoist rfl rfl rfl rfl (fun w hh => v_load (Try.isAgg26 w) rfl (hh.cell 0 rfl rfl)) ?_
            refine p_free rfl rfl rfl rfl (fun _ _ => v_move rfl) ?_
            refine p_free rfl rfl rfl rfl (fun _ _ => v_move rfl) ?_
            obtain ⟨t90, h43, hm⟩ := bindO hm
            refine p_free rfl rfl rfl rfl (fun w _ => v_ixR h43 (Try.runUnderlying26 w) (Try.sizeOf3 w) rfl rfl hna4 hqa4) ?_
            refine p_hoist rfl rfl rfl rfl (fun w hh => v_ldE RI 0 h43 (Try.isAgg3 w) rfl (hh.seg 4 rfl) rfl (Nat.add_zero _).symm) ?_
            obtain ⟨t92, h44, hm⟩ := bindO hm
            refine p_free rfl rfl rfl rfl (fun w _ => v_ixR h44 (Try.runUnderlying26 w) (Try.sizeOf3 w) rfl rfl hna1 hqa1) ?_
            refine p_hoist rfl rfl rfl rfl (fun w hh => v_ldE RI 0 h44 (Try.isAgg3 w) rfl (hh.seg 1 rfl) rfl (Nat.add_zero _).symm) ?_
            refine p_free rfl rfl rfl rfl (fun _ _ => v_min rfl rfl) ?_
            refine p_free rfl rfl rfl rfl (fun _ _ => v_assign rfl) ?_
            refine p_done ?_
            refine g_n_blk ?_
            refine g_n_then ?_
            refine g_region ?_
            refine g_val rfl rfl rfl (fun _ _ => v_move rfl) ?_
            obtain ⟨t84, h45, hm⟩ := bindO hm
            refine g_val rfl rfl rfl (fun _ _ => v_addc h45 rfl rfl) ?_
            refine g_val rfl rfl rfl (fun _ _ => v_assign rfl) ?_
            refine g_nil ?_
            obtain rfl := Option.some.inj hm
            refine g_n_then ?_
            exact g_again' _ () rfl (trivial) ((.cons rfl (.cons rfl (.cons rfl (.cons rfl .nil))))) (fun w hh => hh)
           ·replace hm := ifF (of_decide_eq_false h42) hm
            refine g_exit ?_
            refine g_x_then ?_
            refine g_x_then ?_
            refine g_x_blk ?_
            obtain rfl := Option.some.inj hm
            have hbo := h41 _ rfl
            subst hbo
            exact g_leaf () (trivial) ((.cons rfl .nil)) (fun w hh => hh)
          ·intro l_11 hj
           replace hm := h40
           refine g_n_then ?_
           refine g_seq ?_
           refine g_seq ?_
           refine g_region ?_
           refine g_val rfl rfl rfl (fun _ _ => v_move rfl) ?_
           refine g_val rfl rfl rfl (fun _ _ => v_eql rfl rfl) ?_
           refine g_nil ?_
           refine g_n_then ?_
           refine g_cond rfl (fun h46 => ?_) (fun h46 => ?_)
           ·replace hm := ifT (of_decide_eq_true h46) hm
            refine g_seq ?_
            refine g_region ?_
            refine g_val rfl rfl rfl (fun _ _ => v_assign rfl) ?_
            refine g_val rfl rfl rfl (fun _ _ => v_assign rfl) ?_
            refine g_nil ?_
            refine g_n_then ?_
            refine g_ret ?_
            refine g_r_then ?_
            obtain rfl := Option.some.inj hm
            refine g_done rfl (fun w hh => (.tmp rfl (.tmp rfl .nil))) (fun w hh => ⟨(), rfl, trivial, hh.sel [] [] 5 (by decide) (by decide) rfl rfl rfl⟩)
           ·replace hm := ifF (of_decide_eq_false h46) hm
            refine g_skip ?_
            refine g_n_then ?_
            refine g_seq ?_
            refine g_region ?_
            refine g_val rfl rfl rfl (fun _ _ => v_move rfl) ?_
            refine g_val rfl rfl rfl (fun _ _ => v_assign rfl) ?_
            refine g_val rfl rfl rfl (fun _ _ => v_assign rfl) ?_
            refine g_nil ?_
            refine g_n_then ?_
            refine g_ret ?_
            obtain rfl := Option.some.inj hm
            refine g_done rfl (fun w hh => (.tmp rfl (.tmp rfl .nil))) (fun w hh => ⟨(), rfl, trivial, hh.sel [] [] 5 (by decide) (by decide) rfl rfl rfl⟩)
end Go.Proofs.Wk

namespace Go.Proofs.Wk
open Go Go.Fw Go.Gx Go.Pl
set_option linter.unusedVariables false
structure m_laurellaw01_TideBanks_C1 where
  own11 : Sands
  x12 : Sands
  a13 : (List Int)
  b14 : (List Int)
  c15 : (List Int)
def m_laurellaw01_TideBanks_Q0 : Plan := (.one 1 (.one 3 (.one 5 (.one 7 (.one 9 (.one 12 (.one 13 (.free 14 (.free 15 (.free 16 .done))))))))))
def m_laurellaw01_TideBanks_Q1 : Plan := (.one 3 (.one 5 (.one 7 (.one 9 (.one 12 (.one 13 (.free 14 (.free 15 (.free 16 .done)))))))))
def m_laurellaw01_TideBanks_Q2 : Plan := (.one 5 (.one 7 (.one 9 (.one 12 (.one 13 (.free 14 (.free 15 (.free 16 .done))))))))
def m_laurellaw01_TideBanks_Q3 : Plan := (.one 7 (.one 9 (.one 12 (.one 13 (.free 14 (.free 15 (.free 16 .done)))))))
def m_laurellaw01_TideBanks_Q4 : Plan := (.one 9 (.one 12 (.one 13 (.free 14 (.free 15 (.free 16 .done))))))
def m_laurellaw01_TideBanks_Q5 : Plan := (.one 10 (.one 12 (.one 13 (.free 14 (.free 15 (.free 16 .done))))))
def m_laurellaw01_TideBanks_Q6 : Plan := (.br (.alt 9 m_laurellaw01_TideBanks_Q5 (.alt 10 m_laurellaw01_TideBanks_Q4 .nil)))
def m_laurellaw01_TideBanks_Q7 : Plan := (.br (.alt 7 m_laurellaw01_TideBanks_Q6 (.alt 10 m_laurellaw01_TideBanks_Q3 .nil)))
def m_laurellaw01_TideBanks_Q8 : Plan := (.br (.alt 5 m_laurellaw01_TideBanks_Q7 (.alt 10 m_laurellaw01_TideBanks_Q2 .nil)))
def m_laurellaw01_TideBanks_Q9 : Plan := (.br (.alt 3 m_laurellaw01_TideBanks_Q8 (.alt 10 m_laurellaw01_TideBanks_Q1 .nil)))
def m_laurellaw01_TideBanks_Q10 : Plan := (.br (.alt 1 m_laurellaw01_TideBanks_Q9 (.alt 10 m_laurellaw01_TideBanks_Q0 .nil)))
def m_laurellaw01_TideBanks_Q11 : Plan := (.one 11 (.one 12 (.one 13 (.free 14 (.free 15 (.free 16 .done))))))
def m_laurellaw01_TideBanks_Q12 : Plan := (.br (.alt 9 m_laurellaw01_TideBanks_Q11 (.alt 11 m_laurellaw01_TideBanks_Q4 .nil)))
def m_laurellaw01_TideBanks_Q13 : Plan := (.br (.alt 7 m_laurellaw01_TideBanks_Q12 (.alt 11 m_laurellaw01_TideBanks_Q3 .nil)))
def m_laurellaw01_TideBanks_Q14 : Plan := (.br (.alt 5 m_laurellaw01_TideBanks_Q13 (.alt 11 m_laurellaw01_TideBanks_Q2 .nil)))
def m_laurellaw01_TideBanks_Q15 : Plan := (.br (.alt 3 m_laurellaw01_TideBanks_Q14 (.alt 11 m_laurellaw01_TideBanks_Q1 .nil)))
def m_laurellaw01_TideBanks_Q16 : Plan := (.br (.alt 1 m_laurellaw01_TideBanks_Q15 (.alt 11 m_laurellaw01_TideBanks_Q0 .nil)))
def m_laurellaw01_TideBanks_Q17 : Plan := (.br (.alt 10 m_laurellaw01_TideBanks_Q11 (.alt 11 m_laurellaw01_TideBanks_Q5 .nil)))
def m_laurellaw01_TideBanks_Q18 : Plan := (.br (.alt 9 m_laurellaw01_TideBanks_Q17 (.alt 10 m_laurellaw01_TideBanks_Q12 (.alt 11 m_laurellaw01_TideBanks_Q6 .nil))))
def m_laurellaw01_TideBanks_Q19 : Plan := (.br (.alt 7 m_laurellaw01_TideBanks_Q18 (.alt 10 m_laurellaw01_TideBanks_Q13 (.alt 11 m_laurellaw01_TideBanks_Q7 .nil))))
def m_laurellaw01_TideBanks_Q20 : Plan := (.br (.alt 5 m_laurellaw01_TideBanks_Q19 (.alt 10 m_laurellaw01_TideBanks_Q14 (.alt 11 m_laurellaw01_TideBanks_Q8 .nil))))
def m_laurellaw01_TideBanks_Q21 : Plan := (.br (.alt 3 m_laurellaw01_TideBanks_Q20 (.alt 10 m_laurellaw01_TideBanks_Q15 (.alt 11 m_laurellaw01_TideBanks_Q9 .nil))))
def m_laurellaw01_TideBanks_Q22 : Plan := (.one 13 (.free 14 (.free 15 (.free 16 .done))))
def m_laurellaw01_TideBanks_Q23 : Plan := (.one 12 (.one 13 (.free 14 (.free 15 (.free 16 .done)))))
def m_laurellaw01_TideBanks (s0 : Sands) (place1 : Int) (way2 : (List Int)) (sills3 : (List Int)) (places4 : (List Int)) : Option Bool :=
 ((m_laurellaw01_wide s0).bind fun t21 =>
 if t21 = true then
 (some true) else
 (if 12 < (way2.length : Int) then
 (some true) else
 (if 20 < (sills3.length : Int) then
 (some true) else
 (some (decide (20 < (places4.length : Int))))))).bind fun o =>
 if o = true then
 ((x_awake).bind fun t37 =>
 some t37) else
 (((m_laurellaw01_Own s0).bind fun t39 =>
 (m_laurellaw01_theirs s0).bind fun t41 =>
 (m_laurelkit_Dup_int way2).bind fun t43 =>
 (m_laurelkit_Dup_int sills3).bind fun t45 =>
 (m_laurelkit_Dup_int places4).bind fun t47 =>
 some (⟨t39, t41, t43, t45, t47⟩ : m_laurellaw01_TideBanks_C1)).bind fun o_1 =>
 (m_tide_Crest_1 o_1.own11 place1 o_1.a13).bind fun t52 =>
 (m_laurelref01_Crest o_1.x12 place1 way2).bind fun t59 =>
 (if t52.r0 = t59.r0 then
 (some (!decide (t52.r1 = t59.r1))) else
 (some true)).bind fun o_2 =>
 if o_2 = true then
 (some false) else
 ((x_Hold o_1.own11 place1 o_1.b14 o_1.c15).bind fun t75 =>
 (m_laurelref01_Hold o_1.x12 place1 sills3 places4).bind fun t83 =>
 (if t75.1 = t83.r0 then
 (if t75.2 = t83.r1 then
 ((m_laurellaw01_same o_1.own11 s0).bind fun t97 =>
 if t97 = true then
 ((m_laurelkit_Eq_int o_1.a13 way2).bind fun t102 =>
 if t102 = true then
 ((m_laurelkit_Eq_int o_1.b14 sills3).bind fun t107 =>
 if t107 = true then
 ((m_laurelkit_Eq_int o_1.c15 places4).bind fun t112 =>
 if t112 = true then
 ((x_awake).bind fun t115 =>
 some t115) else
 (some false)) else
 (some false)) else
 (some false)) else
 (some false)) else
 (some false)) else
 (some false)).bind fun o_3 =>
 some o_3))
set_option maxRecDepth 100000 in
set_option maxHeartbeats 4000000 in
theorem c_laurellaw01_TideBanks (s0 : Sands) (place1 : Int) (way2 : (List Int)) (sills3 : (List Int)) (places4 : (List Int)) (qa0 : Option Addr) (na0 ca0 : Nat) (qa1 : Option Addr) (na1 ca1 : Nat) (qa2 : Option Addr) (na2 ca2 : Nat) (qa3 : Option Addr) (na3 ca3 : Nat) (qa4 : Option Addr) (na4 ca4 : Nat) (qa5 : Option Addr) (na5 ca5 : Nat) (w : World) (hw : HV w (keys [] []) [] [] [(aB qa0, aO qa0, RW.enc s0.table), (aB qa1, aO qa1, RI.enc s0.floors), (aB qa2, aO qa2, RS.enc s0.sills), (aB qa3, aO qa3, RI.enc way2), (aB qa4, aO qa4, RI.enc sills3), (aB qa5, aO qa5, RI.enc places4)] w) (hna0 : s0.table.length = na0) (hqa0 : AOK na0 qa0) (hla0 : na0 ≤ ca0) (hna1 : s0.floors.length = na1) (hqa1 : AOK na1 qa1) (hla1 : na1 ≤ ca1) (hna2 : s0.sills.length = na2) (hqa2 : AOK na2 qa2) (hla2 : na2 ≤ ca2) (hna3 : way2.length = na3) (hqa3 : AOK na3 qa3) (hla3 : na3 ≤ ca3) (hna4 : sills3.length = na4) (hqa4 : AOK na4 qa4) (hla4 : na4 ≤ ca4) (hna5 : places4.length = na5) (hqa5 : AOK na5 qa5) (hla5 : na5 ≤ ca5) {res : Bool} (hm : m_laurellaw01_TideBanks s0 place1 way2 sills3 places4 = some res) :
    Calls Try.prog 12 #[.agg #[.slice qa0 na0 ca0, .int .i64 s0.wind.lo, .int .i64 s0.wind.hi, .slice qa1 na1 ca1, .slice qa2 na2 ca2], .int .i64 place1, .slice qa3 na3 ca3, .slice qa4 na4 ca4, .slice qa5 na5 ca5] w (fun en w' => ∃ l : Unit, en = .returned (.bool res) ∧ (True) ∧ HV w (keys [] []) [] [] [] w') := by
  unfold m_laurellaw01_TideBanks at hm
  refine g_enter (args := [.agg #[.slice qa0 na0 ca0, .int .i64 s0.wind.lo, .int .i64 s0.wind.hi, .slice qa1 na1 ca1, .slice qa2 na2 ca2], .int .i64 place1, .slice qa3 na3 ca3, .slice qa4 na4 ca4, .slice qa5 na5 ca5]) Try.func12 rfl Try.ntmps12 rfl (e := [(0, _), (1, _), (2, _), (3, _), (4, _)]) rfl (H := HV w (keys [] []) [] [] [(aB qa0, aO qa0, RW.enc s0.table), (aB qa1, aO qa1, RI.enc s0.floors), (aB qa2, aO qa2, RS.enc s0.sills), (aB qa3, aO qa3, RI.enc way2), (aB qa4, aO qa4, RI.enc sills3), (aB qa5, aO qa5, RI.enc places4)]) hw ?_
  refine g_seq ?_
  refine g_region ?_
  refine g_boxV rfl rfl (fun b h1 => ?_)
  refine g_val rfl rfl rfl (fun _ _ => v_assign rfl) ?_
  refine g_nil ?_
  refine g_n_then ?_
  refine g_seq ?_
  refine g_seq ?_
  obtain ⟨o, h2, h3⟩ := bindO hm
  refine g_cut (ι := Unit) (fun l => True) (fun l => [(1, .int .i64 place1), (2, .slice qa3 na3 ca3), (3, .slice qa4 na4 ca4), (4, .slice qa5 na5 ca5), (5, ptr b 0), (36, .bool o)]) (fun l => [(b, .cells #[.slice qa0 na0 ca0, .int .i64 s0.wind.lo, .int .i64 s0.wind.hi, .slice qa1 na1 ca1, .slice qa2 na2 ca2] 29 (0, 0))]) (fun l => []) ?_ ?_
  ·replace hm := h2
   refine g_region ?_
   refine g_val rfl rfl rfl (fun w hh => v_loadAgg (vs := [_, _, _, _, _]) (Try.isAgg29 w) (Try.sizeOf29 w) rfl (hh.cells 0 rfl rfl)) ?_
   obtain ⟨t21, h4, hm⟩ := bindO hm
   refine g_callH [] [] rfl rfl rfl rfl rfl rfl rfl (fun a w => Try.call52 a w) (fun w hh => c_laurellaw01_wide s0 qa0 na0 ca0 qa1 na1 ca1 qa2 na2 ca2 w (HV.callee (S0 := []) (vs0 := []) hh (roC (hh.rsep (S0 := []) (vs0 := []) 0 rfl) (roC (hh.rsep (S0 := []) (vs0 := []) 1 rfl) (roC (hh.rsep (S0 := []) (vs0 := []) 2 rfl) roN)))) hna0 hqa0 hla0 hna1 hqa1 hla1 hna2 hqa2 hla2 h4) (fun l_1 h5 => ?_)
   refine g_val rfl rfl rfl (fun _ _ => v_move rfl) ?_
   refine g_case 22 rfl (fun h6 => ?_) (fun h6 => ?_)
   ·replace hm := ifT (h6) hm
    refine g_skipG rfl rfl rfl rfl rfl rfl ?_
    refine g_skipG rfl rfl rfl rfl rfl rfl ?_
    refine g_skipG rfl rfl rfl rfl rfl rfl ?_
    refine g_val rfl rfl rfl (fun _ _ => v_pickT rfl rfl) ?_
    refine g_val rfl rfl rfl (fun _ _ => v_move rfl) ?_
    refine g_skipG rfl rfl rfl rfl rfl rfl ?_
    refine g_skipG rfl rfl rfl rfl rfl rfl ?_
    refine g_skipG rfl rfl rfl rfl rfl rfl ?_
    refine g_val rfl rfl rfl (fun _ _ => v_pickT rfl rfl) ?_
    refine g_val rfl rfl rfl (fun _ _ => v_move rfl) ?_
    refine g_skipG rfl rfl rfl rfl rfl rfl ?_
    refine g_skipG rfl rfl rfl rfl rfl rfl ?_
    refine g_skipG rfl rfl rfl rfl rfl rfl ?_
    refine g_val rfl rfl rfl (fun _ _ => v_pickT rfl rfl) ?_
    refine g_nil ?_
    obtain rfl := Option.some.inj hm
    exact g_leaf () (trivial) ((.cons rfl (.cons rfl (.cons rfl (.cons rfl (.cons rfl (.cons rfl .nil))))))) (fun w hh => hh)
   ·replace hm := ifF ((fun hh => Bool.noConfusion ((h6).symm.trans hh))) hm
    refine v_unguard rfl rfl ?_
    refine g_val rfl rfl rfl (fun _ _ => v_move rfl) ?_
    refine v_unguard rfl rfl ?_
    refine g_val rfl rfl rfl (fun w _ => v_lenR hna3 (Try.runUnderlying26 w) rfl) ?_
    refine v_unguard rfl rfl ?_
    refine g_val rfl rfl rfl (fun _ _ => v_gtr rfl rfl) ?_
    refine g_val rfl rfl rfl (fun _ _ => v_pickF rfl rfl) ?_
    refine g_val rfl rfl rfl (fun _ _ => v_move rfl) ?_
    refine g_case 27 rfl (fun h7 => ?_) (fun h7 => ?_)
    ·replace hm := ifT (of_decide_eq_true h7) hm
     refine g_skipG rfl rfl rfl rfl rfl rfl ?_
     refine g_skipG rfl rfl rfl rfl rfl rfl ?_
     refine g_skipG rfl rfl rfl rfl rfl rfl ?_
     refine g_val rfl rfl rfl (fun _ _ => v_pickT rfl rfl) ?_
     refine g_val rfl rfl rfl (fun _ _ => v_move rfl) ?_
     refine g_skipG rfl rfl rfl rfl rfl rfl ?_
     refine g_skipG rfl rfl rfl rfl rfl rfl ?_
     refine g_skipG rfl rfl rfl rfl rfl rfl ?_
     refine g_val rfl rfl rfl (fun _ _ => v_pickT rfl rfl) ?_
     refine g_nil ?_
     obtain rfl := Option.some.inj hm
     exact g_leaf () (trivial) ((.cons rfl (.cons rfl (.cons rfl (.cons rfl (.cons rfl (.cons rfl .nil))))))) (fun w hh => hh)
    ·replace hm := ifF (of_decide_eq_false h7) hm
     refine v_unguard rfl rfl ?_
     refine g_val rfl rfl rfl (fun _ _ => v_move rfl) ?_
     refine v_unguard rfl rfl ?_
     refine g_val rfl rfl rfl (fun w _ => v_lenR hna4 (Try.runUnderlying26 w) rfl) ?_
     refine v_unguard rfl rfl ?_
     refine g_val rfl rfl rfl (fun _ _ => v_gtr rfl rfl) ?_
     refine g_val rfl rfl rfl (fun _ _ => v_pickF rfl rfl) ?_
     refine g_val rfl rfl rfl (fun _ _ => v_move rfl) ?_
     refine g_case 32 rfl (fun h8 => ?_) (fun h8 => ?_)
     ·replace hm := ifT (of_decide_eq_true h8) hm
      refine g_skipG rfl rfl rfl rfl rfl rfl ?_
      refine g_skipG rfl rfl rfl rfl rfl rfl ?_
      refine g_skipG rfl rfl rfl rfl rfl rfl ?_
      refine g_val rfl rfl rfl (fun _ _ => v_pickT rfl rfl) ?_
      refine g_nil ?_
      obtain rfl := Option.some.inj hm
      exact g_leaf () (trivial) ((.cons rfl (.cons rfl (.cons rfl (.cons rfl (.cons rfl (.cons rfl .nil))))))) (fun w hh => hh)
     ·replace hm := ifF (of_decide_eq_false h8) hm
      refine v_unguard rfl rfl ?_
      refine g_val rfl rfl rfl (fun _ _ => v_move rfl) ?_
      refine v_unguard rfl rfl ?_
      refine g_val rfl rfl rfl (fun w _ => v_lenR hna5 (Try.runUnderlying26 w) rfl) ?_
      refine v_unguard rfl rfl ?_
      refine g_val rfl rfl rfl (fun _ _ => v_gtr rfl rfl) ?_
      refine g_val rfl rfl rfl (fun _ _ => v_pickF rfl rfl) ?_
      refine g_nil ?_
      obtain rfl := Option.some.inj hm
      exact g_leaf () (trivial) ((.cons rfl (.cons rfl (.cons rfl (.cons rfl (.cons rfl (.cons rfl .nil))))))) (fun w hh => hh)
  ·intro l hj
   replace hm := h3
   refine g_n_then ?_
   refine g_cond rfl (fun h9 => ?_) (fun h9 => ?_)
   ·replace hm := ifT (h9) hm
    refine g_seq ?_
    refine g_region ?_
    obtain ⟨t37, h10, hm⟩ := bindO hm
    refine g_callH [] [] rfl rfl rfl rfl rfl rfl rfl (fun a w => Try.call30 a w) (fun w hh => cx_awake  w (HV.callee (S0 := []) (vs0 := []) hh roN)  h10) (fun l_2 h11 => ?_)
    refine g_val rfl rfl rfl (fun _ _ => v_assign rfl) ?_
    refine g_nil ?_
    refine g_n_then ?_
    refine g_ret ?_
    refine g_r_then ?_
    obtain rfl := Option.some.inj hm
    refine g_done rfl (fun w hh => (.tmp rfl .nil)) (fun w hh => ⟨(), rfl, trivial, hh.sel [] [] 6 (by decide) (by decide) rfl rfl rfl⟩)
   ·replace hm := ifF ((fun hh => Bool.noConfusion ((h9).symm.trans hh))) hm
    refine g_skip ?_
    refine g_n_then ?_
    refine g_seq ?_
    obtain ⟨o_1, h12, h13⟩ := bindO hm
    refine g_cut (ι := Nat × Nat × VL × VL × VL × VL × VL × VL × VL × VL × VL) (fun l_3 => VOK 1 l_3.2.2.1.n l_3.2.2.1.cap (RI.enc o_1.a13) l_3.2.2.1.sp l_3.2.2.1.q ∧ VOK 1 l_3.2.2.2.1.n l_3.2.2.2.1.cap (RI.enc o_1.b14) l_3.2.2.2.1.sp l_3.2.2.2.1.q ∧ VOK 1 l_3.2.2.2.2.1.n l_3.2.2.2.2.1.cap (RI.enc o_1.c15) l_3.2.2.2.2.1.sp l_3.2.2.2.2.1.q ∧ VOK 2 l_3.2.2.2.2.2.1.n l_3.2.2.2.2.2.1.cap (RW.enc o_1.own11.table) l_3.2.2.2.2.2.1.sp l_3.2.2.2.2.2.1.q ∧ VOK 1 l_3.2.2.2.2.2.2.1.n l_3.2.2.2.2.2.2.1.cap (RI.enc o_1.own11.floors) l_3.2.2.2.2.2.2.1.sp l_3.2.2.2.2.2.2.1.q ∧ VOK 3 l_3.2.2.2.2.2.2.2.1.n l_3.2.2.2.2.2.2.2.1.cap (RS.enc o_1.own11.sills) l_3.2.2.2.2.2.2.2.1.sp l_3.2.2.2.2.2.2.2.1.q ∧ VOK 2 l_3.2.2.2.2.2.2.2.2.1.n l_3.2.2.2.2.2.2.2.2.1.cap (RW.enc o_1.x12.table) l_3.2.2.2.2.2.2.2.2.1.sp l_3.2.2.2.2.2.2.2.2.1.q ∧ VOK 1 l_3.2.2.2.2.2.2.2.2.2.1.n l_3.2.2.2.2.2.2.2.2.2.1.cap (RI.enc o_1.x12.floors) l_3.2.2.2.2.2.2.2.2.2.1.sp l_3.2.2.2.2.2.2.2.2.2.1.q ∧ VOK 3 l_3.2.2.2.2.2.2.2.2.2.2.n l_3.2.2.2.2.2.2.2.2.2.2.cap (RS.enc o_1.x12.sills) l_3.2.2.2.2.2.2.2.2.2.2.sp l_3.2.2.2.2.2.2.2.2.2.2.q) (fun l_3 => [(1, .int .i64 place1), (2, .slice qa3 na3 ca3), (3, .slice qa4 na4 ca4), (4, .slice qa5 na5 ca5), (5, ptr b 0), (11, ptr l_3.1 0), (12, ptr l_3.2.1 0), (13, slv l_3.2.2.1.q l_3.2.2.1.n l_3.2.2.1.cap), (14, slv l_3.2.2.2.1.q l_3.2.2.2.1.n l_3.2.2.2.1.cap), (15, slv l_3.2.2.2.2.1.q l_3.2.2.2.2.1.n l_3.2.2.2.2.1.cap)]) (fun l_3 => [(b, .cells #[.slice qa0 na0 ca0, .int .i64 s0.wind.lo, .int .i64 s0.wind.hi, .slice qa1 na1 ca1, .slice qa2 na2 ca2] 29 (0, 0)), (l_3.1, .cells #[slv l_3.2.2.2.2.2.1.q l_3.2.2.2.2.2.1.n l_3.2.2.2.2.2.1.cap, .int .i64 o_1.own11.wind.lo, .int .i64 o_1.own11.wind.hi, slv l_3.2.2.2.2.2.2.1.q l_3.2.2.2.2.2.2.1.n l_3.2.2.2.2.2.2.1.cap, slv l_3.2.2.2.2.2.2.2.1.q l_3.2.2.2.2.2.2.2.1.n l_3.2.2.2.2.2.2.2.1.cap] 29 (0, 0)), (l_3.2.1, .cells #[slv l_3.2.2.2.2.2.2.2.2.1.q l_3.2.2.2.2.2.2.2.2.1.n l_3.2.2.2.2.2.2.2.2.1.cap, .int .i64 o_1.x12.wind.lo, .int .i64 o_1.x12.wind.hi, slv l_3.2.2.2.2.2.2.2.2.2.1.q l_3.2.2.2.2.2.2.2.2.2.1.n l_3.2.2.2.2.2.2.2.2.2.1.cap, slv l_3.2.2.2.2.2.2.2.2.2.2.q l_3.2.2.2.2.2.2.2.2.2.2.n l_3.2.2.2.2.2.2.2.2.2.2.cap] 59 (0, 0))]) (fun l_3 => [⟨3, RI.enc o_1.a13, l_3.2.2.1.sp, l_3.2.2.1.q⟩, ⟨3, RI.enc o_1.b14, l_3.2.2.2.1.sp, l_3.2.2.2.1.q⟩, ⟨3, RI.enc o_1.c15, l_3.2.2.2.2.1.sp, l_3.2.2.2.2.1.q⟩, ⟨68, RW.enc o_1.own11.table, l_3.2.2.2.2.2.1.sp, l_3.2.2.2.2.2.1.q⟩, ⟨3, RI.enc o_1.own11.floors, l_3.2.2.2.2.2.2.1.sp, l_3.2.2.2.2.2.2.1.q⟩, ⟨51, RS.enc o_1.own11.sills, l_3.2.2.2.2.2.2.2.1.sp, l_3.2.2.2.2.2.2.2.1.q⟩, ⟨158, RW.enc o_1.x12.table, l_3.2.2.2.2.2.2.2.2.1.sp, l_3.2.2.2.2.2.2.2.2.1.q⟩, ⟨3, RI.enc o_1.x12.floors, l_3.2.2.2.2.2.2.2.2.2.1.sp, l_3.2.2.2.2.2.2.2.2.2.1.q⟩, ⟨159, RS.enc o_1.x12.sills, l_3.2.2.2.2.2.2.2.2.2.2.sp, l_3.2.2.2.2.2.2.2.2.2.2.q⟩]) ?_ ?_
    ·replace hm := h12
     obtain ⟨t39, h23, hm⟩ := bindO hm
     obtain ⟨t41, h24, hm⟩ := bindO hm
     obtain ⟨t43, h25, hm⟩ := bindO hm
     obtain ⟨t45, h26, hm⟩ := bindO hm
     obtain ⟨t47, h27, hm⟩ := bindO hm
     refine g_draw none (.hoist 0 (.hoist 2 (.free 4 (.free 6 (.free 8 (.br (.alt 1 m_laurellaw01_TideBanks_Q21 (.alt 10 m_laurellaw01_TideBanks_Q16 (.alt 11 m_laurellaw01_TideBanks_Q10 .nil))))))))) _ rfl (by decide +kernel) (fun w k hh => hh.draw k) (fun w hh => hh) ?_
     refine p_hoist rfl rfl rfl rfl (fun w hh => v_loadAgg (vs := [_, _, _, _, _]) (Try.isAgg29 w) (Try.sizeOf29 w) rfl (hh.cells 0 rfl rfl)) ?_
     refine p_hoist rfl rfl rfl rfl (fun w hh => v_loadAgg (vs := [_, _, _, _, _]) (Try.isAgg29 w) (Try.sizeOf29 w) rfl (hh.cells 0 rfl rfl)) ?_
     refine p_free rfl rfl rfl rfl (fun _ _ => v_move rfl) ?_
     refine p_free rfl rfl rfl rfl (fun _ _ => v_move rfl) ?_
     refine p_free rfl rfl rfl rfl (fun _ _ => v_move rfl) ?_
     refine p_share (.free 14 (.free 15 (.free 16 .done))) (fun g => ∀ (b_1 : Nat) (b_2 : Nat) (L : VL) (L_1 : VL) (L_2 : VL) (L_3 : VL) (L_4 : VL) (L_5 : VL) (L_6 : VL) (L_7 : VL) (L_8 : VL), vk 1 L (RI.enc t43) → vk 1 L_1 (RI.enc t45) → vk 1 L_2 (RI.enc t47) → vk 2 L_3 (RW.enc t39.table) → vk 1 L_4 (RI.enc t39.floors) → vk 3 L_5 (RS.enc t39.sills) → vk 2 L_6 (RW.enc t41.table) → vk 1 L_7 (RI.enc t41.floors) → vk 3 L_8 (RS.enc t41.sills) → g [(1, .int .i64 place1), (2, .slice qa3 na3 ca3), (3, .slice qa4 na4 ca4), (4, .slice qa5 na5 ca5), (5, ptr b 0), (11, ptr b_1 0), (12, ptr b_2 0), (43, sL L), (45, sL L_1), (47, sL L_2)] [(b, .cells #[.slice qa0 na0 ca0, .int .i64 s0.wind.lo, .int .i64 s0.wind.hi, .slice qa1 na1 ca1, .slice qa2 na2 ca2] 29 (0, 0)), (b_1, .cells #[sL L_3, .int .i64 t39.wind.lo, .int .i64 t39.wind.hi, sL L_4, sL L_5] 29 (0, 0)), (b_2, .cells #[sL L_6, .int .i64 t41.wind.lo, .int .i64 t41.wind.hi, sL L_7, sL L_8] 59 (0, 0))] [vL 3 L (RI.enc t43), vL 3 L_1 (RI.enc t45), vL 3 L_2 (RI.enc t47), vL 68 L_3 (RW.enc t39.table), vL 3 L_4 (RI.enc t39.floors), vL 51 L_5 (RS.enc t39.sills), vL 158 L_6 (RW.enc t41.table), vL 3 L_7 (RI.enc t41.floors), vL 159 L_8 (RS.enc t41.sills)]) ?_ (fun h37 => ?_)
     ·intro b_1 b_2 L L_1 L_2 L_3 L_4 L_5 L_6 L_7 L_8 h28 h29 h30 h31 h32 h33 h34 h35 h36
      refine p_free rfl rfl rfl rfl (fun _ _ => v_assign rfl) ?_
      refine p_free rfl rfl rfl rfl (fun _ _ => v_assign rfl) ?_
      refine p_free rfl rfl rfl rfl (fun _ _ => v_assign rfl) ?_
      refine p_done ?_
      obtain rfl := Option.some.inj hm
      exact g_leaf (b_1, b_2, L, L_1, L_2, L_3, L_4, L_5, L_6, L_7, L_8) (⟨h28, h29, h30, h31, h32, h33, h34, h35, h36⟩) ((.cons rfl (.cons rfl (.cons rfl (.cons rfl (.cons rfl (.cons rfl (.cons rfl (.cons rfl (.cons rfl (.cons rfl .nil))))))))))) (fun w hh => hh)
     refine p_share m_laurellaw01_TideBanks_Q22 (fun g => ∀ (b_3 : Nat) (b_4 : Nat) (L_9 : VL) (L_10 : VL) (L_11 : VL) (L_12 : VL) (L_13 : VL) (L_14 : VL) (L_15 : VL) (L_16 : VL) (L_17 : VL), vk 2 L_9 (RW.enc t41.table) → vk 1 L_10 (RI.enc t41.floors) → vk 3 L_11 (RS.enc t41.sills) → vk 1 L_12 (RI.enc t43) → vk 1 L_13 (RI.enc t45) → vk 1 L_14 (RI.enc t47) → vk 2 L_15 (RW.enc t39.table) → vk 1 L_16 (RI.enc t39.floors) → vk 3 L_17 (RS.enc t39.sills) → g [(1, .int .i64 place1), (2, .slice qa3 na3 ca3), (3, .slice qa4 na4 ca4), (4, .slice qa5 na5 ca5), (5, ptr b 0), (11, ptr b_3 0), (12, ptr b_4 0), (41, .agg #[sL L_9, .int .i64 t41.wind.lo, .int .i64 t41.wind.hi, sL L_10, sL L_11]), (43, sL L_12), (45, sL L_13), (47, sL L_14)] [(b, .cells #[.slice qa0 na0 ca0, .int .i64 s0.wind.lo, .int .i64 s0.wind.hi, .slice qa1 na1 ca1, .slice qa2 na2 ca2] 29 (0, 0)), (b_3, .cells #[sL L_15, .int .i64 t39.wind.lo, .int .i64 t39.wind.hi, sL L_16, sL L_17] 29 (0, 0)), (b_4, .cells #[slv none 0 0, .int .i64 0, .int .i64 0, slv none 0 0, slv none 0 0] 59 (0, 0))] [vL 158 L_9 (RW.enc t41.table), vL 3 L_10 (RI.enc t41.floors), vL 159 L_11 (RS.enc t41.sills), vL 3 L_12 (RI.enc t43), vL 3 L_13 (RI.enc t45), vL 3 L_14 (RI.enc t47), vL 68 L_15 (RW.enc t39.table), vL 3 L_16 (RI.enc t39.floors), vL 51 L_17 (RS.enc t39.sills)]) ?_ (fun h47 => ?_)
     ·intro b_3 b_4 L_9 L_10 L_11 L_12 L_13 L_14 L_15 L_16 L_17 h38 h39 h40 h41 h42 h43 h44 h45 h46
      refine p_one rfl ?_
      refine g_stSA (us := #[_, _, _, _, _]) (cs' := [_, _, _, _, _]) (S' := [_, _, _]) 2 (fun w => Try.sizeOf59 w) rfl rfl rfl rfl rfl rfl rfl ?_
      refine p_next (fun w hh => hh.sel [0] [] 0 (by decide) (by decide) rfl rfl rfl) ?_
      exact p_shr (h37 b_3 b_4 L_12 L_13 L_14 L_15 L_16 L_17 L_9 L_10 L_11 h41 h42 h43 h44 h45 h46 h38 h39 h40) ((.cons rfl (.cons rfl (.cons rfl (.cons rfl (.cons rfl (.cons rfl (.cons rfl (.cons rfl (.cons rfl (.cons rfl .nil))))))))))) (fun w hh => hh.sel [0, 1, 2] [3, 4, 5, 6, 7, 8, 0, 1, 2] 0 (by decide) (by decide) rfl rfl rfl)
     refine p_share m_laurellaw01_TideBanks_Q23 (fun g => ∀ (b_5 : Nat) (b_6 : Nat) (L_18 : VL) (L_19 : VL) (L_20 : VL) (L_21 : VL) (L_22 : VL) (L_23 : VL) (L_24 : VL) (L_25 : VL) (L_26 : VL), vk 2 L_18 (RW.enc t39.table) → vk 1 L_19 (RI.enc t39.floors) → vk 3 L_20 (RS.enc t39.sills) → vk 2 L_21 (RW.enc t41.table) → vk 1 L_22 (RI.enc t41.floors) → vk 3 L_23 (RS.enc t41.sills) → vk 1 L_24 (RI.enc t43) → vk 1 L_25 (RI.enc t45) → vk 1 L_26 (RI.enc t47) → g [(1, .int .i64 place1), (2, .slice qa3 na3 ca3), (3, .slice qa4 na4 ca4), (4, .slice qa5 na5 ca5), (5, ptr b 0), (11, ptr b_5 0), (12, ptr b_6 0), (39, .agg #[sL L_18, .int .i64 t39.wind.lo, .int .i64 t39.wind.hi, sL L_19, sL L_20]), (41, .agg #[sL L_21, .int .i64 t41.wind.lo, .int .i64 t41.wind.hi, sL L_22, sL L_23]), (43, sL L_24), (45, sL L_25), (47, sL L_26)] [(b, .cells #[.slice qa0 na0 ca0, .int .i64 s0.wind.lo, .int .i64 s0.wind.hi, .slice qa1 na1 ca1, .slice qa2 na2 ca2] 29 (0, 0)), (b_5, .cells #[slv none 0 0, .int .i64 0, .int .i64 0, slv none 0 0, slv none 0 0] 29 (0, 0)), (b_6, .cells #[slv none 0 0, .int .i64 0, .int .i64 0, slv none 0 0, slv none 0 0] 59 (0, 0))] [vL 68 L_18 (RW.enc t39.table), vL 3 L_19 (RI.enc t39.floors), vL 51 L_20 (RS.enc t39.sills), vL 158 L_21 (RW.enc t41.table), vL 3 L_22 (RI.enc t41.floors), vL 159 L_23 (RS.enc t41.sills), vL 3 L_24 (RI.enc t43), vL 3 L_25 (RI.enc t45), vL 3 L_26 (RI.enc t47)]) ?_ (fun h57 => ?_)
     ·intro b_5 b_6 L_18 L_19 L_20 L_21 L_22 L_23 L_24 L_25 L_26 h48 h49 h50 h51 h52 h53 h54 h55 h56
      refine p_one rfl ?_
      refine g_stSA (us := #[_, _, _, _, _]) (cs' := [_, _, _, _, _]) (S' := [_, _, _]) 1 (fun w => Try.sizeOf29 w) rfl rfl rfl rfl rfl rfl rfl ?_
      refine p_next (fun w hh => hh.sel [0] [] 0 (by decide) (by decide) rfl rfl rfl) ?_
      exact p_shr (h47 b_5 b_6 L_21 L_22 L_23 L_24 L_25 L_26 L_18 L_19 L_20 h51 h52 h53 h54 h55 h56 h48 h49 h50) ((.cons rfl (.cons rfl (.cons rfl (.cons rfl (.cons rfl (.cons rfl (.cons rfl (.cons rfl (.cons rfl (.cons rfl (.cons rfl .nil)))))))))))) (fun w hh => hh.sel [0, 1, 2] [3, 4, 5, 6, 7, 8, 0, 1, 2] 0 (by decide) (by decide) rfl rfl rfl)
     refine p_share m_laurellaw01_TideBanks_Q4 (fun g => ∀ (b_7 : Nat) (b_8 : Nat) (L_27 : VL) (L_28 : VL) (L_29 : VL) (L_30 : VL) (L_31 : VL) (L_32 : VL) (L_33 : VL) (L_34 : VL), vk 2 L_27 (RW.enc t39.table) → vk 1 L_28 (RI.enc t39.floors) → vk 3 L_29 (RS.enc t39.sills) → vk 2 L_30 (RW.enc t41.table) → vk 1 L_31 (RI.enc t41.floors) → vk 3 L_32 (RS.enc t41.sills) → vk 1 L_33 (RI.enc t43) → vk 1 L_34 (RI.enc t45) → g [(1, .int .i64 place1), (2, .slice qa3 na3 ca3), (3, .slice qa4 na4 ca4), (4, .slice qa5 na5 ca5), (5, ptr b 0), (11, ptr b_7 0), (12, ptr b_8 0), (39, .agg #[sL L_27, .int .i64 t39.wind.lo, .int .i64 t39.wind.hi, sL L_28, sL L_29]), (41, .agg #[sL L_30, .int .i64 t41.wind.lo, .int .i64 t41.wind.hi, sL L_31, sL L_32]), (43, sL L_33), (45, sL L_34), (46, .slice qa5 na5 ca5)] [(b, .cells #[.slice qa0 na0 ca0, .int .i64 s0.wind.lo, .int .i64 s0.wind.hi, .slice qa1 na1 ca1, .slice qa2 na2 ca2] 29 (0, 0)), (b_7, .cells #[slv none 0 0, .int .i64 0, .int .i64 0, slv none 0 0, slv none 0 0] 29 (0, 0)), (b_8, .cells #[slv none 0 0, .int .i64 0, .int .i64 0, slv none 0 0, slv none 0 0] 59 (0, 0))] [vL 68 L_27 (RW.enc t39.table), vL 3 L_28 (RI.enc t39.floors), vL 51 L_29 (RS.enc t39.sills), vL 158 L_30 (RW.enc t41.table), vL 3 L_31 (RI.enc t41.floors), vL 159 L_32 (RS.enc t41.sills), vL 3 L_33 (RI.enc t43), vL 3 L_34 (RI.enc t45)]) ?_ (fun h66 => ?_)
     ·intro b_7 b_8 L_27 L_28 L_29 L_30 L_31 L_32 L_33 L_34 h58 h59 h60 h61 h62 h63 h64 h65
      refine p_one rfl ?_
      refine g_callH [] [] rfl rfl rfl rfl rfl rfl rfl (fun a w => Try.call65 a w) (fun w hh => c_laurelkit_Dup_int places4 qa5 na5 ca5 w (HV.callee (S0 := []) (vs0 := []) hh (roC (hh.rsep (S0 := []) (vs0 := []) 5 rfl) roN)) hna5 hqa5 hla5 h27) (fun l_4 h67 => ?_)
      have h68 := h67
      refine g_sel (S' := [_, _, _]) (vs' := [_, _, _, _, _, _, _, _, _]) [0, 1, 2] [0, 1, 2, 3, 4, 5, 6, 7, 8] 0 (by decide) (by decide) rfl rfl rfl ?_
      refine p_next (fun w hh => hh.sel [0] [] 0 (by decide) (by decide) rfl rfl rfl) ?_
      exact p_shr (h57 b_7 b_8 L_27 L_28 L_29 L_30 L_31 L_32 L_33 L_34 l_4 h58 h59 h60 h61 h62 h63 h64 h65 h68) ((.cons rfl (.cons rfl (.cons rfl (.cons rfl (.cons rfl (.cons rfl (.cons rfl (.cons rfl (.cons rfl (.cons rfl (.cons rfl (.cons rfl .nil))))))))))))) (fun w hh => hh.sel [0, 1, 2] [1, 2, 3, 4, 5, 6, 7, 8, 0] 0 (by decide) (by decide) rfl rfl rfl)
     refine p_share m_laurellaw01_TideBanks_Q5 (fun g => ∀ (b_9 : Nat) (L_35 : VL) (L_36 : VL) (L_37 : VL) (L_38 : VL) (L_39 : VL) (L_40 : VL) (L_41 : VL) (L_42 : VL) (L_43 : VL), vk 2 L_35 (RW.enc t39.table) → vk 1 L_36 (RI.enc t39.floors) → vk 3 L_37 (RS.enc t39.sills) → vk 2 L_38 (RW.enc t41.table) → vk 1 L_39 (RI.enc t41.floors) → vk 3 L_40 (RS.enc t41.sills) → vk 1 L_41 (RI.enc t43) → vk 1 L_42 (RI.enc t45) → vk 1 L_43 (RI.enc t47) → g [(1, .int .i64 place1), (2, .slice qa3 na3 ca3), (3, .slice qa4 na4 ca4), (4, .slice qa5 na5 ca5), (5, ptr b 0), (12, ptr b_9 0), (39, .agg #[sL L_35, .int .i64 t39.wind.lo, .int .i64 t39.wind.hi, sL L_36, sL L_37]), (41, .agg #[sL L_38, .int .i64 t41.wind.lo, .int .i64 t41.wind.hi, sL L_39, sL L_40]), (43, sL L_41), (45, sL L_42), (47, sL L_43)] [(b, .cells #[.slice qa0 na0 ca0, .int .i64 s0.wind.lo, .int .i64 s0.wind.hi, .slice qa1 na1 ca1, .slice qa2 na2 ca2] 29 (0, 0)), (b_9, .cells #[slv none 0 0, .int .i64 0, .int .i64 0, slv none 0 0, slv none 0 0] 59 (0, 0))] [vL 68 L_35 (RW.enc t39.table), vL 3 L_36 (RI.enc t39.floors), vL 51 L_37 (RS.enc t39.sills), vL 158 L_38 (RW.enc t41.table), vL 3 L_39 (RI.enc t41.floors), vL 159 L_40 (RS.enc t41.sills), vL 3 L_41 (RI.enc t43), vL 3 L_42 (RI.enc t45), vL 3 L_43 (RI.enc t47)]) ?_ (fun h78 => ?_)
     ·intro b_9 L_35 L_36 L_37 L_38 L_39 L_40 L_41 L_42 L_43 h69 h70 h71 h72 h73 h74 h75 h76 h77
      refine p_one rfl ?_
      refine g_allocV (fun w => Try.zeroValue29 w) rfl (fun b_10 h79 => ?_)
      refine p_next (fun w hh => hh.sel [1] [] 0 (by decide) (by decide) rfl rfl rfl) ?_
      exact p_shr (h57 b_10 b_9 L_35 L_36 L_37 L_38 L_39 L_40 L_41 L_42 L_43 h69 h70 h71 h72 h73 h74 h75 h76 h77) ((.cons rfl (.cons rfl (.cons rfl (.cons rfl (.cons rfl (.cons rfl (.cons rfl (.cons rfl (.cons rfl (.cons rfl (.cons rfl (.cons rfl .nil))))))))))))) (fun w hh => hh.sel [1, 0, 2] [0, 1, 2, 3, 4, 5, 6, 7, 8] 0 (by decide) (by decide) rfl rfl rfl)
     refine p_share m_laurellaw01_TideBanks_Q11 (fun g => ∀ (b_11 : Nat) (L_44 : VL) (L_45 : VL) (L_46 : VL) (L_47 : VL) (L_48 : VL) (L_49 : VL) (L_50 : VL) (L_51 : VL) (L_52 : VL), vk 2 L_44 (RW.enc t39.table) → vk 1 L_45 (RI.enc t39.floors) → vk 3 L_46 (RS.enc t39.sills) → vk 2 L_47 (RW.enc t41.table) → vk 1 L_48 (RI.enc t41.floors) → vk 3 L_49 (RS.enc t41.sills) → vk 1 L_50 (RI.enc t43) → vk 1 L_51 (RI.enc t45) → vk 1 L_52 (RI.enc t47) → g [(1, .int .i64 place1), (2, .slice qa3 na3 ca3), (3, .slice qa4 na4 ca4), (4, .slice qa5 na5 ca5), (5, ptr b 0), (11, ptr b_11 0), (39, .agg #[sL L_44, .int .i64 t39.wind.lo, .int .i64 t39.wind.hi, sL L_45, sL L_46]), (41, .agg #[sL L_47, .int .i64 t41.wind.lo, .int .i64 t41.wind.hi, sL L_48, sL L_49]), (43, sL L_50), (45, sL L_51), (47, sL L_52)] [(b, .cells #[.slice qa0 na0 ca0, .int .i64 s0.wind.lo, .int .i64 s0.wind.hi, .slice qa1 na1 ca1, .slice qa2 na2 ca2] 29 (0, 0)), (b_11, .cells #[slv none 0 0, .int .i64 0, .int .i64 0, slv none 0 0, slv none 0 0] 29 (0, 0))] [vL 68 L_44 (RW.enc t39.table), vL 3 L_45 (RI.enc t39.floors), vL 51 L_46 (RS.enc t39.sills), vL 158 L_47 (RW.enc t41.table), vL 3 L_48 (RI.enc t41.floors), vL 159 L_49 (RS.enc t41.sills), vL 3 L_50 (RI.enc t43), vL 3 L_51 (RI.enc t45), vL 3 L_52 (RI.enc t47)]) ?_ (fun h89 => ?_)
     ·intro b_11 L_44 L_45 L_46 L_47 L_48 L_49 L_50 L_51 L_52 h80 h81 h82 h83 h84 h85 h86 h87 h88
      refine p_one rfl ?_
      refine g_allocV (fun w => Try.zeroValue59 w) rfl (fun b_12 h90 => ?_)
      refine p_next (fun w hh => hh.sel [1] [] 0 (by decide) (by decide) rfl rfl rfl) ?_
      exact p_shr (h57 b_11 b_12 L_44 L_45 L_46 L_47 L_48 L_49 L_50 L_51 L_52 h80 h81 h82 h83 h84 h85 h86 h87 h88) ((.cons rfl (.cons rfl (.cons rfl (.cons rfl (.cons rfl (.cons rfl (.cons rfl (.cons rfl (.cons rfl (.cons rfl (.cons rfl (.cons rfl .nil))))))))))))) (fun w hh => hh.sel [1, 2, 0] [0, 1, 2, 3, 4, 5, 6, 7, 8] 0 (by decide) (by decide) rfl rfl rfl)
     refine p_share m_laurellaw01_TideBanks_Q3 (fun g => ∀ (b_13 : Nat) (b_14 : Nat) (L_53 : VL) (L_54 : VL) (L_55 : VL) (L_56 : VL) (L_57 : VL) (L_58 : VL) (L_59 : VL), vk 2 L_53 (RW.enc t39.table) → vk 1 L_54 (RI.enc t39.floors) → vk 3 L_55 (RS.enc t39.sills) → vk 2 L_56 (RW.enc t41.table) → vk 1 L_57 (RI.enc t41.floors) → vk 3 L_58 (RS.enc t41.sills) → vk 1 L_59 (RI.enc t43) → g [(1, .int .i64 place1), (2, .slice qa3 na3 ca3), (3, .slice qa4 na4 ca4), (4, .slice qa5 na5 ca5), (5, ptr b 0), (11, ptr b_13 0), (12, ptr b_14 0), (39, .agg #[sL L_53, .int .i64 t39.wind.lo, .int .i64 t39.wind.hi, sL L_54, sL L_55]), (41, .agg #[sL L_56, .int .i64 t41.wind.lo, .int .i64 t41.wind.hi, sL L_57, sL L_58]), (43, sL L_59), (44, .slice qa4 na4 ca4), (46, .slice qa5 na5 ca5)] [(b, .cells #[.slice qa0 na0 ca0, .int .i64 s0.wind.lo, .int .i64 s0.wind.hi, .slice qa1 na1 ca1, .slice qa2 na2 ca2] 29 (0, 0)), (b_13, .cells #[slv none 0 0, .int .i64 0, .int .i64 0, slv none 0 0, slv none 0 0] 29 (0, 0)), (b_14, .cells #[slv none 0 0, .int .i64 0, .int .i64 0, slv none 0 0, slv none 0 0] 59 (0, 0))] [vL 68 L_53 (RW.enc t39.table), vL 3 L_54 (RI.enc t39.floors), vL 51 L_55 (RS.enc t39.sills), vL 158 L_56 (RW.enc t41.table), vL 3 L_57 (RI.enc t41.floors), vL 159 L_58 (RS.enc t41.sills), vL 3 L_59 (RI.enc t43)]) ?_ (fun h98 => ?_)
     ·intro b_13 b_14 L_53 L_54 L_55 L_56 L_57 L_58 L_59 h91 h92 h93 h94 h95 h96 h97
      refine p_one rfl ?_
      refine g_callH [] [] rfl rfl rfl rfl rfl rfl rfl (fun a w => Try.call65 a w) (fun w hh => c_laurelkit_Dup_int sills3 qa4 na4 ca4 w (HV.callee (S0 := []) (vs0 := []) hh (roC (hh.rsep (S0 := []) (vs0 := []) 4 rfl) roN)) hna4 hqa4 hla4 h26) (fun l_5 h99 => ?_)
      have h100 := h99
      refine g_sel (S' := [_, _, _]) (vs' := [_, _, _, _, _, _, _, _]) [0, 1, 2] [0, 1, 2, 3, 4, 5, 6, 7] 0 (by decide) (by decide) rfl rfl rfl ?_
      refine p_next (fun w hh => hh.sel [0] [] 0 (by decide) (by decide) rfl rfl rfl) ?_
      exact p_shr (h66 b_13 b_14 L_53 L_54 L_55 L_56 L_57 L_58 L_59 l_5 h91 h92 h93 h94 h95 h96 h97 h100) ((.cons rfl (.cons rfl (.cons rfl (.cons rfl (.cons rfl (.cons rfl (.cons rfl (.cons rfl (.cons rfl (.cons rfl (.cons rfl (.cons rfl .nil))))))))))))) (fun w hh => hh.sel [0, 1, 2] [1, 2, 3, 4, 5, 6, 7, 0] 0 (by decide) (by decide) rfl rfl rfl)
     refine p_share m_laurellaw01_TideBanks_Q6 (fun g => ∀ (b_15 : Nat) (L_60 : VL) (L_61 : VL) (L_62 : VL) (L_63 : VL) (L_64 : VL) (L_65 : VL) (L_66 : VL) (L_67 : VL), vk 2 L_60 (RW.enc t39.table) → vk 1 L_61 (RI.enc t39.floors) → vk 3 L_62 (RS.enc t39.sills) → vk 2 L_63 (RW.enc t41.table) → vk 1 L_64 (RI.enc t41.floors) → vk 3 L_65 (RS.enc t41.sills) → vk 1 L_66 (RI.enc t43) → vk 1 L_67 (RI.enc t45) → g [(1, .int .i64 place1), (2, .slice qa3 na3 ca3), (3, .slice qa4 na4 ca4), (4, .slice qa5 na5 ca5), (5, ptr b 0), (12, ptr b_15 0), (39, .agg #[sL L_60, .int .i64 t39.wind.lo, .int .i64 t39.wind.hi, sL L_61, sL L_62]), (41, .agg #[sL L_63, .int .i64 t41.wind.lo, .int .i64 t41.wind.hi, sL L_64, sL L_65]), (43, sL L_66), (45, sL L_67), (46, .slice qa5 na5 ca5)] [(b, .cells #[.slice qa0 na0 ca0, .int .i64 s0.wind.lo, .int .i64 s0.wind.hi, .slice qa1 na1 ca1, .slice qa2 na2 ca2] 29 (0, 0)), (b_15, .cells #[slv none 0 0, .int .i64 0, .int .i64 0, slv none 0 0, slv none 0 0] 59 (0, 0))] [vL 68 L_60 (RW.enc t39.table), vL 3 L_61 (RI.enc t39.floors), vL 51 L_62 (RS.enc t39.sills), vL 158 L_63 (RW.enc t41.table), vL 3 L_64 (RI.enc t41.floors), vL 159 L_65 (RS.enc t41.sills), vL 3 L_66 (RI.enc t43), vL 3 L_67 (RI.enc t45)]) ?_ (fun h109 => ?_)
     ·intro b_15 L_60 L_61 L_62 L_63 L_64 L_65 L_66 L_67 h101 h102 h103 h104 h105 h106 h107 h108
      refine p_br ?_
      refine p_alt rfl ?_ ?_
      ·refine g_callH [] [] rfl rfl rfl rfl rfl rfl rfl (fun a w => Try.call65 a w) (fun w hh => c_laurelkit_Dup_int places4 qa5 na5 ca5 w (HV.callee (S0 := []) (vs0 := []) hh (roC (hh.rsep (S0 := []) (vs0 := []) 5 rfl) roN)) hna5 hqa5 hla5 h27) (fun l_6 h110 => ?_)
       have h111 := h110
       refine g_sel (S' := [_, _]) (vs' := [_, _, _, _, _, _, _, _, _]) [0, 1] [0, 1, 2, 3, 4, 5, 6, 7, 8] 0 (by decide) (by decide) rfl rfl rfl ?_
       refine p_next (fun w hh => hh.sel [0] [] 0 (by decide) (by decide) rfl rfl rfl) ?_
       exact p_shr (h78 b_15 L_60 L_61 L_62 L_63 L_64 L_65 L_66 L_67 l_6 h101 h102 h103 h104 h105 h106 h107 h108 h111) ((.cons rfl (.cons rfl (.cons rfl (.cons rfl (.cons rfl (.cons rfl (.cons rfl (.cons rfl (.cons rfl (.cons rfl (.cons rfl .nil)))))))))))) (fun w hh => hh.sel [0, 1] [1, 2, 3, 4, 5, 6, 7, 8, 0] 0 (by decide) (by decide) rfl rfl rfl)
      refine p_alt rfl ?_ ?_
      ·refine g_allocV (fun w => Try.zeroValue29 w) rfl (fun b_16 h112 => ?_)
       refine p_next (fun w hh => hh.sel [1] [] 0 (by decide) (by decide) rfl rfl rfl) ?_
       exact p_shr (h66 b_16 b_15 L_60 L_61 L_62 L_63 L_64 L_65 L_66 L_67 h101 h102 h103 h104 h105 h106 h107 h108) ((.cons rfl (.cons rfl (.cons rfl (.cons rfl (.cons rfl (.cons rfl (.cons rfl (.cons rfl (.cons rfl (.cons rfl (.cons rfl (.cons rfl .nil))))))))))))) (fun w hh => hh.sel [1, 0, 2] [0, 1, 2, 3, 4, 5, 6, 7] 0 (by decide) (by decide) rfl rfl rfl)
      exact p_nil
     refine p_share m_laurellaw01_TideBanks_Q12 (fun g => ∀ (b_17 : Nat) (L_68 : VL) (L_69 : VL) (L_70 : VL) (L_71 : VL) (L_72 : VL) (L_73 : VL) (L_74 : VL) (L_75 : VL), vk 2 L_68 (RW.enc t39.table) → vk 1 L_69 (RI.enc t39.floors) → vk 3 L_70 (RS.enc t39.sills) → vk 2 L_71 (RW.enc t41.table) → vk 1 L_72 (RI.enc t41.floors) → vk 3 L_73 (RS.enc t41.sills) → vk 1 L_74 (RI.enc t43) → vk 1 L_75 (RI.enc t45) → g [(1, .int .i64 place1), (2, .slice qa3 na3 ca3), (3, .slice qa4 na4 ca4), (4, .slice qa5 na5 ca5), (5, ptr b 0), (11, ptr b_17 0), (39, .agg #[sL L_68, .int .i64 t39.wind.lo, .int .i64 t39.wind.hi, sL L_69, sL L_70]), (41, .agg #[sL L_71, .int .i64 t41.wind.lo, .int .i64 t41.wind.hi, sL L_72, sL L_73]), (43, sL L_74), (45, sL L_75), (46, .slice qa5 na5 ca5)] [(b, .cells #[.slice qa0 na0 ca0, .int .i64 s0.wind.lo, .int .i64 s0.wind.hi, .slice qa1 na1 ca1, .slice qa2 na2 ca2] 29 (0, 0)), (b_17, .cells #[slv none 0 0, .int .i64 0, .int .i64 0, slv none 0 0, slv none 0 0] 29 (0, 0))] [vL 68 L_68 (RW.enc t39.table), vL 3 L_69 (RI.enc t39.floors), vL 51 L_70 (RS.enc t39.sills), vL 158 L_71 (RW.enc t41.table), vL 3 L_72 (RI.enc t41.floors), vL 159 L_73 (RS.enc t41.sills), vL 3 L_74 (RI.enc t43), vL 3 L_75 (RI.enc t45)]) ?_ (fun h121 => ?_)
     ·intro b_17 L_68 L_69 L_70 L_71 L_72 L_73 L_74 L_75 h113 h114 h115 h116 h117 h118 h119 h120
      refine p_br ?_
      refine p_alt rfl ?_ ?_
      ·refine g_callH [] [] rfl rfl rfl rfl rfl rfl rfl (fun a w => Try.call65 a w) (fun w hh => c_laurelkit_Dup_int places4 qa5 na5 ca5 w (HV.callee (S0 := []) (vs0 := []) hh (roC (hh.rsep (S0 := []) (vs0 := []) 5 rfl) roN)) hna5 hqa5 hla5 h27) (fun l_7 h122 => ?_)
       have h123 := h122
       refine g_sel (S' := [_, _]) (vs' := [_, _, _, _, _, _, _, _, _]) [0, 1] [0, 1, 2, 3, 4, 5, 6, 7, 8] 0 (by decide) (by decide) rfl rfl rfl ?_
       refine p_next (fun w hh => hh.sel [0] [] 0 (by decide) (by decide) rfl rfl rfl) ?_
       exact p_shr (h89 b_17 L_68 L_69 L_70 L_71 L_72 L_73 L_74 L_75 l_7 h113 h114 h115 h116 h117 h118 h119 h120 h123) ((.cons rfl (.cons rfl (.cons rfl (.cons rfl (.cons rfl (.cons rfl (.cons rfl (.cons rfl (.cons rfl (.cons rfl (.cons rfl .nil)))))))))))) (fun w hh => hh.sel [0, 1] [1, 2, 3, 4, 5, 6, 7, 8, 0] 0 (by decide) (by decide) rfl rfl rfl)
      refine p_alt rfl ?_ ?_
      ·refine g_allocV (fun w => Try.zeroValue59 w) rfl (fun b_18 h124 => ?_)
       refine p_next (fun w hh => hh.sel [1] [] 0 (by decide) (by decide) rfl rfl rfl) ?_
       exact p_shr (h66 b_17 b_18 L_68 L_69 L_70 L_71 L_72 L_73 L_74 L_75 h113 h114 h115 h116 h117 h118 h119 h120) ((.cons rfl (.cons rfl (.cons rfl (.cons rfl (.cons rfl (.cons rfl (.cons rfl (.cons rfl (.cons rfl (.cons rfl (.cons rfl (.cons rfl .nil))))))))))))) (fun w hh => hh.sel [1, 2, 0] [0, 1, 2, 3, 4, 5, 6, 7] 0 (by decide) (by decide) rfl rfl rfl)
      exact p_nil
     refine p_share m_laurellaw01_TideBanks_Q2 (fun g => ∀ (b_19 : Nat) (b_20 : Nat) (L_76 : VL) (L_77 : VL) (L_78 : VL) (L_79 : VL) (L_80 : VL) (L_81 : VL), vk 2 L_76 (RW.enc t39.table) → vk 1 L_77 (RI.enc t39.floors) → vk 3 L_78 (RS.enc t39.sills) → vk 2 L_79 (RW.enc t41.table) → vk 1 L_80 (RI.enc t41.floors) → vk 3 L_81 (RS.enc t41.sills) → g [(1, .int .i64 place1), (2, .slice qa3 na3 ca3), (3, .slice qa4 na4 ca4), (4, .slice qa5 na5 ca5), (5, ptr b 0), (11, ptr b_19 0), (12, ptr b_20 0), (39, .agg #[sL L_76, .int .i64 t39.wind.lo, .int .i64 t39.wind.hi, sL L_77, sL L_78]), (41, .agg #[sL L_79, .int .i64 t41.wind.lo, .int .i64 t41.wind.hi, sL L_80, sL L_81]), (42, .slice qa3 na3 ca3), (44, .slice qa4 na4 ca4), (46, .slice qa5 na5 ca5)] [(b, .cells #[.slice qa0 na0 ca0, .int .i64 s0.wind.lo, .int .i64 s0.wind.hi, .slice qa1 na1 ca1, .slice qa2 na2 ca2] 29 (0, 0)), (b_19, .cells #[slv none 0 0, .int .i64 0, .int .i64 0, slv none 0 0, slv none 0 0] 29 (0, 0)), (b_20, .cells #[slv none 0 0, .int .i64 0, .int .i64 0, slv none 0 0, slv none 0 0] 59 (0, 0))] [vL 68 L_76 (RW.enc t39.table), vL 3 L_77 (RI.enc t39.floors), vL 51 L_78 (RS.enc t39.sills), vL 158 L_79 (RW.enc t41.table), vL 3 L_80 (RI.enc t41.floors), vL 159 L_81 (RS.enc t41.sills)]) ?_ (fun h131 => ?_)
     ·intro b_19 b_20 L_76 L_77 L_78 L_79 L_80 L_81 h125 h126 h127 h128 h129 h130
      refine p_one rfl ?_
      refine g_callH [] [] rfl rfl rfl rfl rfl rfl rfl (fun a w => Try.call65 a w) (fun w hh => c_laurelkit_Dup_int way2 qa3 na3 ca3 w (HV.callee (S0 := []) (vs0 := []) hh (roC (hh.rsep (S0 := []) (vs0 := []) 3 rfl) roN)) hna3 hqa3 hla3 h25) (fun l_8 h132 => ?_)
      have h133 := h132
      refine g_sel (S' := [_, _, _]) (vs' := [_, _, _, _, _, _, _]) [0, 1, 2] [0, 1, 2, 3, 4, 5, 6] 0 (by decide) (by decide) rfl rfl rfl ?_
      refine p_next (fun w hh => hh.sel [0] [] 0 (by decide) (by decide) rfl rfl rfl) ?_
      exact p_shr (h98 b_19 b_20 L_76 L_77 L_78 L_79 L_80 L_81 l_8 h125 h126 h127 h128 h129 h130 h133) ((.cons rfl (.cons rfl (.cons rfl (.cons rfl (.cons rfl (.cons rfl (.cons rfl (.cons rfl (.cons rfl (.cons rfl (.cons rfl (.cons rfl .nil))))))))))))) (fun w hh => hh.sel [0, 1, 2] [1, 2, 3, 4, 5, 6, 0] 0 (by decide) (by decide) rfl rfl rfl)
     refine p_share m_laurellaw01_TideBanks_Q7 (fun g => ∀ (b_21 : Nat) (L_82 : VL) (L_83 : VL) (L_84 : VL) (L_85 : VL) (L_86 : VL) (L_87 : VL) (L_88 : VL), vk 2 L_82 (RW.enc t39.table) → vk 1 L_83 (RI.enc t39.floors) → vk 3 L_84 (RS.enc t39.sills) → vk 2 L_85 (RW.enc t41.table) → vk 1 L_86 (RI.enc t41.floors) → vk 3 L_87 (RS.enc t41.sills) → vk 1 L_88 (RI.enc t43) → g [(1, .int .i64 place1), (2, .slice qa3 na3 ca3), (3, .slice qa4 na4 ca4), (4, .slice qa5 na5 ca5), (5, ptr b 0), (12, ptr b_21 0), (39, .agg #[sL L_82, .int .i64 t39.wind.lo, .int .i64 t39.wind.hi, sL L_83, sL L_84]), (41, .agg #[sL L_85, .int .i64 t41.wind.lo, .int .i64 t41.wind.hi, sL L_86, sL L_87]), (43, sL L_88), (44, .slice qa4 na4 ca4), (46, .slice qa5 na5 ca5)] [(b, .cells #[.slice qa0 na0 ca0, .int .i64 s0.wind.lo, .int .i64 s0.wind.hi, .slice qa1 na1 ca1, .slice qa2 na2 ca2] 29 (0, 0)), (b_21, .cells #[slv none 0 0, .int .i64 0, .int .i64 0, slv none 0 0, slv none 0 0] 59 (0, 0))] [vL 68 L_82 (RW.enc t39.table), vL 3 L_83 (RI.enc t39.floors), vL 51 L_84 (RS.enc t39.sills), vL 158 L_85 (RW.enc t41.table), vL 3 L_86 (RI.enc t41.floors), vL 159 L_87 (RS.enc t41.sills), vL 3 L_88 (RI.enc t43)]) ?_ (fun h141 => ?_)
     ·intro b_21 L_82 L_83 L_84 L_85 L_86 L_87 L_88 h134 h135 h136 h137 h138 h139 h140
      refine p_br ?_
      refine p_alt rfl ?_ ?_
      ·refine g_callH [] [] rfl rfl rfl rfl rfl rfl rfl (fun a w => Try.call65 a w) (fun w hh => c_laurelkit_Dup_int sills3 qa4 na4 ca4 w (HV.callee (S0 := []) (vs0 := []) hh (roC (hh.rsep (S0 := []) (vs0 := []) 4 rfl) roN)) hna4 hqa4 hla4 h26) (fun l_9 h142 => ?_)
       have h143 := h142
       refine g_sel (S' := [_, _]) (vs' := [_, _, _, _, _, _, _, _]) [0, 1] [0, 1, 2, 3, 4, 5, 6, 7] 0 (by decide) (by decide) rfl rfl rfl ?_
       refine p_next (fun w hh => hh.sel [0] [] 0 (by decide) (by decide) rfl rfl rfl) ?_
       exact p_shr (h109 b_21 L_82 L_83 L_84 L_85 L_86 L_87 L_88 l_9 h134 h135 h136 h137 h138 h139 h140 h143) ((.cons rfl (.cons rfl (.cons rfl (.cons rfl (.cons rfl (.cons rfl (.cons rfl (.cons rfl (.cons rfl (.cons rfl (.cons rfl .nil)))))))))))) (fun w hh => hh.sel [0, 1] [1, 2, 3, 4, 5, 6, 7, 0] 0 (by decide) (by decide) rfl rfl rfl)
      refine p_alt rfl ?_ ?_
      ·refine g_allocV (fun w => Try.zeroValue29 w) rfl (fun b_22 h144 => ?_)
       refine p_next (fun w hh => hh.sel [1] [] 0 (by decide) (by decide) rfl rfl rfl) ?_
       exact p_shr (h98 b_22 b_21 L_82 L_83 L_84 L_85 L_86 L_87 L_88 h134 h135 h136 h137 h138 h139 h140) ((.cons rfl (.cons rfl (.cons rfl (.cons rfl (.cons rfl (.cons rfl (.cons rfl (.cons rfl (.cons rfl (.cons rfl (.cons rfl (.cons rfl .nil))))))))))))) (fun w hh => hh.sel [1, 0, 2] [0, 1, 2, 3, 4, 5, 6] 0 (by decide) (by decide) rfl rfl rfl)
      exact p_nil
     refine p_share m_laurellaw01_TideBanks_Q13 (fun g => ∀ (b_23 : Nat) (L_89 : VL) (L_90 : VL) (L_91 : VL) (L_92 : VL) (L_93 : VL) (L_94 : VL) (L_95 : VL), vk 2 L_89 (RW.enc t39.table) → vk 1 L_90 (RI.enc t39.floors) → vk 3 L_91 (RS.enc t39.sills) → vk 2 L_92 (RW.enc t41.table) → vk 1 L_93 (RI.enc t41.floors) → vk 3 L_94 (RS.enc t41.sills) → vk 1 L_95 (RI.enc t43) → g [(1, .int .i64 place1), (2, .slice qa3 na3 ca3), (3, .slice qa4 na4 ca4), (4, .slice qa5 na5 ca5), (5, ptr b 0), (11, ptr b_23 0), (39, .agg #[sL L_89, .int .i64 t39.wind.lo, .int .i64 t39.wind.hi, sL L_90, sL L_91]), (41, .agg #[sL L_92, .int .i64 t41.wind.lo, .int .i64 t41.wind.hi, sL L_93, sL L_94]), (43, sL L_95), (44, .slice qa4 na4 ca4), (46, .slice qa5 na5 ca5)] [(b, .cells #[.slice qa0 na0 ca0, .int .i64 s0.wind.lo, .int .i64 s0.wind.hi, .slice qa1 na1 ca1, .slice qa2 na2 ca2] 29 (0, 0)), (b_23, .cells #[slv none 0 0, .int .i64 0, .int .i64 0, slv none 0 0, slv none 0 0] 29 (0, 0))] [vL 68 L_89 (RW.enc t39.table), vL 3 L_90 (RI.enc t39.floors), vL 51 L_91 (RS.enc t39.sills), vL 158 L_92 (RW.enc t41.table), vL 3 L_93 (RI.enc t41.floors), vL 159 L_94 (RS.enc t41.sills), vL 3 L_95 (RI.enc t43)]) ?_ (fun h152 => ?_)
     ·intro b_23 L_89 L_90 L_91 L_92 L_93 L_94 L_95 h145 h146 h147 h148 h149 h150 h151
      refine p_br ?_
      refine p_alt rfl ?_ ?_
      ·refine g_callH [] [] rfl rfl rfl rfl rfl rfl rfl (fun a w => Try.call65 a w) (fun w hh => c_laurelkit_Dup_int sills3 qa4 na4 ca4 w (HV.callee (S0 := []) (vs0 := []) hh (roC (hh.rsep (S0 := []) (vs0 := []) 4 rfl) roN)) hna4 hqa4 hla4 h26) (fun l_10 h153 => ?_)
       have h154 := h153
       refine g_sel (S' := [_, _]) (vs' := [_, _, _, _, _, _, _, _]) [0, 1] [0, 1, 2, 3, 4, 5, 6, 7] 0 (by decide) (by decide) rfl rfl rfl ?_
       refine p_next (fun w hh => hh.sel [0] [] 0 (by decide) (by decide) rfl rfl rfl) ?_
       exact p_shr (h121 b_23 L_89 L_90 L_91 L_92 L_93 L_94 L_95 l_10 h145 h146 h147 h148 h149 h150 h151 h154) ((.cons rfl (.cons rfl (.cons rfl (.cons rfl (.cons rfl (.cons rfl (.cons rfl (.cons rfl (.cons rfl (.cons rfl (.cons rfl .nil)))))))))))) (fun w hh => hh.sel [0, 1] [1, 2, 3, 4, 5, 6, 7, 0] 0 (by decide) (by decide) rfl rfl rfl)
      refine p_alt rfl ?_ ?_
      ·refine g_allocV (fun w => Try.zeroValue59 w) rfl (fun b_24 h155 => ?_)
       refine p_next (fun w hh => hh.sel [1] [] 0 (by decide) (by decide) rfl rfl rfl) ?_
       exact p_shr (h98 b_23 b_24 L_89 L_90 L_91 L_92 L_93 L_94 L_95 h145 h146 h147 h148 h149 h150 h151) ((.cons rfl (.cons rfl (.cons rfl (.cons rfl (.cons rfl (.cons rfl (.cons rfl (.cons rfl (.cons rfl (.cons rfl (.cons rfl (.cons rfl .nil))))))))))))) (fun w hh => hh.sel [1, 2, 0] [0, 1, 2, 3, 4, 5, 6] 0 (by decide) (by decide) rfl rfl rfl)
      exact p_nil
     refine p_share m_laurellaw01_TideBanks_Q1 (fun g => ∀ (b_25 : Nat) (b_26 : Nat) (L_96 : VL) (L_97 : VL) (L_98 : VL), vk 2 L_96 (RW.enc t39.table) → vk 1 L_97 (RI.enc t39.floors) → vk 3 L_98 (RS.enc t39.sills) → g [(1, .int .i64 place1), (2, .slice qa3 na3 ca3), (3, .slice qa4 na4 ca4), (4, .slice qa5 na5 ca5), (5, ptr b 0), (11, ptr b_25 0), (12, ptr b_26 0), (39, .agg #[sL L_96, .int .i64 t39.wind.lo, .int .i64 t39.wind.hi, sL L_97, sL L_98]), (40, .agg #[.slice qa0 na0 ca0, .int .i64 s0.wind.lo, .int .i64 s0.wind.hi, .slice qa1 na1 ca1, .slice qa2 na2 ca2]), (42, .slice qa3 na3 ca3), (44, .slice qa4 na4 ca4), (46, .slice qa5 na5 ca5)] [(b, .cells #[.slice qa0 na0 ca0, .int .i64 s0.wind.lo, .int .i64 s0.wind.hi, .slice qa1 na1 ca1, .slice qa2 na2 ca2] 29 (0, 0)), (b_25, .cells #[slv none 0 0, .int .i64 0, .int .i64 0, slv none 0 0, slv none 0 0] 29 (0, 0)), (b_26, .cells #[slv none 0 0, .int .i64 0, .int .i64 0, slv none 0 0, slv none 0 0] 59 (0, 0))] [vL 68 L_96 (RW.enc t39.table), vL 3 L_97 (RI.enc t39.floors), vL 51 L_98 (RS.enc t39.sills)]) ?_ (fun h159 => ?_)
     ·intro b_25 b_26 L_96 L_97 L_98 h156 h157 h158
      refine p_one rfl ?_
      refine g_callH [] [] rfl rfl rfl rfl rfl rfl rfl (fun a w => Try.call32 a w) (fun w hh => c_laurellaw01_theirs s0 qa0 na0 ca0 qa1 na1 ca1 qa2 na2 ca2 w (HV.callee (S0 := []) (vs0 := []) hh (roC (hh.rsep (S0 := []) (vs0 := []) 0 rfl) (roC (hh.rsep (S0 := []) (vs0 := []) 1 rfl) (roC (hh.rsep (S0 := []) (vs0 := []) 2 rfl) roN)))) hna0 hqa0 hla0 hna1 hqa1 hla1 hna2 hqa2 hla2 h24) (fun l_11 h160 => ?_)
      obtain ⟨h161, h162, h163⟩ := h160
      refine g_sel (S' := [_, _, _]) (vs' := [_, _, _, _, _, _]) [0, 1, 2] [0, 1, 2, 3, 4, 5] 0 (by decide) (by decide) rfl rfl rfl ?_
      refine p_next (fun w hh => hh.sel [0] [] 0 (by decide) (by decide) rfl rfl rfl) ?_
      exact p_shr (h131 b_25 b_26 L_96 L_97 L_98 l_11.1 l_11.2.1 l_11.2.2 h156 h157 h158 h161 h162 h163) ((.cons rfl (.cons rfl (.cons rfl (.cons rfl (.cons rfl (.cons rfl (.cons rfl (.cons rfl (.cons rfl (.cons rfl (.cons rfl (.cons rfl .nil))))))))))))) (fun w hh => hh.sel [0, 1, 2] [3, 4, 5, 0, 1, 2] 0 (by decide) (by decide) rfl rfl rfl)
     refine p_share m_laurellaw01_TideBanks_Q8 (fun g => ∀ (b_27 : Nat) (L_99 : VL) (L_100 : VL) (L_101 : VL) (L_102 : VL) (L_103 : VL) (L_104 : VL), vk 2 L_99 (RW.enc t39.table) → vk 1 L_100 (RI.enc t39.floors) → vk 3 L_101 (RS.enc t39.sills) → vk 2 L_102 (RW.enc t41.table) → vk 1 L_103 (RI.enc t41.floors) → vk 3 L_104 (RS.enc t41.sills) → g [(1, .int .i64 place1), (2, .slice qa3 na3 ca3), (3, .slice qa4 na4 ca4), (4, .slice qa5 na5 ca5), (5, ptr b 0), (12, ptr b_27 0), (39, .agg #[sL L_99, .int .i64 t39.wind.lo, .int .i64 t39.wind.hi, sL L_100, sL L_101]), (41, .agg #[sL L_102, .int .i64 t41.wind.lo, .int .i64 t41.wind.hi, sL L_103, sL L_104]), (42, .slice qa3 na3 ca3), (44, .slice qa4 na4 ca4), (46, .slice qa5 na5 ca5)] [(b, .cells #[.slice qa0 na0 ca0, .int .i64 s0.wind.lo, .int .i64 s0.wind.hi, .slice qa1 na1 ca1, .slice qa2 na2 ca2] 29 (0, 0)), (b_27, .cells #[slv none 0 0, .int .i64 0, .int .i64 0, slv none 0 0, slv none 0 0] 59 (0, 0))] [vL 68 L_99 (RW.enc t39.table), vL 3 L_100 (RI.enc t39.floors), vL 51 L_101 (RS.enc t39.sills), vL 158 L_102 (RW.enc t41.table), vL 3 L_103 (RI.enc t41.floors), vL 159 L_104 (RS.enc t41.sills)]) ?_ (fun h170 => ?_)
     ·intro b_27 L_99 L_100 L_101 L_102 L_103 L_104 h164 h165 h166 h167 h168 h169
      refine p_br ?_
      refine p_alt rfl ?_ ?_
      ·refine g_callH [] [] rfl rfl rfl rfl rfl rfl rfl (fun a w => Try.call65 a w) (fun w hh => c_laurelkit_Dup_int way2 qa3 na3 ca3 w (HV.callee (S0 := []) (vs0 := []) hh (roC (hh.rsep (S0 := []) (vs0 := []) 3 rfl) roN)) hna3 hqa3 hla3 h25) (fun l_12 h171 => ?_)
       have h172 := h171
       refine g_sel (S' := [_, _]) (vs' := [_, _, _, _, _, _, _]) [0, 1] [0, 1, 2, 3, 4, 5, 6] 0 (by decide) (by decide) rfl rfl rfl ?_
       refine p_next (fun w hh => hh.sel [0] [] 0 (by decide) (by decide) rfl rfl rfl) ?_
       exact p_shr (h141 b_27 L_99 L_100 L_101 L_102 L_103 L_104 l_12 h164 h165 h166 h167 h168 h169 h172) ((.cons rfl (.cons rfl (.cons rfl (.cons rfl (.cons rfl (.cons rfl (.cons rfl (.cons rfl (.cons rfl (.cons rfl (.cons rfl .nil)))))))))))) (fun w hh => hh.sel [0, 1] [1, 2, 3, 4, 5, 6, 0] 0 (by decide) (by decide) rfl rfl rfl)
      refine p_alt rfl ?_ ?_
      ·refine g_allocV (fun w => Try.zeroValue29 w) rfl (fun b_28 h173 => ?_)
       refine p_next (fun w hh => hh.sel [1] [] 0 (by decide) (by decide) rfl rfl rfl) ?_
       exact p_shr (h131 b_28 b_27 L_99 L_100 L_101 L_102 L_103 L_104 h164 h165 h166 h167 h168 h169) ((.cons rfl (.cons rfl (.cons rfl (.cons rfl (.cons rfl (.cons rfl (.cons rfl (.cons rfl (.cons rfl (.cons rfl (.cons rfl (.cons rfl .nil))))))))))))) (fun w hh => hh.sel [1, 0, 2] [0, 1, 2, 3, 4, 5] 0 (by decide) (by decide) rfl rfl rfl)
      exact p_nil
     refine p_share m_laurellaw01_TideBanks_Q14 (fun g => ∀ (b_29 : Nat) (L_105 : VL) (L_106 : VL) (L_107 : VL) (L_108 : VL) (L_109 : VL) (L_110 : VL), vk 2 L_105 (RW.enc t39.table) → vk 1 L_106 (RI.enc t39.floors) → vk 3 L_107 (RS.enc t39.sills) → vk 2 L_108 (RW.enc t41.table) → vk 1 L_109 (RI.enc t41.floors) → vk 3 L_110 (RS.enc t41.sills) → g [(1, .int .i64 place1), (2, .slice qa3 na3 ca3), (3, .slice qa4 na4 ca4), (4, .slice qa5 na5 ca5), (5, ptr b 0), (11, ptr b_29 0), (39, .agg #[sL L_105, .int .i64 t39.wind.lo, .int .i64 t39.wind.hi, sL L_106, sL L_107]), (41, .agg #[sL L_108, .int .i64 t41.wind.lo, .int .i64 t41.wind.hi, sL L_109, sL L_110]), (42, .slice qa3 na3 ca3), (44, .slice qa4 na4 ca4), (46, .slice qa5 na5 ca5)] [(b, .cells #[.slice qa0 na0 ca0, .int .i64 s0.wind.lo, .int .i64 s0.wind.hi, .slice qa1 na1 ca1, .slice qa2 na2 ca2] 29 (0, 0)), (b_29, .cells #[slv none 0 0, .int .i64 0, .int .i64 0, slv none 0 0, slv none 0 0] 29 (0, 0))] [vL 68 L_105 (RW.enc t39.table), vL 3 L_106 (RI.enc t39.floors), vL 51 L_107 (RS.enc t39.sills), vL 158 L_108 (RW.enc t41.table), vL 3 L_109 (RI.enc t41.floors), vL 159 L_110 (RS.enc t41.sills)]) ?_ (fun h180 => ?_)
     ·intro b_29 L_105 L_106 L_107 L_108 L_109 L_110 h174 h175 h176 h177 h178 h179
      refine p_br ?_
      refine p_alt rfl ?_ ?_
      ·refine g_callH [] [] rfl rfl rfl rfl rfl rfl rfl (fun a w => Try.call65 a w) (fun w hh => c_laurelkit_Dup_int way2 qa3 na3 ca3 w (HV.callee (S0 := []) (vs0 := []) hh (roC (hh.rsep (S0 := []) (vs0 := []) 3 rfl) roN)) hna3 hqa3 hla3 h25) (fun l_13 h181 => ?_)
       have h182 := h181
       refine g_sel (S' := [_, _]) (vs' := [_, _, _, _, _, _, _]) [0, 1] [0, 1, 2, 3, 4, 5, 6] 0 (by decide) (by decide) rfl rfl rfl ?_
       refine p_next (fun w hh => hh.sel [0] [] 0 (by decide) (by decide) rfl rfl rfl) ?_
       exact p_shr (h152 b_29 L_105 L_106 L_107 L_108 L_109 L_110 l_13 h174 h175 h176 h177 h178 h179 h182) ((.cons rfl (.cons rfl (.cons rfl (.cons rfl (.cons rfl (.cons rfl (.cons rfl (.cons rfl (.cons rfl (.cons rfl (.cons rfl .nil)))))))))))) (fun w hh => hh.sel [0, 1] [1, 2, 3, 4, 5, 6, 0] 0 (by decide) (by decide) rfl rfl rfl)
      refine p_alt rfl ?_ ?_
      ·refine g_allocV (fun w => Try.zeroValue59 w) rfl (fun b_30 h183 => ?_)
       refine p_next (fun w hh => hh.sel [1] [] 0 (by decide) (by decide) rfl rfl rfl) ?_
       exact p_shr (h131 b_29 b_30 L_105 L_106 L_107 L_108 L_109 L_110 h174 h175 h176 h177 h178 h179) ((.cons rfl (.cons rfl (.cons rfl (.cons rfl (.cons rfl (.cons rfl (.cons rfl (.cons rfl (.cons rfl (.cons rfl (.cons rfl (.cons rfl .nil))))))))))))) (fun w hh => hh.sel [1, 2, 0] [0, 1, 2, 3, 4, 5] 0 (by decide) (by decide) rfl rfl rfl)
      exact p_nil
     refine p_share m_laurellaw01_TideBanks_Q0 (fun g => ∀ (b_31 : Nat) (b_32 : Nat), g [(1, .int .i64 place1), (2, .slice qa3 na3 ca3), (3, .slice qa4 na4 ca4), (4, .slice qa5 na5 ca5), (5, ptr b 0), (11, ptr b_31 0), (12, ptr b_32 0), (38, .agg #[.slice qa0 na0 ca0, .int .i64 s0.wind.lo, .int .i64 s0.wind.hi, .slice qa1 na1 ca1, .slice qa2 na2 ca2]), (40, .agg #[.slice qa0 na0 ca0, .int .i64 s0.wind.lo, .int .i64 s0.wind.hi, .slice qa1 na1 ca1, .slice qa2 na2 ca2]), (42, .slice qa3 na3 ca3), (44, .slice qa4 na4 ca4), (46, .slice qa5 na5 ca5)] [(b, .cells #[.slice qa0 na0 ca0, .int .i64 s0.wind.lo, .int .i64 s0.wind.hi, .slice qa1 na1 ca1, .slice qa2 na2 ca2] 29 (0, 0)), (b_31, .cells #[slv none 0 0, .int .i64 0, .int .i64 0, slv none 0 0, slv none 0 0] 29 (0, 0)), (b_32, .cells #[slv none 0 0, .int .i64 0, .int .i64 0, slv none 0 0, slv none 0 0] 59 (0, 0))] []) ?_ (fun h184 => ?_)
     ·intro b_31 b_32
      refine p_one rfl ?_
      refine g_callH [] [] rfl rfl rfl rfl rfl rfl rfl (fun a w => Try.call25 a w) (fun w hh => c_laurellaw01_Own s0 qa0 na0 ca0 qa1 na1 ca1 qa2 na2 ca2 w (HV.callee (S0 := []) (vs0 := []) hh (roC (hh.rsep (S0 := []) (vs0 := []) 0 rfl) (roC (hh.rsep (S0 := []) (vs0 := []) 1 rfl) (roC (hh.rsep (S0 := []) (vs0 := []) 2 rfl) roN)))) hna0 hqa0 hla0 hna1 hqa1 hla1 hna2 hqa2 hla2 h23) (fun l_14 h185 => ?_)
      obtain ⟨h186, h187, h188⟩ := h185
      refine g_sel (S' := [_, _, _]) (vs' := [_, _, _]) [0, 1, 2] [0, 1, 2] 0 (by decide) (by decide) rfl rfl rfl ?_
      refine p_next (fun w hh => hh.sel [0] [] 0 (by decide) (by decide) rfl rfl rfl) ?_
      exact p_shr (h159 b_31 b_32 l_14.1 l_14.2.1 l_14.2.2 h186 h187 h188) ((.cons rfl (.cons rfl (.cons rfl (.cons rfl (.cons rfl (.cons rfl (.cons rfl (.cons rfl (.cons rfl (.cons rfl (.cons rfl (.cons rfl .nil))))))))))))) (fun w hh => hh)
     refine p_share m_laurellaw01_TideBanks_Q9 (fun g => ∀ (b_33 : Nat) (L_111 : VL) (L_112 : VL) (L_113 : VL), vk 2 L_111 (RW.enc t39.table) → vk 1 L_112 (RI.enc t39.floors) → vk 3 L_113 (RS.enc t39.sills) → g [(1, .int .i64 place1), (2, .slice qa3 na3 ca3), (3, .slice qa4 na4 ca4), (4, .slice qa5 na5 ca5), (5, ptr b 0), (12, ptr b_33 0), (39, .agg #[sL L_111, .int .i64 t39.wind.lo, .int .i64 t39.wind.hi, sL L_112, sL L_113]), (40, .agg #[.slice qa0 na0 ca0, .int .i64 s0.wind.lo, .int .i64 s0.wind.hi, .slice qa1 na1 ca1, .slice qa2 na2 ca2]), (42, .slice qa3 na3 ca3), (44, .slice qa4 na4 ca4), (46, .slice qa5 na5 ca5)] [(b, .cells #[.slice qa0 na0 ca0, .int .i64 s0.wind.lo, .int .i64 s0.wind.hi, .slice qa1 na1 ca1, .slice qa2 na2 ca2] 29 (0, 0)), (b_33, .cells #[slv none 0 0, .int .i64 0, .int .i64 0, slv none 0 0, slv none 0 0] 59 (0, 0))] [vL 68 L_111 (RW.enc t39.table), vL 3 L_112 (RI.enc t39.floors), vL 51 L_113 (RS.enc t39.sills)]) ?_ (fun h192 => ?_)
     ·intro b_33 L_111 L_112 L_113 h189 h190 h191
      refine p_br ?_
      refine p_alt rfl ?_ ?_
      ·refine g_callH [] [] rfl rfl rfl rfl rfl rfl rfl (fun a w => Try.call32 a w) (fun w hh => c_laurellaw01_theirs s0 qa0 na0 ca0 qa1 na1 ca1 qa2 na2 ca2 w (HV.callee (S0 := []) (vs0 := []) hh (roC (hh.rsep (S0 := []) (vs0 := []) 0 rfl) (roC (hh.rsep (S0 := []) (vs0 := []) 1 rfl) (roC (hh.rsep (S0 := []) (vs0 := []) 2 rfl) roN)))) hna0 hqa0 hla0 hna1 hqa1 hla1 hna2 hqa2 hla2 h24) (fun l_15 h193 => ?_)
       obtain ⟨h194, h195, h196⟩ := h193
       refine g_sel (S' := [_, _]) (vs' := [_, _, _, _, _, _]) [0, 1] [0, 1, 2, 3, 4, 5] 0 (by decide) (by decide) rfl rfl rfl ?_
       refine p_next (fun w hh => hh.sel [0] [] 0 (by decide) (by decide) rfl rfl rfl) ?_
       exact p_shr (h170 b_33 L_111 L_112 L_113 l_15.1 l_15.2.1 l_15.2.2 h189 h190 h191 h194 h195 h196) ((.cons rfl (.cons rfl (.cons rfl (.cons rfl (.cons rfl (.cons rfl (.cons rfl (.cons rfl (.cons rfl (.cons rfl (.cons rfl .nil)))))))))))) (fun w hh => hh.sel [0, 1] [3, 4, 5, 0, 1, 2] 0 (by decide) (by decide) rfl rfl rfl)
      refine p_alt rfl ?_ ?_
      ·refine g_allocV (fun w => Try.zeroValue29 w) rfl (fun b_34 h197 => ?_)
       refine p_next (fun w hh => hh.sel [1] [] 0 (by decide) (by decide) rfl rfl rfl) ?_
       exact p_shr (h159 b_34 b_33 L_111 L_112 L_113 h189 h190 h191) ((.cons rfl (.cons rfl (.cons rfl (.cons rfl (.cons rfl (.cons rfl (.cons rfl (.cons rfl (.cons rfl (.cons rfl (.cons rfl (.cons rfl .nil))))))))))))) (fun w hh => hh.sel [1, 0, 2] [0, 1, 2] 0 (by decide) (by decide) rfl rfl rfl)
      exact p_nil
     refine p_share m_laurellaw01_TideBanks_Q15 (fun g => ∀ (b_35 : Nat) (L_114 : VL) (L_115 : VL) (L_116 : VL), vk 2 L_114 (RW.enc t39.table) → vk 1 L_115 (RI.enc t39.floors) → vk 3 L_116 (RS.enc t39.sills) → g [(1, .int .i64 place1), (2, .slice qa3 na3 ca3), (3, .slice qa4 na4 ca4), (4, .slice qa5 na5 ca5), (5, ptr b 0), (11, ptr b_35 0), (39, .agg #[sL L_114, .int .i64 t39.wind.lo, .int .i64 t39.wind.hi, sL L_115, sL L_116]), (40, .agg #[.slice qa0 na0 ca0, .int .i64 s0.wind.lo, .int .i64 s0.wind.hi, .slice qa1 na1 ca1, .slice qa2 na2 ca2]), (42, .slice qa3 na3 ca3), (44, .slice qa4 na4 ca4), (46, .slice qa5 na5 ca5)] [(b, .cells #[.slice qa0 na0 ca0, .int .i64 s0.wind.lo, .int .i64 s0.wind.hi, .slice qa1 na1 ca1, .slice qa2 na2 ca2] 29 (0, 0)), (b_35, .cells #[slv none 0 0, .int .i64 0, .int .i64 0, slv none 0 0, slv none 0 0] 29 (0, 0))] [vL 68 L_114 (RW.enc t39.table), vL 3 L_115 (RI.enc t39.floors), vL 51 L_116 (RS.enc t39.sills)]) ?_ (fun h201 => ?_)
     ·intro b_35 L_114 L_115 L_116 h198 h199 h200
      refine p_br ?_
      refine p_alt rfl ?_ ?_
      ·refine g_callH [] [] rfl rfl rfl rfl rfl rfl rfl (fun a w => Try.call32 a w) (fun w hh => c_laurellaw01_theirs s0 qa0 na0 ca0 qa1 na1 ca1 qa2 na2 ca2 w (HV.callee (S0 := []) (vs0 := []) hh (roC (hh.rsep (S0 := []) (vs0 := []) 0 rfl) (roC (hh.rsep (S0 := []) (vs0 := []) 1 rfl) (roC (hh.rsep (S0 := []) (vs0 := []) 2 rfl) roN)))) hna0 hqa0 hla0 hna1 hqa1 hla1 hna2 hqa2 hla2 h24) (fun l_16 h202 => ?_)
       obtain ⟨h203, h204, h205⟩ := h202
       refine g_sel (S' := [_, _]) (vs' := [_, _, _, _, _, _]) [0, 1] [0, 1, 2, 3, 4, 5] 0 (by decide) (by decide) rfl rfl rfl ?_
       refine p_next (fun w hh => hh.sel [0] [] 0 (by decide) (by decide) rfl rfl rfl) ?_
       exact p_shr (h180 b_35 L_114 L_115 L_116 l_16.1 l_16.2.1 l_16.2.2 h198 h199 h200 h203 h204 h205) ((.cons rfl (.cons rfl (.cons rfl (.cons rfl (.cons rfl (.cons rfl (.cons rfl (.cons rfl (.cons rfl (.cons rfl (.cons rfl .nil)))))))))))) (fun w hh => hh.sel [0, 1] [3, 4, 5, 0, 1, 2] 0 (by decide) (by decide) rfl rfl rfl)
      refine p_alt rfl ?_ ?_
      ·refine g_allocV (fun w => Try.zeroValue59 w) rfl (fun b_36 h206 => ?_)
       refine p_next (fun w hh => hh.sel [1] [] 0 (by decide) (by decide) rfl rfl rfl) ?_
       exact p_shr (h159 b_35 b_36 L_114 L_115 L_116 h198 h199 h200) ((.cons rfl (.cons rfl (.cons rfl (.cons rfl (.cons rfl (.cons rfl (.cons rfl (.cons rfl (.cons rfl (.cons rfl (.cons rfl (.cons rfl .nil))))))))))))) (fun w hh => hh.sel [1, 2, 0] [0, 1, 2] 0 (by decide) (by decide) rfl rfl rfl)
      exact p_nil
     refine p_br ?_
     refine p_alt rfl ?_ ?_
     ·refine g_callH [] [] rfl rfl rfl rfl rfl rfl rfl (fun a w => Try.call25 a w) (fun w hh => c_laurellaw01_Own s0 qa0 na0 ca0 qa1 na1 ca1 qa2 na2 ca2 w (HV.callee (S0 := []) (vs0 := []) hh (roC (hh.rsep (S0 := []) (vs0 := []) 0 rfl) (roC (hh.rsep (S0 := []) (vs0 := []) 1 rfl) (roC (hh.rsep (S0 := []) (vs0 := []) 2 rfl) roN)))) hna0 hqa0 hla0 hna1 hqa1 hla1 hna2 hqa2 hla2 h23) (fun l_17 h207 => ?_)
      obtain ⟨h208, h209, h210⟩ := h207
      refine g_sel (S' := [_]) (vs' := [_, _, _]) [0] [0, 1, 2] 0 (by decide) (by decide) rfl rfl rfl ?_
      refine p_next (fun w hh => hh.sel [0] [] 0 (by decide) (by decide) rfl rfl rfl) ?_
      refine p_br ?_
      refine p_alt rfl ?_ ?_
      ·refine g_callH [] [] rfl rfl rfl rfl rfl rfl rfl (fun a w => Try.call32 a w) (fun w hh => c_laurellaw01_theirs s0 qa0 na0 ca0 qa1 na1 ca1 qa2 na2 ca2 w (HV.callee (S0 := []) (vs0 := []) hh (roC (hh.rsep (S0 := []) (vs0 := []) 0 rfl) (roC (hh.rsep (S0 := []) (vs0 := []) 1 rfl) (roC (hh.rsep (S0 := []) (vs0 := []) 2 rfl) roN)))) hna0 hqa0 hla0 hna1 hqa1 hla1 hna2 hqa2 hla2 h24) (fun l_18 h211 => ?_)
       obtain ⟨h212, h213, h214⟩ := h211
       refine g_sel (S' := [_]) (vs' := [_, _, _, _, _, _]) [0] [0, 1, 2, 3, 4, 5] 0 (by decide) (by decide) rfl rfl rfl ?_
       refine p_next (fun w hh => hh.sel [0] [] 0 (by decide) (by decide) rfl rfl rfl) ?_
       refine p_br ?_
       refine p_alt rfl ?_ ?_
       ·refine g_callH [] [] rfl rfl rfl rfl rfl rfl rfl (fun a w => Try.call65 a w) (fun w hh => c_laurelkit_Dup_int way2 qa3 na3 ca3 w (HV.callee (S0 := []) (vs0 := []) hh (roC (hh.rsep (S0 := []) (vs0 := []) 3 rfl) roN)) hna3 hqa3 hla3 h25) (fun l_19 h215 => ?_)
        have h216 := h215
        refine g_sel (S' := [_]) (vs' := [_, _, _, _, _, _, _]) [0] [0, 1, 2, 3, 4, 5, 6] 0 (by decide) (by decide) rfl rfl rfl ?_
        refine p_next (fun w hh => hh.sel [0] [] 0 (by decide) (by decide) rfl rfl rfl) ?_
        refine p_br ?_
        refine p_alt rfl ?_ ?_
        ·refine g_callH [] [] rfl rfl rfl rfl rfl rfl rfl (fun a w => Try.call65 a w) (fun w hh => c_laurelkit_Dup_int sills3 qa4 na4 ca4 w (HV.callee (S0 := []) (vs0 := []) hh (roC (hh.rsep (S0 := []) (vs0 := []) 4 rfl) roN)) hna4 hqa4 hla4 h26) (fun l_20 h217 => ?_)
         have h218 := h217
         refine g_sel (S' := [_]) (vs' := [_, _, _, _, _, _, _, _]) [0] [0, 1, 2, 3, 4, 5, 6, 7] 0 (by decide) (by decide) rfl rfl rfl ?_
         refine p_next (fun w hh => hh.sel [0] [] 0 (by decide) (by decide) rfl rfl rfl) ?_
         refine p_br ?_
         refine p_alt rfl ?_ ?_
         ·refine g_callH [] [] rfl rfl rfl rfl rfl rfl rfl (fun a w => Try.call65 a w) (fun w hh => c_laurelkit_Dup_int places4 qa5 na5 ca5 w (HV.callee (S0 := []) (vs0 := []) hh (roC (hh.rsep (S0 := []) (vs0 := []) 5 rfl) roN)) hna5 hqa5 hla5 h27) (fun l_21 h219 => ?_)
          have h220 := h219
          refine g_sel (S' := [_]) (vs' := [_, _, _, _, _, _, _, _, _]) [0] [0, 1, 2, 3, 4, 5, 6, 7, 8] 0 (by decide) (by decide) rfl rfl rfl ?_
          refine p_next (fun w hh => hh.sel [0] [] 0 (by decide) (by decide) rfl rfl rfl) ?_
          refine p_br ?_
          refine p_alt rfl ?_ ?_
          ·refine g_allocV (fun w => Try.zeroValue29 w) rfl (fun b_37 h221 => ?_)
           refine p_next (fun w hh => hh.sel [1] [] 0 (by decide) (by decide) rfl rfl rfl) ?_
           exact p_shr (h89 b_37 l_17.1 l_17.2.1 l_17.2.2 l_18.1 l_18.2.1 l_18.2.2 l_19 l_20 l_21 h208 h209 h210 h212 h213 h214 h216 h218 h220) ((.cons rfl (.cons rfl (.cons rfl (.cons rfl (.cons rfl (.cons rfl (.cons rfl (.cons rfl (.cons rfl (.cons rfl (.cons rfl .nil)))))))))))) (fun w hh => hh.sel [1, 0] [6, 7, 8, 3, 4, 5, 2, 1, 0] 0 (by decide) (by decide) rfl rfl rfl)
          refine p_alt rfl ?_ ?_
          ·refine g_allocV (fun w => Try.zeroValue59 w) rfl (fun b_38 h222 => ?_)
           refine p_next (fun w hh => hh.sel [1] [] 0 (by decide) (by decide) rfl rfl rfl) ?_
           exact p_shr (h78 b_38 l_17.1 l_17.2.1 l_17.2.2 l_18.1 l_18.2.1 l_18.2.2 l_19 l_20 l_21 h208 h209 h210 h212 h213 h214 h216 h218 h220) ((.cons rfl (.cons rfl (.cons rfl (.cons rfl (.cons rfl (.cons rfl (.cons rfl (.cons rfl (.cons rfl (.cons rfl (.cons rfl .nil)))))))))))) (fun w hh => hh.sel [1, 0] [6, 7, 8, 3, 4, 5, 2, 1, 0] 0 (by decide) (by decide) rfl rfl rfl)
          exact p_nil
         refine p_alt rfl ?_ ?_
         ·refine g_allocV (fun w => Try.zeroValue29 w) rfl (fun b_39 h223 => ?_)
          refine p_next (fun w hh => hh.sel [1] [] 0 (by decide) (by decide) rfl rfl rfl) ?_
          exact p_shr (h121 b_39 l_17.1 l_17.2.1 l_17.2.2 l_18.1 l_18.2.1 l_18.2.2 l_19 l_20 h208 h209 h210 h212 h213 h214 h216 h218) ((.cons rfl (.cons rfl (.cons rfl (.cons rfl (.cons rfl (.cons rfl (.cons rfl (.cons rfl (.cons rfl (.cons rfl (.cons rfl .nil)))))))))))) (fun w hh => hh.sel [1, 0] [5, 6, 7, 2, 3, 4, 1, 0] 0 (by decide) (by decide) rfl rfl rfl)
         refine p_alt rfl ?_ ?_
         ·refine g_allocV (fun w => Try.zeroValue59 w) rfl (fun b_40 h224 => ?_)
          refine p_next (fun w hh => hh.sel [1] [] 0 (by decide) (by decide) rfl rfl rfl) ?_
          exact p_shr (h109 b_40 l_17.1 l_17.2.1 l_17.2.2 l_18.1 l_18.2.1 l_18.2.2 l_19 l_20 h208 h209 h210 h212 h213 h214 h216 h218) ((.cons rfl (.cons rfl (.cons rfl (.cons rfl (.cons rfl (.cons rfl (.cons rfl (.cons rfl (.cons rfl (.cons rfl (.cons rfl .nil)))))))))))) (fun w hh => hh.sel [1, 0] [5, 6, 7, 2, 3, 4, 1, 0] 0 (by decide) (by decide) rfl rfl rfl)
         exact p_nil
        refine p_alt rfl ?_ ?_
        ·refine g_allocV (fun w => Try.zeroValue29 w) rfl (fun b_41 h225 => ?_)
         refine p_next (fun w hh => hh.sel [1] [] 0 (by decide) (by decide) rfl rfl rfl) ?_
         exact p_shr (h152 b_41 l_17.1 l_17.2.1 l_17.2.2 l_18.1 l_18.2.1 l_18.2.2 l_19 h208 h209 h210 h212 h213 h214 h216) ((.cons rfl (.cons rfl (.cons rfl (.cons rfl (.cons rfl (.cons rfl (.cons rfl (.cons rfl (.cons rfl (.cons rfl (.cons rfl .nil)))))))))))) (fun w hh => hh.sel [1, 0] [4, 5, 6, 1, 2, 3, 0] 0 (by decide) (by decide) rfl rfl rfl)
        refine p_alt rfl ?_ ?_
        ·refine g_allocV (fun w => Try.zeroValue59 w) rfl (fun b_42 h226 => ?_)
         refine p_next (fun w hh => hh.sel [1] [] 0 (by decide) (by decide) rfl rfl rfl) ?_
         exact p_shr (h141 b_42 l_17.1 l_17.2.1 l_17.2.2 l_18.1 l_18.2.1 l_18.2.2 l_19 h208 h209 h210 h212 h213 h214 h216) ((.cons rfl (.cons rfl (.cons rfl (.cons rfl (.cons rfl (.cons rfl (.cons rfl (.cons rfl (.cons rfl (.cons rfl (.cons rfl .nil)))))))))))) (fun w hh => hh.sel [1, 0] [4, 5, 6, 1, 2, 3, 0] 0 (by decide) (by decide) rfl rfl rfl)
        exact p_nil
       refine p_alt rfl ?_ ?_
       ·refine g_allocV (fun w => Try.zeroValue29 w) rfl (fun b_43 h227 => ?_)
        refine p_next (fun w hh => hh.sel [1] [] 0 (by decide) (by decide) rfl rfl rfl) ?_
        exact p_shr (h180 b_43 l_17.1 l_17.2.1 l_17.2.2 l_18.1 l_18.2.1 l_18.2.2 h208 h209 h210 h212 h213 h214) ((.cons rfl (.cons rfl (.cons rfl (.cons rfl (.cons rfl (.cons rfl (.cons rfl (.cons rfl (.cons rfl (.cons rfl (.cons rfl .nil)))))))))))) (fun w hh => hh.sel [1, 0] [3, 4, 5, 0, 1, 2] 0 (by decide) (by decide) rfl rfl rfl)
       refine p_alt rfl ?_ ?_
       ·refine g_allocV (fun w => Try.zeroValue59 w) rfl (fun b_44 h228 => ?_)
        refine p_next (fun w hh => hh.sel [1] [] 0 (by decide) (by decide) rfl rfl rfl) ?_
        exact p_shr (h170 b_44 l_17.1 l_17.2.1 l_17.2.2 l_18.1 l_18.2.1 l_18.2.2 h208 h209 h210 h212 h213 h214) ((.cons rfl (.cons rfl (.cons rfl (.cons rfl (.cons rfl (.cons rfl (.cons rfl (.cons rfl (.cons rfl (.cons rfl (.cons rfl .nil)))))))))))) (fun w hh => hh.sel [1, 0] [3, 4, 5, 0, 1, 2] 0 (by decide) (by decide) rfl rfl rfl)
       exact p_nil
      refine p_alt rfl ?_ ?_
      ·refine g_allocV (fun w => Try.zeroValue29 w) rfl (fun b_45 h229 => ?_)
       refine p_next (fun w hh => hh.sel [1] [] 0 (by decide) (by decide) rfl rfl rfl) ?_
       exact p_shr (h201 b_45 l_17.1 l_17.2.1 l_17.2.2 h208 h209 h210) ((.cons rfl (.cons rfl (.cons rfl (.cons rfl (.cons rfl (.cons rfl (.cons rfl (.cons rfl (.cons rfl (.cons rfl (.cons rfl .nil)))))))))))) (fun w hh => hh.sel [1, 0] [0, 1, 2] 0 (by decide) (by decide) rfl rfl rfl)
      refine p_alt rfl ?_ ?_
      ·refine g_allocV (fun w => Try.zeroValue59 w) rfl (fun b_46 h230 => ?_)
       refine p_next (fun w hh => hh.sel [1] [] 0 (by decide) (by decide) rfl rfl rfl) ?_
       exact p_shr (h192 b_46 l_17.1 l_17.2.1 l_17.2.2 h208 h209 h210) ((.cons rfl (.cons rfl (.cons rfl (.cons rfl (.cons rfl (.cons rfl (.cons rfl (.cons rfl (.cons rfl (.cons rfl (.cons rfl .nil)))))))))))) (fun w hh => hh.sel [1, 0] [0, 1, 2] 0 (by decide) (by decide) rfl rfl rfl)
      exact p_nil
     refine p_alt rfl ?_ ?_
     ·refine g_allocV (fun w => Try.zeroValue29 w) rfl (fun b_47 h231 => ?_)
      refine p_next (fun w hh => hh.sel [1] [] 0 (by decide) (by decide) rfl rfl rfl) ?_
      refine p_br ?_
      refine p_alt rfl ?_ ?_
      ·refine g_callH [] [] rfl rfl rfl rfl rfl rfl rfl (fun a w => Try.call25 a w) (fun w hh => c_laurellaw01_Own s0 qa0 na0 ca0 qa1 na1 ca1 qa2 na2 ca2 w (HV.callee (S0 := []) (vs0 := []) hh (roC (hh.rsep (S0 := []) (vs0 := []) 0 rfl) (roC (hh.rsep (S0 := []) (vs0 := []) 1 rfl) (roC (hh.rsep (S0 := []) (vs0 := []) 2 rfl) roN)))) hna0 hqa0 hla0 hna1 hqa1 hla1 hna2 hqa2 hla2 h23) (fun l_22 h232 => ?_)
       obtain ⟨h233, h234, h235⟩ := h232
       refine g_sel (S' := [_, _]) (vs' := [_, _, _]) [0, 1] [0, 1, 2] 0 (by decide) (by decide) rfl rfl rfl ?_
       refine p_next (fun w hh => hh.sel [1] [] 0 (by decide) (by decide) rfl rfl rfl) ?_
       exact p_shr (h201 b_47 l_22.1 l_22.2.1 l_22.2.2 h233 h234 h235) ((.cons rfl (.cons rfl (.cons rfl (.cons rfl (.cons rfl (.cons rfl (.cons rfl (.cons rfl (.cons rfl (.cons rfl (.cons rfl .nil)))))))))))) (fun w hh => hh.sel [1, 0] [0, 1, 2] 0 (by decide) (by decide) rfl rfl rfl)
      refine p_alt rfl ?_ ?_
      ·refine g_allocV (fun w => Try.zeroValue59 w) rfl (fun b_48 h236 => ?_)
       refine p_next (fun w hh => hh.sel [2] [] 0 (by decide) (by decide) rfl rfl rfl) ?_
       exact p_shr (h184 b_47 b_48) ((.cons rfl (.cons rfl (.cons rfl (.cons rfl (.cons rfl (.cons rfl (.cons rfl (.cons rfl (.cons rfl (.cons rfl (.cons rfl (.cons rfl .nil))))))))))))) (fun w hh => hh.sel [2, 1, 0] [] 0 (by decide) (by decide) rfl rfl rfl)
      exact p_nil
     refine p_alt rfl ?_ ?_
     ·refine g_allocV (fun w => Try.zeroValue59 w) rfl (fun b_49 h237 => ?_)
      refine p_next (fun w hh => hh.sel [1] [] 0 (by decide) (by decide) rfl rfl rfl) ?_
      refine p_br ?_
      refine p_alt rfl ?_ ?_
      ·refine g_callH [] [] rfl rfl rfl rfl rfl rfl rfl (fun a w => Try.call25 a w) (fun w hh => c_laurellaw01_Own s0 qa0 na0 ca0 qa1 na1 ca1 qa2 na2 ca2 w (HV.callee (S0 := []) (vs0 := []) hh (roC (hh.rsep (S0 := []) (vs0 := []) 0 rfl) (roC (hh.rsep (S0 := []) (vs0 := []) 1 rfl) (roC (hh.rsep (S0 := []) (vs0 := []) 2 rfl) roN)))) hna0 hqa0 hla0 hna1 hqa1 hla1 hna2 hqa2 hla2 h23) (fun l_23 h238 => ?_)
       obtain ⟨h239, h240, h241⟩ := h238
       refine g_sel (S' := [_, _]) (vs' := [_, _, _]) [0, 1] [0, 1, 2] 0 (by decide) (by decide) rfl rfl rfl ?_
       refine p_next (fun w hh => hh.sel [1] [] 0 (by decide) (by decide) rfl rfl rfl) ?_
       exact p_shr (h192 b_49 l_23.1 l_23.2.1 l_23.2.2 h239 h240 h241) ((.cons rfl (.cons rfl (.cons rfl (.cons rfl (.cons rfl (.cons rfl (.cons rfl (.cons rfl (.cons rfl (.cons rfl (.cons rfl .nil)))))))))))) (fun w hh => hh.sel [1, 0] [0, 1, 2] 0 (by decide) (by decide) rfl rfl rfl)
      refine p_alt rfl ?_ ?_
      ·refine g_allocV (fun w => Try.zeroValue29 w) rfl (fun b_50 h242 => ?_)
       refine p_next (fun w hh => hh.sel [2] [] 0 (by decide) (by decide) rfl rfl rfl) ?_
       exact p_shr (h184 b_50 b_49) ((.cons rfl (.cons rfl (.cons rfl (.cons rfl (.cons rfl (.cons rfl (.cons rfl (.cons rfl (.cons rfl (.cons rfl (.cons rfl (.cons rfl .nil))))))))))))) (fun w hh => hh.sel [2, 0, 1] [] 0 (by decide) (by decide) rfl rfl rfl)
      exact p_nil
     exact p_nil
    ·intro l_3 hj
     obtain ⟨h14, h15, h16, h17, h18, h19, h20, h21, h22⟩ := hj
     replace hm := h13
     refine g_n_then ?_
     refine g_seq ?_
     refine g_region ?_
     refine g_val rfl rfl rfl (fun w hh => v_loadAgg (vs := [_, _, _, _, _]) (Try.isAgg29 w) (Try.sizeOf29 w) rfl (hh.cells 1 rfl rfl)) ?_
     refine g_val rfl rfl rfl (fun _ _ => v_move rfl) ?_
     refine g_val rfl rfl rfl (fun _ _ => v_move rfl) ?_
     obtain ⟨t52, h243, hm⟩ := bindO hm
     refine g_callH [] [] rfl rfl rfl rfl rfl rfl rfl (fun a w => Try.call66 a w) (fun w hh => c_tide_Crest_1 o_1.own11 place1 o_1.a13 l_3.2.2.2.2.2.1.q l_3.2.2.2.2.2.1.n l_3.2.2.2.2.2.1.cap l_3.2.2.2.2.2.2.1.q l_3.2.2.2.2.2.2.1.n l_3.2.2.2.2.2.2.1.cap l_3.2.2.2.2.2.2.2.1.q l_3.2.2.2.2.2.2.2.1.n l_3.2.2.2.2.2.2.2.1.cap l_3.2.2.1.q l_3.2.2.1.n l_3.2.2.1.cap w (HV.callee (S0 := []) (vs0 := []) hh (roC (hh.vsep (S0 := []) (vs0 := []) 3 rfl h17) (roC (hh.vsep (S0 := []) (vs0 := []) 4 rfl h18) (roC (hh.vsep (S0 := []) (vs0 := []) 5 rfl h19) (roC (hh.vsep (S0 := []) (vs0 := []) 0 rfl h14) roN))))) (vlen RW h17 rfl) (vne h17) (h17).hle (vlen RI h18 rfl) (vne h18) (h18).hle (vlen RS h19 rfl) (vne h19) (h19).hle (vlen RI h14 rfl) (vne h14) (h14).hle h243) (fun l_24 h244 => ?_)
     refine g_val rfl rfl rfl (fun _ _ => v_move rfl) ?_
     refine g_val rfl rfl rfl (fun _ _ => v_extract rfl rfl) ?_
     refine g_val rfl rfl rfl (fun _ _ => v_extract rfl rfl) ?_
     refine g_val rfl rfl rfl (fun _ _ => v_assign rfl) ?_
     refine g_val rfl rfl rfl (fun _ _ => v_assign rfl) ?_
     refine g_nil ?_
     refine g_n_then ?_
     refine g_seq ?_
     refine g_region ?_
     refine g_val rfl rfl rfl (fun w hh => v_loadAgg (vs := [_, _, _, _, _]) (Try.isAgg59 w) (Try.sizeOf59 w) rfl (hh.cells 2 rfl rfl)) ?_
     refine g_val rfl rfl rfl (fun _ _ => v_move rfl) ?_
     refine g_val rfl rfl rfl (fun _ _ => v_move rfl) ?_
     obtain ⟨t59, h245, hm⟩ := bindO hm
     refine g_callH [] [] rfl rfl rfl rfl rfl rfl rfl (fun a w => Try.call67 a w) (fun w hh => c_laurelref01_Crest o_1.x12 place1 way2 (qA l_3.2.2.2.2.2.2.2.2.1.q) l_3.2.2.2.2.2.2.2.2.1.n l_3.2.2.2.2.2.2.2.2.1.cap (qA l_3.2.2.2.2.2.2.2.2.2.1.q) l_3.2.2.2.2.2.2.2.2.2.1.n l_3.2.2.2.2.2.2.2.2.2.1.cap (qA l_3.2.2.2.2.2.2.2.2.2.2.q) l_3.2.2.2.2.2.2.2.2.2.2.n l_3.2.2.2.2.2.2.2.2.2.2.cap qa3 na3 ca3 w (HV.callee (S0 := []) (vs0 := []) hh (roC (hh.vsepA (S0 := []) (vs0 := []) 6 rfl h20) (roC (hh.vsepA (S0 := []) (vs0 := []) 7 rfl h21) (roC (hh.vsepA (S0 := []) (vs0 := []) 8 rfl h22) (roC (hh.rsep (S0 := []) (vs0 := []) 3 rfl) roN))))) (vlen RW h20 rfl) (AOK.q (vne h20)) (h20).hle (vlen RI h21 rfl) (AOK.q (vne h21)) (h21).hle (vlen RS h22 rfl) (AOK.q (vne h22)) (h22).hle hna3 hqa3 hla3 h245) (fun l_25 h246 => ?_)
     refine g_val rfl rfl rfl (fun _ _ => v_move rfl) ?_
     refine g_val rfl rfl rfl (fun _ _ => v_extract rfl rfl) ?_
     refine g_val rfl rfl rfl (fun _ _ => v_extract rfl rfl) ?_
     refine g_val rfl rfl rfl (fun _ _ => v_assign rfl) ?_
     refine g_val rfl rfl rfl (fun _ _ => v_assign rfl) ?_
     refine g_nil ?_
     refine g_n_then ?_
     refine g_seq ?_
     refine g_seq ?_
     obtain ⟨o_2, h247, h248⟩ := bindO hm
     refine g_cut (ι := Unit) (fun l_26 => True) (fun l_26 => [(1, .int .i64 place1), (2, .slice qa3 na3 ca3), (3, .slice qa4 na4 ca4), (4, .slice qa5 na5 ca5), (5, ptr b 0), (11, ptr l_3.1 0), (12, ptr l_3.2.1 0), (13, slv l_3.2.2.1.q l_3.2.2.1.n l_3.2.2.1.cap), (14, slv l_3.2.2.2.1.q l_3.2.2.2.1.n l_3.2.2.2.1.cap), (15, slv l_3.2.2.2.2.1.q l_3.2.2.2.2.1.n l_3.2.2.2.2.1.cap), (69, .bool o_2)]) (fun l_26 => [(b, .cells #[.slice qa0 na0 ca0, .int .i64 s0.wind.lo, .int .i64 s0.wind.hi, .slice qa1 na1 ca1, .slice qa2 na2 ca2] 29 (0, 0)), (l_3.1, .cells #[slv l_3.2.2.2.2.2.1.q l_3.2.2.2.2.2.1.n l_3.2.2.2.2.2.1.cap, .int .i64 o_1.own11.wind.lo, .int .i64 o_1.own11.wind.hi, slv l_3.2.2.2.2.2.2.1.q l_3.2.2.2.2.2.2.1.n l_3.2.2.2.2.2.2.1.cap, slv l_3.2.2.2.2.2.2.2.1.q l_3.2.2.2.2.2.2.2.1.n l_3.2.2.2.2.2.2.2.1.cap] 29 (0, 0)), (l_3.2.1, .cells #[slv l_3.2.2.2.2.2.2.2.2.1.q l_3.2.2.2.2.2.2.2.2.1.n l_3.2.2.2.2.2.2.2.2.1.cap, .int .i64 o_1.x12.wind.lo, .int .i64 o_1.x12.wind.hi, slv l_3.2.2.2.2.2.2.2.2.2.1.q l_3.2.2.2.2.2.2.2.2.2.1.n l_3.2.2.2.2.2.2.2.2.2.1.cap, slv l_3.2.2.2.2.2.2.2.2.2.2.q l_3.2.2.2.2.2.2.2.2.2.2.n l_3.2.2.2.2.2.2.2.2.2.2.cap] 59 (0, 0))]) (fun l_26 => [⟨3, RI.enc o_1.a13, l_3.2.2.1.sp, l_3.2.2.1.q⟩, ⟨3, RI.enc o_1.b14, l_3.2.2.2.1.sp, l_3.2.2.2.1.q⟩, ⟨3, RI.enc o_1.c15, l_3.2.2.2.2.1.sp, l_3.2.2.2.2.1.q⟩, ⟨68, RW.enc o_1.own11.table, l_3.2.2.2.2.2.1.sp, l_3.2.2.2.2.2.1.q⟩, ⟨3, RI.enc o_1.own11.floors, l_3.2.2.2.2.2.2.1.sp, l_3.2.2.2.2.2.2.1.q⟩, ⟨51, RS.enc o_1.own11.sills, l_3.2.2.2.2.2.2.2.1.sp, l_3.2.2.2.2.2.2.2.1.q⟩, ⟨158, RW.enc o_1.x12.table, l_3.2.2.2.2.2.2.2.2.1.sp, l_3.2.2.2.2.2.2.2.2.1.q⟩, ⟨3, RI.enc o_1.x12.floors, l_3.2.2.2.2.2.2.2.2.2.1.sp, l_3.2.2.2.2.2.2.2.2.2.1.q⟩, ⟨159, RS.enc o_1.x12.sills, l_3.2.2.2.2.2.2.2.2.2.2.sp, l_3.2.2.2.2.2.2.2.2.2.2.q⟩]) ?_ ?_
     ·replace hm := h247
      refine g_region ?_
      refine g_val rfl rfl rfl (fun _ _ => v_move rfl) ?_
      refine g_val rfl rfl rfl (fun _ _ => v_move rfl) ?_
      refine g_val rfl rfl rfl (fun _ _ => v_neq rfl rfl) ?_
      refine g_val rfl rfl rfl (fun _ _ => v_move rfl) ?_
      refine g_case 65 rfl (fun h249 => ?_) (fun h249 => ?_)
      ·replace hm := ifF (of_ndec_true h249) hm
       refine g_skipG rfl rfl rfl rfl rfl rfl ?_
       refine g_skipG rfl rfl rfl rfl rfl rfl ?_
       refine g_skipG rfl rfl rfl rfl rfl rfl ?_
       refine g_val rfl rfl rfl (fun _ _ => v_pickT rfl rfl) ?_
       refine g_nil ?_
       obtain rfl := Option.some.inj hm
       exact g_leaf () (trivial) ((.cons rfl (.cons rfl (.cons rfl (.cons rfl (.cons rfl (.cons rfl (.cons rfl (.cons rfl (.cons rfl (.cons rfl (.cons rfl .nil)))))))))))) (fun w hh => hh)
      ·replace hm := ifT (of_ndec_false h249) hm
       refine v_unguard rfl rfl ?_
       refine g_val rfl rfl rfl (fun _ _ => v_move rfl) ?_
       refine v_unguard rfl rfl ?_
       refine g_val rfl rfl rfl (fun _ _ => v_move rfl) ?_
       refine v_unguard rfl rfl ?_
       refine g_val rfl rfl rfl (fun _ _ => v_neq rfl rfl) ?_
       refine g_val rfl rfl rfl (fun _ _ => v_pickF rfl rfl) ?_
       refine g_nil ?_
       obtain rfl := Option.some.inj hm
       exact g_leaf () (trivial) ((.cons rfl (.cons rfl (.cons rfl (.cons rfl (.cons rfl (.cons rfl (.cons rfl (.cons rfl (.cons rfl (.cons rfl (.cons rfl .nil)))))))))))) (fun w hh => hh)
     ·intro l_26 hj
      replace hm := h248
      refine g_n_then ?_
      refine g_cond rfl (fun h250 => ?_) (fun h250 => ?_)
      ·replace hm := ifT (h250) hm
       refine g_seq ?_
       refine g_region ?_
       refine g_val rfl rfl rfl (fun _ _ => v_assign rfl) ?_
       refine g_nil ?_
       refine g_n_then ?_
       refine g_ret ?_
       refine g_r_then ?_
       obtain rfl := Option.some.inj hm
       refine g_done rfl (fun w hh => (.tmp rfl .nil)) (fun w hh => ⟨(), rfl, trivial, hh.sel [] [] 6 (by decide) (by decide) rfl rfl rfl⟩)
      ·replace hm := ifF ((fun hh => Bool.noConfusion ((h250).symm.trans hh))) hm
       refine g_skip ?_
       refine g_n_then ?_
       refine g_seq ?_
       refine g_region ?_
       refine g_val rfl rfl rfl (fun w hh => v_loadAgg (vs := [_, _, _, _, _]) (Try.isAgg29 w) (Try.sizeOf29 w) rfl (hh.cells 1 rfl rfl)) ?_
       refine g_val rfl rfl rfl (fun _ _ => v_move rfl) ?_
       refine g_val rfl rfl rfl (fun _ _ => v_move rfl) ?_
       refine g_val rfl rfl rfl (fun _ _ => v_move rfl) ?_
       obtain ⟨t75, h251, hm⟩ := bindO hm
       refine g_callH [] [] rfl rfl rfl rfl rfl rfl rfl (fun a w => Try.call51 a w) (fun w hh => cx_Hold o_1.own11 place1 o_1.b14 o_1.c15 l_3.2.2.2.2.2.1.q l_3.2.2.2.2.2.1.n l_3.2.2.2.2.2.1.cap l_3.2.2.2.2.2.2.1.q l_3.2.2.2.2.2.2.1.n l_3.2.2.2.2.2.2.1.cap l_3.2.2.2.2.2.2.2.1.q l_3.2.2.2.2.2.2.2.1.n l_3.2.2.2.2.2.2.2.1.cap l_3.2.2.2.1.q l_3.2.2.2.1.n l_3.2.2.2.1.cap l_3.2.2.2.2.1.q l_3.2.2.2.2.1.n l_3.2.2.2.2.1.cap w (HV.callee (S0 := []) (vs0 := []) hh (roC (hh.vsep (S0 := []) (vs0 := []) 3 rfl h17) (roC (hh.vsep (S0 := []) (vs0 := []) 4 rfl h18) (roC (hh.vsep (S0 := []) (vs0 := []) 5 rfl h19) (roC (hh.vsep (S0 := []) (vs0 := []) 1 rfl h15) (roC (hh.vsep (S0 := []) (vs0 := []) 2 rfl h16) roN)))))) (vlen RW h17 rfl) (vne h17) (h17).hle (vlen RI h18 rfl) (vne h18) (h18).hle (vlen RS h19 rfl) (vne h19) (h19).hle (vlen RI h15 rfl) (vne h15) (h15).hle (vlen RI h16 rfl) (vne h16) (h16).hle h251) (fun l_27 h252 => ?_)
       refine g_val rfl rfl rfl (fun _ _ => v_move rfl) ?_
       refine g_val rfl rfl rfl (fun _ _ => v_extract rfl rfl) ?_
       refine g_val rfl rfl rfl (fun _ _ => v_extract rfl rfl) ?_
       refine g_val rfl rfl rfl (fun _ _ => v_assign rfl) ?_
       refine g_val rfl rfl rfl (fun _ _ => v_assign rfl) ?_
       refine g_nil ?_
       refine g_n_then ?_
       refine g_seq ?_
       refine g_region ?_
       refine g_val rfl rfl rfl (fun w hh => v_loadAgg (vs := [_, _, _, _, _]) (Try.isAgg59 w) (Try.sizeOf59 w) rfl (hh.cells 2 rfl rfl)) ?_
       refine g_val rfl rfl rfl (fun _ _ => v_move rfl) ?_
       refine g_val rfl rfl rfl (fun _ _ => v_move rfl) ?_
       refine g_val rfl rfl rfl (fun _ _ => v_move rfl) ?_
       obtain ⟨t83, h253, hm⟩ := bindO hm
       refine g_callH [] [] rfl rfl rfl rfl rfl rfl rfl (fun a w => Try.call68 a w) (fun w hh => c_laurelref01_Hold o_1.x12 place1 sills3 places4 (qA l_3.2.2.2.2.2.2.2.2.1.q) l_3.2.2.2.2.2.2.2.2.1.n l_3.2.2.2.2.2.2.2.2.1.cap (qA l_3.2.2.2.2.2.2.2.2.2.1.q) l_3.2.2.2.2.2.2.2.2.2.1.n l_3.2.2.2.2.2.2.2.2.2.1.cap (qA l_3.2.2.2.2.2.2.2.2.2.2.q) l_3.2.2.2.2.2.2.2.2.2.2.n l_3.2.2.2.2.2.2.2.2.2.2.cap qa4 na4 ca4 qa5 na5 ca5 w (HV.callee (S0 := []) (vs0 := []) hh (roC (hh.vsepA (S0 := []) (vs0 := []) 6 rfl h20) (roC (hh.vsepA (S0 := []) (vs0 := []) 7 rfl h21) (roC (hh.vsepA (S0 := []) (vs0 := []) 8 rfl h22) (roC (hh.rsep (S0 := []) (vs0 := []) 4 rfl) (roC (hh.rsep (S0 := []) (vs0 := []) 5 rfl) roN)))))) (vlen RW h20 rfl) (AOK.q (vne h20)) (h20).hle (vlen RI h21 rfl) (AOK.q (vne h21)) (h21).hle (vlen RS h22 rfl) (AOK.q (vne h22)) (h22).hle hna4 hqa4 hla4 hna5 hqa5 hla5 h253) (fun l_28 h254 => ?_)
       refine g_val rfl rfl rfl (fun _ _ => v_move rfl) ?_
       refine g_val rfl rfl rfl (fun _ _ => v_extract rfl rfl) ?_
       refine g_val rfl rfl rfl (fun _ _ => v_extract rfl rfl) ?_
       refine g_val rfl rfl rfl (fun _ _ => v_assign rfl) ?_
       refine g_val rfl rfl rfl (fun _ _ => v_assign rfl) ?_
       refine g_nil ?_
       refine g_n_then ?_
       refine g_seq ?_
       obtain ⟨o_3, h255, h256⟩ := bindO hm
       refine g_cut (ι := Unit) (fun l_29 => True) (fun l_29 => [(10, .bool o_3)]) (fun l_29 => [(b, .cells #[.slice qa0 na0 ca0, .int .i64 s0.wind.lo, .int .i64 s0.wind.hi, .slice qa1 na1 ca1, .slice qa2 na2 ca2] 29 (0, 0)), (l_3.1, .cells #[slv l_3.2.2.2.2.2.1.q l_3.2.2.2.2.2.1.n l_3.2.2.2.2.2.1.cap, .int .i64 o_1.own11.wind.lo, .int .i64 o_1.own11.wind.hi, slv l_3.2.2.2.2.2.2.1.q l_3.2.2.2.2.2.2.1.n l_3.2.2.2.2.2.2.1.cap, slv l_3.2.2.2.2.2.2.2.1.q l_3.2.2.2.2.2.2.2.1.n l_3.2.2.2.2.2.2.2.1.cap] 29 (0, 0)), (l_3.2.1, .cells #[slv l_3.2.2.2.2.2.2.2.2.1.q l_3.2.2.2.2.2.2.2.2.1.n l_3.2.2.2.2.2.2.2.2.1.cap, .int .i64 o_1.x12.wind.lo, .int .i64 o_1.x12.wind.hi, slv l_3.2.2.2.2.2.2.2.2.2.1.q l_3.2.2.2.2.2.2.2.2.2.1.n l_3.2.2.2.2.2.2.2.2.2.1.cap, slv l_3.2.2.2.2.2.2.2.2.2.2.q l_3.2.2.2.2.2.2.2.2.2.2.n l_3.2.2.2.2.2.2.2.2.2.2.cap] 59 (0, 0))]) (fun l_29 => [⟨68, RW.enc o_1.own11.table, l_3.2.2.2.2.2.1.sp, l_3.2.2.2.2.2.1.q⟩, ⟨3, RI.enc o_1.own11.floors, l_3.2.2.2.2.2.2.1.sp, l_3.2.2.2.2.2.2.1.q⟩, ⟨51, RS.enc o_1.own11.sills, l_3.2.2.2.2.2.2.2.1.sp, l_3.2.2.2.2.2.2.2.1.q⟩, ⟨158, RW.enc o_1.x12.table, l_3.2.2.2.2.2.2.2.2.1.sp, l_3.2.2.2.2.2.2.2.2.1.q⟩, ⟨3, RI.enc o_1.x12.floors, l_3.2.2.2.2.2.2.2.2.2.1.sp, l_3.2.2.2.2.2.2.2.2.2.1.q⟩, ⟨159, RS.enc o_1.x12.sills, l_3.2.2.2.2.2.2.2.2.2.2.sp, l_3.2.2.2.2.2.2.2.2.2.2.q⟩]) ?_ ?_
       ·replace hm := h255
        refine g_region ?_
        refine g_val rfl rfl rfl (fun _ _ => v_move rfl) ?_
        refine g_val rfl rfl rfl (fun _ _ => v_move rfl) ?_
        refine g_val rfl rfl rfl (fun _ _ => v_eql rfl rfl) ?_
        refine g_val rfl rfl rfl (fun _ _ => v_move rfl) ?_
        refine g_case 89 rfl (fun h257 => ?_) (fun h257 => ?_)
        ·replace hm := ifT (of_decide_eq_true h257) hm
         refine v_unguard rfl rfl ?_
         refine g_val rfl rfl rfl (fun _ _ => v_move rfl) ?_
         refine v_unguard rfl rfl ?_
         refine g_val rfl rfl rfl (fun _ _ => v_move rfl) ?_
         refine v_unguard rfl rfl ?_
         refine g_val rfl rfl rfl (fun _ _ => v_eql rfl rfl) ?_
         refine g_val rfl rfl rfl (fun _ _ => v_pickT rfl rfl) ?_
         refine g_val rfl rfl rfl (fun _ _ => v_move rfl) ?_
         refine g_case 94 rfl (fun h258 => ?_) (fun h258 => ?_)
         ·replace hm := ifT (of_decide_eq_true h258) hm
          refine v_unguard rfl rfl ?_
          refine g_val rfl rfl rfl (fun w hh => v_loadAgg (vs := [_, _, _, _, _]) (Try.isAgg29 w) (Try.sizeOf29 w) rfl (hh.cells 1 rfl rfl)) ?_
          refine v_unguard rfl rfl ?_
          refine g_val rfl rfl rfl (fun w hh => v_loadAgg (vs := [_, _, _, _, _]) (Try.isAgg29 w) (Try.sizeOf29 w) rfl (hh.cells 0 rfl rfl)) ?_
          refine v_unguard rfl rfl ?_
          obtain ⟨t97, h259, hm⟩ := bindO hm
          refine g_callH [] [] rfl rfl rfl rfl rfl rfl rfl (fun a w => Try.call38 a w) (fun w hh => c_laurellaw01_same o_1.own11 s0 (qA l_3.2.2.2.2.2.1.q) l_3.2.2.2.2.2.1.n l_3.2.2.2.2.2.1.cap (qA l_3.2.2.2.2.2.2.1.q) l_3.2.2.2.2.2.2.1.n l_3.2.2.2.2.2.2.1.cap (qA l_3.2.2.2.2.2.2.2.1.q) l_3.2.2.2.2.2.2.2.1.n l_3.2.2.2.2.2.2.2.1.cap qa0 na0 ca0 qa1 na1 ca1 qa2 na2 ca2 w (HV.callee (S0 := []) (vs0 := []) hh (roC (hh.vsepA (S0 := []) (vs0 := []) 3 rfl h17) (roC (hh.vsepA (S0 := []) (vs0 := []) 4 rfl h18) (roC (hh.vsepA (S0 := []) (vs0 := []) 5 rfl h19) (roC (hh.rsep (S0 := []) (vs0 := []) 0 rfl) (roC (hh.rsep (S0 := []) (vs0 := []) 1 rfl) (roC (hh.rsep (S0 := []) (vs0 := []) 2 rfl) roN))))))) (vlen RW h17 rfl) (AOK.q (vne h17)) (h17).hle (vlen RI h18 rfl) (AOK.q (vne h18)) (h18).hle (vlen RS h19 rfl) (AOK.q (vne h19)) (h19).hle hna0 hqa0 hla0 hna1 hqa1 hla1 hna2 hqa2 hla2 h259) (fun l_30 h260 => ?_)
          refine g_val rfl rfl rfl (fun _ _ => v_pickT rfl rfl) ?_
          refine g_val rfl rfl rfl (fun _ _ => v_move rfl) ?_
          refine g_case 99 rfl (fun h261 => ?_) (fun h261 => ?_)
          ·replace hm := ifT (h261) hm
           refine v_unguard rfl rfl ?_
           refine g_val rfl rfl rfl (fun _ _ => v_move rfl) ?_
           refine v_unguard rfl rfl ?_
           refine g_val rfl rfl rfl (fun _ _ => v_move rfl) ?_
           refine v_unguard rfl rfl ?_
           obtain ⟨t102, h262, hm⟩ := bindO hm
           refine g_callH [] [] rfl rfl rfl rfl rfl rfl rfl (fun a w => Try.call59 a w) (fun w hh => c_laurelkit_Eq_int o_1.a13 way2 (qA l_3.2.2.1.q) l_3.2.2.1.n l_3.2.2.1.cap qa3 na3 ca3 w (HV.callee (S0 := []) (vs0 := []) hh (roC (hh.vsepA (S0 := []) (vs0 := []) 0 rfl h14) (roC (hh.rsep (S0 := []) (vs0 := []) 3 rfl) roN))) (vlen RI h14 rfl) (AOK.q (vne h14)) (h14).hle hna3 hqa3 hla3 h262) (fun l_31 h263 => ?_)
           refine g_val rfl rfl rfl (fun _ _ => v_pickT rfl rfl) ?_
           refine g_val rfl rfl rfl (fun _ _ => v_move rfl) ?_
           refine g_case 104 rfl (fun h264 => ?_) (fun h264 => ?_)
           ·replace hm := ifT (h264) hm
            refine v_unguard rfl rfl ?_
            refine g_val rfl rfl rfl (fun _ _ => v_move rfl) ?_
            refine v_unguard rfl rfl ?_
            refine g_val rfl rfl rfl (fun _ _ => v_move rfl) ?_
            refine v_unguard rfl rfl ?_
            obtain ⟨t107, h265, hm⟩ := bindO hm
            refine g_callH [] [] rfl rfl rfl rfl rfl rfl rfl (fun a w => Try.call59 a w) (fun w hh => c_laurelkit_Eq_int o_1.b14 sills3 (qA l_3.2.2.2.1.q) l_3.2.2.2.1.n l_3.2.2.2.1.cap qa4 na4 ca4 w (HV.callee (S0 := []) (vs0 := []) hh (roC (hh.vsepA (S0 := []) (vs0 := []) 1 rfl h15) (roC (hh.rsep (S0 := []) (vs0 := []) 4 rfl) roN))) (vlen RI h15 rfl) (AOK.q (vne h15)) (h15).hle hna4 hqa4 hla4 h265) (fun l_32 h266 => ?_)
            refine g_val rfl rfl rfl (fun _ _ => v_pickT rfl rfl) ?_
            refine g_val rfl rfl rfl (fun _ _ => v_move rfl) ?_
            refine g_case 109 rfl (fun h267 => ?_) (fun h267 => ?_)
            ·replace hm := ifT (h267) hm
             refine v_unguard rfl rfl ?_
             refine g_val rfl rfl rfl (fun _ _ => v_move rfl) ?_
             refine v_unguard rfl rfl ?_
             refine g_val rfl rfl rfl (fun _ _ => v_move rfl) ?_
             refine v_unguard rfl rfl ?_
             obtain ⟨t112, h268, hm⟩ := bindO hm
             refine g_callH [] [] rfl rfl rfl rfl rfl rfl rfl (fun a w => Try.call59 a w) (fun w hh => c_laurelkit_Eq_int o_1.c15 places4 (qA l_3.2.2.2.2.1.q) l_3.2.2.2.2.1.n l_3.2.2.2.2.1.cap qa5 na5 ca5 w (HV.callee (S0 := []) (vs0 := []) hh (roC (hh.vsepA (S0 := []) (vs0 := []) 2 rfl h16) (roC (hh.rsep (S0 := []) (vs0 := []) 5 rfl) roN))) (vlen RI h16 rfl) (AOK.q (vne h16)) (h16).hle hna5 hqa5 hla5 h268) (fun l_33 h269 => ?_)
             refine g_val rfl rfl rfl (fun _ _ => v_pickT rfl rfl) ?_
             refine g_val rfl rfl rfl (fun _ _ => v_move rfl) ?_
             refine g_case 114 rfl (fun h270 => ?_) (fun h270 => ?_)
             ·replace hm := ifT (h270) hm
              refine v_unguard rfl rfl ?_
              obtain ⟨t115, h271, hm⟩ := bindO hm
              refine g_callH [] [] rfl rfl rfl rfl rfl rfl rfl (fun a w => Try.call30 a w) (fun w hh => cx_awake  w (HV.callee (S0 := []) (vs0 := []) hh roN)  h271) (fun l_34 h272 => ?_)
              refine g_val rfl rfl rfl (fun _ _ => v_pickT rfl rfl) ?_
              refine g_val rfl rfl rfl (fun _ _ => v_assign rfl) ?_
              refine g_nil ?_
              obtain rfl := Option.some.inj hm
              exact g_leaf () (trivial) ((.cons rfl .nil)) (fun w hh => hh.sel [0, 1, 2] [3, 4, 5, 6, 7, 8] 0 (by decide) (by decide) rfl rfl rfl)
             ·replace hm := ifF ((fun hh => Bool.noConfusion ((h270).symm.trans hh))) hm
              refine g_skipG rfl rfl rfl rfl rfl rfl ?_
              refine g_val rfl rfl rfl (fun _ _ => v_pickF rfl rfl) ?_
              refine g_val rfl rfl rfl (fun _ _ => v_assign rfl) ?_
              refine g_nil ?_
              obtain rfl := Option.some.inj hm
              exact g_leaf () (trivial) ((.cons rfl .nil)) (fun w hh => hh.sel [0, 1, 2] [3, 4, 5, 6, 7, 8] 0 (by decide) (by decide) rfl rfl rfl)
            ·replace hm := ifF ((fun hh => Bool.noConfusion ((h267).symm.trans hh))) hm
             refine g_skipG rfl rfl rfl rfl rfl rfl ?_
             refine g_skipG rfl rfl rfl rfl rfl rfl ?_
             refine g_skipG rfl rfl rfl rfl rfl rfl ?_
             refine g_val rfl rfl rfl (fun _ _ => v_pickF rfl rfl) ?_
             refine g_val rfl rfl rfl (fun _ _ => v_move rfl) ?_
             refine g_skipG rfl rfl rfl rfl rfl rfl ?_
             refine g_val rfl rfl rfl (fun _ _ => v_pickF rfl rfl) ?_
             refine g_val rfl rfl rfl (fun _ _ => v_assign rfl) ?_
             refine g_nil ?_
             obtain rfl := Option.some.inj hm
             exact g_leaf () (trivial) ((.cons rfl .nil)) (fun w hh => hh.sel [0, 1, 2] [3, 4, 5, 6, 7, 8] 0 (by decide) (by decide) rfl rfl rfl)
           ·replace hm := ifF ((fun hh => Bool.noConfusion ((h264).symm.trans hh))) hm
            refine g_skipG rfl rfl rfl rfl rfl rfl ?_
            refine g_skipG rfl rfl rfl rfl rfl rfl ?_
            refine g_skipG rfl rfl rfl rfl rfl rfl ?_
            refine g_val rfl rfl rfl (fun _ _ => v_pickF rfl rfl) ?_
            refine g_val rfl rfl rfl (fun _ _ => v_move rfl) ?_
            refine g_skipG rfl rfl rfl rfl rfl rfl ?_
            refine g_skipG rfl rfl rfl rfl rfl rfl ?_
            refine g_skipG rfl rfl rfl rfl rfl rfl ?_
            refine g_val rfl rfl rfl (fun _ _ => v_pickF rfl rfl) ?_
            refine g_val rfl rfl rfl (fun _ _ => v_move rfl) ?_
            refine g_skipG rfl rfl rfl rfl rfl rfl ?_
            refine g_val rfl rfl rfl (fun _ _ => v_pickF rfl rfl) ?_
            refine g_val rfl rfl rfl (fun _ _ => v_assign rfl) ?_
            refine g_nil ?_
            obtain rfl := Option.some.inj hm
            exact g_leaf () (trivial) ((.cons rfl .nil)) (fun w hh => hh.sel [0, 1, 2] [3, 4, 5, 6, 7, 8] 0 (by decide) (by decide) rfl rfl rfl)
          ·replace hm := ifF ((fun hh => Bool.noConfusion ((h261).symm.trans hh))) hm
           refine g_skipG rfl rfl rfl rfl rfl rfl ?_
           refine g_skipG rfl rfl rfl rfl rfl rfl ?_
           refine g_skipG rfl rfl rfl rfl rfl rfl ?_
           refine g_val rfl rfl rfl (fun _ _ => v_pickF rfl rfl) ?_
           refine g_val rfl rfl rfl (fun _ _ => v_move rfl) ?_
           refine g_skipG rfl rfl rfl rfl rfl rfl ?_
           refine g_skipG rfl rfl rfl rfl rfl rfl ?_
           refine g_skipG rfl rfl rfl rfl rfl rfl ?_
           refine g_val rfl rfl rfl (fun _ _ => v_pickF rfl rfl) ?_
           refine g_val rfl rfl rfl (fun _ _ => v_move rfl) ?_
           refine g_skipG rfl rfl rfl rfl rfl rfl ?_
           refine g_skipG rfl rfl rfl rfl rfl rfl ?_
           refine g_skipG rfl rfl rfl rfl rfl rfl ?_
           refine g_val rfl rfl rfl (fun _ _ => v_pickF rfl rfl) ?_
           refine g_val rfl rfl rfl (fun _ _ => v_move rfl) ?_
           refine g_skipG rfl rfl rfl rfl rfl rfl ?_
           refine g_val rfl rfl rfl (fun _ _ => v_pickF rfl rfl) ?_
           refine g_val rfl rfl rfl (fun _ _ => v_assign rfl) ?_
           refine g_nil ?_
           obtain rfl := Option.some.inj hm
           exact g_leaf () (trivial) ((.cons rfl .nil)) (fun w hh => hh.sel [0, 1, 2] [3, 4, 5, 6, 7, 8] 0 (by decide) (by decide) rfl rfl rfl)
         ·replace hm := ifF (of_decide_eq_false h258) hm
          refine g_skipG rfl rfl rfl rfl rfl rfl ?_
          refine g_skipG rfl rfl rfl rfl rfl rfl ?_
          refine g_skipG rfl rfl rfl rfl rfl rfl ?_
          refine g_val rfl rfl rfl (fun _ _ => v_pickF rfl rfl) ?_
          refine g_val rfl rfl rfl (fun _ _ => v_move rfl) ?_
          refine g_skipG rfl rfl rfl rfl rfl rfl ?_
          refine g_skipG rfl rfl rfl rfl rfl rfl ?_
          refine g_skipG rfl rfl rfl rfl rfl rfl ?_
          refine g_val rfl rfl rfl (fun _ _ => v_pickF rfl rfl) ?_
          refine g_val rfl rfl rfl (fun _ _ => v_move rfl) ?_
          refine g_skipG rfl rfl rfl rfl rfl rfl ?_
          refine g_skipG rfl rfl rfl rfl rfl rfl ?_
          refine g_skipG rfl rfl rfl rfl rfl rfl ?_
          refine g_val rfl rfl rfl (fun _ _ => v_pickF rfl rfl) ?_
          refine g_val rfl rfl rfl (fun _ _ => v_move rfl) ?_
          refine g_skipG rfl rfl rfl rfl rfl rfl ?_
          refine g_skipG rfl rfl rfl rfl rfl rfl ?_
          refine g_skipG rfl rfl rfl rfl rfl rfl ?_
          refine g_val rfl rfl rfl (fun _ _ => v_pickF rfl rfl) ?_
          refine g_val rfl rfl rfl (fun _ _ => v_move rfl) ?_
          refine g_skipG rfl rfl rfl rfl rfl rfl ?_
          refine g_val rfl rfl rfl (fun _ _ => v_pickF rfl rfl) ?_
          refine g_val rfl rfl rfl (fun _ _ => v_assign rfl) ?_
          refine g_nil ?_
          obtain rfl := Option.some.inj hm
          exact g_leaf () (trivial) ((.cons rfl .nil)) (fun w hh => hh.sel [0, 1, 2] [3, 4, 5, 6, 7, 8] 0 (by decide) (by decide) rfl rfl rfl)
        ·replace hm := ifF (of_decide_eq_false h257) hm
         refine g_skipG rfl rfl rfl rfl rfl rfl ?_
         refine g_skipG rfl rfl rfl rfl rfl rfl ?_
         refine g_skipG rfl rfl rfl rfl rfl rfl ?_
         refine g_val rfl rfl rfl (fun _ _ => v_pickF rfl rfl) ?_
         refine g_val rfl rfl rfl (fun _ _ => v_move rfl) ?_
         refine g_skipG rfl rfl rfl rfl rfl rfl ?_
         refine g_skipG rfl rfl rfl rfl rfl rfl ?_
         refine g_skipG rfl rfl rfl rfl rfl rfl ?_
         refine g_val rfl rfl rfl (fun _ _ => v_pickF rfl rfl) ?_
         refine g_val rfl rfl rfl (fun _ _ => v_move rfl) ?_
         refine g_skipG rfl rfl rfl rfl rfl rfl ?_
         refine g_skipG rfl rfl rfl rfl rfl rfl ?_
         refine g_skipG rfl rfl rfl rfl rfl rfl ?_
         refine g_val rfl rfl rfl (fun _ _ => v_pickF rfl rfl) ?_
         refine g_val rfl rfl rfl (fun _ _ => v_move rfl) ?_
         refine g_skipG rfl rfl rfl rfl rfl rfl ?_
         refine g_skipG rfl rfl rfl rfl rfl rfl ?_
         refine g_skipG rfl rfl rfl rfl rfl rfl ?_
         refine g_val rfl rfl rfl (fun _ _ => v_pickF rfl rfl) ?_
         refine g_val rfl rfl rfl (fun _ _ => v_move rfl) ?_
         refine g_skipG rfl rfl rfl rfl rfl rfl ?_
         refine g_skipG rfl rfl rfl rfl rfl rfl ?_
         refine g_skipG rfl rfl rfl rfl rfl rfl ?_
         refine g_val rfl rfl rfl (fun _ _ => v_pickF rfl rfl) ?_
         refine g_val rfl rfl rfl (fun _ _ => v_move rfl) ?_
         refine g_skipG rfl rfl rfl rfl rfl rfl ?_
         refine g_val rfl rfl rfl (fun _ _ => v_pickF rfl rfl) ?_
         refine g_val rfl rfl rfl (fun _ _ => v_assign rfl) ?_
         refine g_nil ?_
         obtain rfl := Option.some.inj hm
         exact g_leaf () (trivial) ((.cons rfl .nil)) (fun w hh => hh.sel [0, 1, 2] [3, 4, 5, 6, 7, 8] 0 (by decide) (by decide) rfl rfl rfl)
       ·intro l_29 hj
        replace hm := h256
        refine g_n_then ?_
        refine g_ret ?_
        obtain rfl := Option.some.inj hm
        refine g_done rfl (fun w hh => (.tmp rfl .nil)) (fun w hh => ⟨(), rfl, trivial, hh.sel [] [] 6 (by decide) (by decide) rfl rfl rfl⟩)
end Go.Proofs.Wk

namespace Go.Proofs.Wk
open Go Go.Gx Go.Pl
set_option linter.unusedVariables false
theorem in_eq {n lo hi : Int} : m_tide_in n lo hi = some (inr n lo hi) := by
  unfold m_tide_in inr
  by_cases h : lo ≤ n
  · rw [if_pos h, Option.bind_some]; simp [h]
  · rw [if_neg h, Option.bind_some]; simp [h]
theorem highest_two {n a b : Int} : m_tide_highest n [a, b] = some (max (max n a) b) := by
  unfold m_tide_highest
  have key := iterM_run (f := m_tide_highest_L0 [a, b]) (b := max (max n a) b) (fun k : Nat => (⟨(([a, b].take k).foldl max n), (k : Int)⟩ : m_tide_highest_S0)) 2 (fun k hk => by
    rcases (show k = 0 ∨ k = 1 by omega) with h | h <;> subst h <;> rfl) rfl FU (FU_lt (by omega))
  have hz : (⟨n, 0⟩ : m_tide_highest_S0) = (fun k : Nat => (⟨(([a, b].take k).foldl max n), (k : Int)⟩ : m_tide_highest_S0)) 0 := rfl
  rw [hz, key, Option.bind_some]
theorem every_sill {s : Sands} (hS : Short s) {l : List Int} (hl : l.length ≤ 1000) : m_tide_every_int l s.table s.wind.lo s.wind.hi s.floors s.sills = some (l.all (isSill s)) := by
  have h3 := hS.s
  have hone : ∀ x, m_tide_every_int_1 x s.table s.wind.lo s.wind.hi s.floors s.sills = some (!isSill s x) := fun x => by
    unfold m_tide_every_int_1 m_tide_Crest_1_1
    rw [subc_eq (by omega), Option.bind_some, in_eq, Option.bind_some, Option.bind_some]
    rfl
  unfold m_tide_every_int m_slices_ContainsFunc_intint m_slices_IndexFunc_intint
  have key := iterM_any (f := m_slices_IndexFunc_intint_L0 l s.table s.wind.lo s.wind.hi s.floors s.sills) 0 l.length (fun k => !isSill s (l.getD k 0)) (fun k => (k : Int)) (fun k hk => by
    unfold m_slices_IndexFunc_intint_L0
    rw [Int.zero_add, if_pos (by omega), ix_nat 0 hk, Option.bind_some, hone, Option.bind_some]
    cases isSill s (l.getD k 0) with
    | true => rw [if_neg (by decide), addc_eq (by omega), Option.bind_some]; rfl
    | false => rfl) (by
    unfold m_slices_IndexFunc_intint_L0
    rw [Int.zero_add, if_neg (by omega)]) (N := FU) (FU_lt (by omega))
  rw [key]
  cases hf : (List.range l.length).find? (fun k => !isSill s (l.getD k 0)) with
  | some i =>
    obtain ⟨hi, hb, _⟩ := find_first hf
    have : l.all (isSill s) = false := by
      rw [List.all_eq_false]
      exact ⟨_, mem_getD (d := 0) hi, by simpa using hb⟩
    rw [this, Option.bind_some]
    unfold oc
    simp only
    rw [Option.bind_some, Option.bind_some, decide_eq_true (show (0 : Int) ≤ (i : Int) by omega)]
    rfl
  | none =>
    have hn := find_none hf
    have : l.all (isSill s) = true := all_of_getD (d := 0) (fun j hj => by simpa using hn j hj)
    rw [this]
    rfl
theorem listed_eq {s : Sands} (hS : Short s) {l : List Int} (hl : l.length ≤ 1000) : m_laurelref01_listed s l = some (if l.all (isSill s) = true then 0 else 1) := by
  have h3 := hS.s
  unfold m_laurelref01_listed
  have key := iterM_any0 (f := m_laurelref01_listed_L0 l s) l.length (fun k => !isSill s (l.getD k 0)) 1 (fun k hk => by
    unfold m_laurelref01_listed_L0
    rw [if_pos (by omega), ix_nat 0 hk, Option.bind_some, subc_eq (by omega), Option.bind_some, off_eq, Option.bind_some]
    have e : inr (l.getD k 0) 0 ((s.sills.length : Int) - 1) = isSill s (l.getD k 0) := rfl
    rw [e]
    cases isSill s (l.getD k 0) with
    | true => rw [if_neg (by decide), addc_eq (by omega), Option.bind_some]; rfl
    | false => rfl) (by
    unfold m_laurelref01_listed_L0
    rw [if_neg (by omega)]) (N := FU) (FU_lt (by omega))
  rw [key, any_range (l := l) (d := 0) (p := fun x => !isSill s x)]
  have e2 : l.any (fun x => !isSill s x) = !l.all (isSill s) := by
    rw [List.not_all_eq_any_not]
  rw [e2]
  cases l.all (isSill s) <;> rfl
/-! ### a list that has something twice -/
theorem seen_mem {l : List Int} : ∀ k, k ≤ l.length → ∀ x, x ∈ seenN l k ↔ x ∈ l.take k
  | 0, _, x => by simp [seenN]
  | k + 1, hk, x => by
    have ih := seen_mem k (by omega) (l := l)
    rw [seenN_succ (by omega), ← take_snoc (0 : Int) (show k < l.length by omega)]
    split
    · rename_i h
      rw [List.contains_iff_mem] at h
      rw [List.mem_append, List.mem_singleton, ← ih x]
      constructor
      · exact .inl
      · rintro (h2 | rfl)
        · exact h2
        · exact h
    · rw [List.mem_append, List.mem_append, ih x]
theorem seen_len {l : List Int} : ∀ k, k ≤ l.length → (seenN l k).length ≤ k ∧ ((seenN l k).length = k ↔ (l.take k).Nodup)
  | 0, _ => by simp [seenN]
  | k + 1, hk => by
    obtain ⟨h1, h2⟩ := seen_len k (by omega) (l := l)
    have hm := seen_mem k (by omega) (l := l)
    rw [seenN_succ (by omega), ← take_snoc (0 : Int) (show k < l.length by omega), List.nodup_append]
    split
    · rename_i h
      rw [List.contains_iff_mem, hm] at h
      refine ⟨by omega, ⟨fun he => by omega, fun hn => ?_⟩⟩
      exact absurd rfl (hn.2.2 _ h (l.getD k 0) List.mem_cons_self)
    · rename_i h
      have h' : l.getD k 0 ∉ l.take k := fun hx => h (List.contains_iff_mem.2 ((hm _).2 hx))
      simp only [List.length_append, List.length_singleton]
      refine ⟨by omega, ⟨fun he => ⟨h2.1 (by omega), by simp, fun a ha b hb hab => ?_⟩, fun hn => ?_⟩⟩
      · rw [List.mem_singleton] at hb
        exact h' (hb ▸ hab ▸ ha)
      · have := h2.2 hn.1; omega
theorem twice_iff {l : List Int} : twiceF l = true ↔ ¬ l.Nodup := by
  obtain ⟨h1, h2⟩ := seen_len l.length (Nat.le_refl _) (l := l)
  rw [List.take_length] at h2
  unfold twiceF
  rw [decide_eq_true_iff, ← h2]
  omega
theorem repeats_L1 {l : List Int} {i : Nat} (hi : i < l.length) (hl : l.length ≤ 1000) : iterM FU (m_laurelref01_repeats_L1 (i : Int) l) 0 = some (if (List.range i).any (fun k => decide (l.getD i 0 = l.getD k 0)) = true then .inr true else .inl ()) := by
  refine iterM_any0 (f := m_laurelref01_repeats_L1 (i : Int) l) i (fun k => decide (l.getD i 0 = l.getD k 0)) true (fun k hk => ?_) ?_ (FU_lt (by omega))
  · unfold m_laurelref01_repeats_L1
    rw [if_pos (by omega), ix_nat 0 hi, Option.bind_some, ix_nat 0 (by omega), Option.bind_some]
    by_cases h : l.getD i 0 = l.getD k 0
    · rw [if_pos h, decide_eq_true h]; rfl
    · rw [if_neg h, decide_eq_false h, addc_eq (by omega), Option.bind_some]; rfl
  · unfold m_laurelref01_repeats_L1
    rw [if_neg (by omega)]
theorem repeats_eq {l : List Int} (hl : l.length ≤ 1000) : m_laurelref01_repeats l = some (twiceF l) := by
  unfold m_laurelref01_repeats
  have key := iterM_any0 (f := m_laurelref01_repeats_L0 l) l.length (fun i => (List.range i).any (fun k => decide (l.getD i 0 = l.getD k 0))) true (fun i hi => by
    unfold m_laurelref01_repeats_L0
    rw [if_pos (by omega), repeats_L1 hi hl, Option.bind_some]
    cases (List.range i).any (fun k => decide (l.getD i 0 = l.getD k 0)) with
    | true => rfl
    | false => rw [if_neg (by decide), oc_inl, addc_eq (by omega), Option.bind_some]; rfl) (by
    unfold m_laurelref01_repeats_L0
    rw [if_neg (by omega)]) (N := FU) (FU_lt (by omega))
  rw [key]
  have e : (List.range l.length).any (fun i => (List.range i).any (fun k => decide (l.getD i 0 = l.getD k 0))) = twiceF l := by
    have gd : ∀ (i : Nat) (h : i < l.length), l.getD i 0 = l[i] := fun i h => by rw [List.getD_eq_getElem?_getD, List.getElem?_eq_getElem h]; rfl
    rw [Bool.eq_iff_iff, twice_iff, List.Nodup, List.pairwise_iff_getElem, List.any_eq_true]
    constructor
    · rintro ⟨i, hi, hk⟩ hn
      obtain ⟨k, hk, he⟩ := List.any_eq_true.1 hk
      have hi' : i < l.length := by simpa using hi
      have hk' : k < i := by simpa using hk
      have he' := of_decide_eq_true he
      rw [gd i hi', gd k (by omega)] at he'
      exact hn k i (by omega) hi' hk' he'.symm
    · intro hn
      refine Classical.byContradiction fun hc => hn fun k i hk hi hki he => hc ⟨i, by simpa using hi, List.any_eq_true.2 ⟨k, by simpa using hki, decide_eq_true ?_⟩⟩
      rw [gd i hi, gd k hk, he]
  rw [e]
  cases twiceF l <;> rfl
end Go.Proofs.Wk

namespace Go.Proofs.Wk
open Go Go.Gx Go.Pl
set_option linter.unusedVariables false
/-! ### the crest of a way -/
def nextOf (x : Sill) (a : Int) : Option Int := if x.a = a then some x.b else if x.b = a then some x.a else none
/-- along a way, from a place on; none: it is no way -/
def crestL (s : Sands) : List Int → Int → Int → List Int → Option (Int × Int)
  | [], a, c, _ => some (a, c)
  | i :: r, a, c, met => match nextOf (s.sills.getD i.toNat default) a with
    | none => none
    | some q => if hasI met q = true then none else crestL s r q (max (max c (s.sills.getD i.toNat default).h) (s.floors.getD q.toNat 0)) (met ++ [q])
def CrestR (s : Sands) (p : Int) (way : List Int) : Int × Int :=
  if check s ≠ 0 then (0, check s) else if isPlace s p = true ∧ way.all (isSill s) = true then
    match crestL s way (-1) 0 [-1] with
    | none => (0, 8)
    | some (a, c) => if a = p then (c, 0) else (0, 8)
  else (0, 1)
def tt (met : List Int) : List (Int × Bool) := met.map fun x => (x, true)
theorem tt_find : ∀ (met : List Int) (k : Int) (i : Nat), (afind (tt met) k i).isSome = hasI met k ∧ ∀ p, afind (tt met) k i = some p → p.2 = true
  | [], k, i => ⟨rfl, fun p h => by cases h⟩
  | x :: met, k, i => by
    have ih := tt_find met k (i + 1)
    show (afind ((x, true) :: tt met) k i).isSome = (decide (k = x) || hasI met k) ∧ ∀ p, afind ((x, true) :: tt met) k i = some p → p.2 = true
    unfold afind
    by_cases h : k = x
    · rw [if_pos h, decide_eq_true h]
      exact ⟨rfl, fun p hp => by cases hp; rfl⟩
    · rw [if_neg h, decide_eq_false h]
      exact ⟨by rw [ih.1]; rfl, ih.2⟩
theorem tt_get {met : List Int} {k : Int} : (aget (tt met) k).getD false = hasI met k := by
  obtain ⟨h1, h2⟩ := tt_find met k 0
  unfold aget
  cases h : afind (tt met) k 0 with
  | none => rw [h] at h1; exact h1
  | some p =>
    have := h2 p h
    rw [h] at h1
    rw [← h1]
    exact this
theorem tt_set {met : List Int} {k : Int} (h : hasI met k = false) : aset (tt met) k true = tt (met ++ [k]) := by
  obtain ⟨h1, _⟩ := tt_find met k 0
  rw [h] at h1
  unfold aset
  cases h3 : afind (tt met) k 0 with
  | none => simp [tt]
  | some p => rw [h3] at h1; exact absurd h1 (by simp)
theorem nextOf_rg {s : Sands} (hG : Good s) {i : Int} (hi : isSill s i = true) {a q : Int} (h : nextOf (s.sills.getD i.toNat default) a = some q) : -1 ≤ q ∧ q < s.floors.length := by
  have h1 := isSill_iff.1 hi
  have ha := hG.sa i.toNat (by omega)
  have hb := hG.sb i.toNat (by omega)
  unfold nextOf at h
  split at h
  · cases h; exact hb
  · split at h
    · cases h; exact ha
    · cases h
theorem drop_cons {l : List Int} {k : Nat} (h : k < l.length) : l.drop k = l.getD k 0 :: l.drop (k + 1) := by
  rw [List.drop_eq_getElem_cons h, List.getD_eq_getElem?_getD, List.getElem?_eq_getElem h]
  rfl
theorem crest_L0 {s : Sands} (hG : Good s) {way : List Int} (hw : way.all (isSill s) = true) (hl : way.length ≤ 1000) : ∀ (m k N : Nat), k + m = way.length → m < N → ∀ (a c : Int) (met : List Int), -1 ∈ met →
    iterM N (m_tide_Crest_1_L0 way s) ⟨a, c, (k : Int), tt met⟩ = some (match crestL s (way.drop k) a c met with | some (a', c') => .inl ⟨a', c', tt met ++ (tt met)⟩ | none => .inr ⟨0, 8⟩) ∨
    ∃ t, iterM N (m_tide_Crest_1_L0 way s) ⟨a, c, (k : Int), tt met⟩ = some (match crestL s (way.drop k) a c met with | some (a', c') => .inl ⟨a', c', t⟩ | none => .inr ⟨0, 8⟩) := by
  intro m
  induction m with
  | zero =>
    intro k N hk hN a c met hm
    right
    obtain ⟨N, rfl⟩ : ∃ N', N = N' + 1 := ⟨N - 1, by omega⟩
    refine ⟨tt met, ?_⟩
    rw [List.drop_eq_nil_of_le (by omega), iterM_done (b := .inl ⟨a, c, tt met⟩)]
    · rfl
    · unfold m_tide_Crest_1_L0
      dsimp only
      rw [if_neg (by omega)]
  | succ m ih =>
    intro k N hk hN a c met hm
    right
    obtain ⟨N, rfl⟩ : ∃ N', N = N' + 1 := ⟨N - 1, by omega⟩
    have hkl : k < way.length := by omega
    have hsill : isSill s (way.getD k 0) = true := all_getD hw hkl
    have hs2 := isSill_iff.1 hsill
    rw [drop_cons hkl]
    unfold crestL
    have stp : m_tide_Crest_1_L0 way s ⟨a, c, (k : Int), tt met⟩ = match nextOf (s.sills.getD (way.getD k 0).toNat default) a with
        | none => some (.inr (.inr ⟨0, 8⟩))
        | some q => if hasI met q = true then some (.inr (.inr ⟨0, 8⟩)) else some (.inl ⟨q, max (max c (s.sills.getD (way.getD k 0).toNat default).h) (s.floors.getD q.toNat 0), ((k + 1 : Nat) : Int), tt (met ++ [q])⟩) := by
      unfold m_tide_Crest_1_L0
      dsimp only
      rw [if_pos (by omega), ix_nat 0 hkl, Option.bind_some, ix_eq default hs2.1 (by omega), Option.bind_some]
      have hrg := fun q => nextOf_rg hG hsill (a := a) (q := q)
      generalize s.sills.getD (way.getD k 0).toNat default = x at hrg ⊢
      have cont : ∀ q, nextOf x a = some q → (if (aget (tt met) q).getD false = true then some (.inr (.inr (⟨0, 8⟩ : m_tide_Crest_1_R))) else (ix s.floors q).bind fun t76 => (m_tide_highest c [x.h, t76]).bind fun t79 => (some (aset (tt met) q true)).bind fun t39_1 => (addc (k : Int) 1).bind fun t80 => some (.inl (⟨q, t79, t80, t39_1⟩ : m_tide_Crest_1_S0))) = (if hasI met q = true then some (.inr (.inr (⟨0, 8⟩ : m_tide_Crest_1_R))) else some (.inl ⟨q, max (max c x.h) (s.floors.getD q.toNat 0), ((k + 1 : Nat) : Int), tt (met ++ [q])⟩) : Option (m_tide_Crest_1_S0 ⊕ (m_tide_Crest_1_C1 ⊕ m_tide_Crest_1_R))) := fun q hq => by
        have hr := hrg q hq
        rw [tt_get]
        by_cases hh : hasI met q = true
        · rw [if_pos hh, if_pos hh]
        · have hq1 : q ≠ -1 := fun e => hh (hasI_iff.2 (e ▸ hm))
          have hh' : hasI met q = false := by simpa using hh
          rw [if_neg hh, if_neg hh, ix_eq 0 (by omega) (by omega), Option.bind_some, highest_two, Option.bind_some, tt_set hh', Option.bind_some, addc_eq (by omega), Option.bind_some, show (k : Int) + 1 = ((k + 1 : Nat) : Int) by omega]
      by_cases h1 : x.a = a
      · have hn : nextOf x a = some x.b := by unfold nextOf; rw [if_pos h1]
        rw [if_pos h1.symm, Option.bind_some, oc_inl, hn]
        exact cont _ hn
      · rw [if_neg (fun h => h1 h.symm)]
        by_cases h2 : x.b = a
        · have hn : nextOf x a = some x.a := by unfold nextOf; rw [if_neg h1, if_pos h2]
          rw [if_pos h2.symm, Option.bind_some, oc_inl, hn]
          exact cont _ hn
        · have hn : nextOf x a = none := by unfold nextOf; rw [if_neg h1, if_neg h2]
          rw [if_neg (fun h => h2 h.symm), Option.bind_some, oc_inr, hn]
    cases hq : nextOf (s.sills.getD (way.getD k 0).toNat default) a with
    | none =>
      rw [hq] at stp
      refine ⟨[], ?_⟩
      rw [iterM_done stp]
    | some q =>
      rw [hq] at stp
      simp only at stp ⊢
      by_cases hh : hasI met q = true
      · rw [if_pos hh] at stp
        refine ⟨[], ?_⟩
        rw [iterM_done stp, if_pos hh]
      · rw [if_neg hh] at stp
        rw [iterM_step stp, if_neg hh]
        rcases ih (k + 1) N (by omega) (by omega) q _ (met ++ [q]) (List.mem_append_left _ hm) with h | ⟨t, h⟩
        · exact ⟨_, h⟩
        · exact ⟨t, h⟩
theorem refcrest_L0 {s : Sands} (hG : Good s) {way : List Int} (hw : way.all (isSill s) = true) (hl : way.length ≤ 1000) : ∀ (m k N : Nat), k + m = way.length → m < N → ∀ (a c : Int) (met : List Int), -1 ∈ met → met.length ≤ k + 1 →
    iterM N (m_laurelref01_Crest_L0 way s) ⟨a, c, (k : Int), met⟩ = some (match crestL s (way.drop k) a c met with | some (a', c') => .inl ⟨a', c'⟩ | none => .inr ⟨0, 8⟩) := by
  intro m
  induction m with
  | zero =>
    intro k N hk hN a c met hm hml
    obtain ⟨N, rfl⟩ : ∃ N', N = N' + 1 := ⟨N - 1, by omega⟩
    rw [List.drop_eq_nil_of_le (by omega), iterM_done (b := .inl ⟨a, c⟩)]
    · rfl
    · unfold m_laurelref01_Crest_L0
      dsimp only
      rw [if_neg (by omega)]
  | succ m ih =>
    intro k N hk hN a c met hm hml
    obtain ⟨N, rfl⟩ : ∃ N', N = N' + 1 := ⟨N - 1, by omega⟩
    have hkl : k < way.length := by omega
    have hsill : isSill s (way.getD k 0) = true := all_getD hw hkl
    have hs2 := isSill_iff.1 hsill
    rw [drop_cons hkl]
    unfold crestL
    have stp : m_laurelref01_Crest_L0 way s ⟨a, c, (k : Int), met⟩ = match nextOf (s.sills.getD (way.getD k 0).toNat default) a with
        | none => some (.inr (.inr ⟨0, 8⟩))
        | some q => if hasI met q = true then some (.inr (.inr ⟨0, 8⟩)) else some (.inl ⟨q, max (max c (s.sills.getD (way.getD k 0).toNat default).h) (s.floors.getD q.toNat 0), ((k + 1 : Nat) : Int), met ++ [q]⟩) := by
      unfold m_laurelref01_Crest_L0
      dsimp only
      rw [if_pos (by omega), ix_nat 0 hkl, Option.bind_some, ix_eq default hs2.1 (by omega), Option.bind_some]
      have hrg := fun q => nextOf_rg hG hsill (a := a) (q := q)
      have hne := hG.ne (way.getD k 0).toNat (by omega)
      generalize s.sills.getD (way.getD k 0).toNat default = x at hrg hne ⊢
      have cont : ∀ q, nextOf x a = some q → ((if q = -2 then some true else (m_laurelref01_has met q).bind fun t66 => some t66).bind fun o_3 => if o_3 = true then some (.inr (.inr (⟨0, 8⟩ : m_laurelref01_Crest_R))) else (appc 8 met [q]).bind fun t72 => (ix s.floors q).bind fun t79 => (addc (k : Int) 1).bind fun t40 => some (.inl (⟨q, (max (max c x.h) t79), t40, t72⟩ : m_laurelref01_Crest_S0))) = (if hasI met q = true then some (.inr (.inr (⟨0, 8⟩ : m_laurelref01_Crest_R))) else some (.inl ⟨q, max (max c x.h) (s.floors.getD q.toNat 0), ((k + 1 : Nat) : Int), met ++ [q]⟩) : Option (m_laurelref01_Crest_S0 ⊕ (m_laurelref01_Crest_C0 ⊕ m_laurelref01_Crest_R))) := fun q hq => by
        have hr := hrg q hq
        rw [if_neg (by omega), has_eq (by omega), Option.bind_some, Option.bind_some]
        by_cases hh : hasI met q = true
        · rw [if_pos hh, if_pos hh]
        · have hq1 : q ≠ -1 := fun e => hh (hasI_iff.2 (e ▸ hm))
          rw [if_neg hh, if_neg hh, appc_eq (by simp only [List.length_singleton]; omega), Option.bind_some, ix_eq 0 (by omega) (by omega), Option.bind_some, addc_eq (by omega), Option.bind_some, show (k : Int) + 1 = ((k + 1 : Nat) : Int) by omega]
      by_cases h1 : x.a = a
      · have hn : nextOf x a = some x.b := by unfold nextOf; rw [if_pos h1]
        rw [if_pos h1, Option.bind_some, if_neg (fun h => hne (h1.trans h.symm)), Option.bind_some, hn]
        exact cont _ hn
      · rw [if_neg h1, Option.bind_some]
        by_cases h2 : x.b = a
        · have hn : nextOf x a = some x.a := by unfold nextOf; rw [if_neg h1, if_pos h2]
          rw [if_pos h2, Option.bind_some, hn]
          exact cont _ hn
        · have hn : nextOf x a = none := by unfold nextOf; rw [if_neg h1, if_neg h2]
          rw [if_neg h2, Option.bind_some, if_pos rfl, Option.bind_some, if_pos rfl, hn]
    cases hq : nextOf (s.sills.getD (way.getD k 0).toNat default) a with
    | none =>
      rw [hq] at stp
      rw [iterM_done stp]
    | some q =>
      rw [hq] at stp
      simp only at stp ⊢
      by_cases hh : hasI met q = true
      · rw [if_pos hh] at stp
        rw [iterM_done stp, if_pos hh]
      · rw [if_neg hh] at stp
        rw [iterM_step stp, if_neg hh]
        exact ih (k + 1) N (by omega) (by omega) q _ (met ++ [q]) (List.mem_append_left _ hm) (by simp; omega)
theorem crest_eq {s : Sands} (hS : Short s) {p : Int} {way : List Int} (hl : way.length ≤ 1000) : m_tide_Crest_1 s p way = some ⟨(CrestR s p way).1, (CrestR s p way).2⟩ := by
  have h1 := hS.t
  have h2 := hS.f
  have h3 := hS.s
  unfold m_tide_Crest_1 CrestR
  rw [if_pos ⟨by omega, by omega, by omega⟩]
  by_cases hc : check s = 0
  · have hG := good_of_check hc
    have hpl : x_place s p = some (isPlace s p) := by unfold x_place; rw [if_pos ⟨by omega, by omega, by omega⟩]
    rw [if_pos hc, if_neg (show ¬ (check s ≠ 0) by rw [hc]; simp), hpl, Option.bind_some, every_sill hS hl, Option.bind_some]
    by_cases hp : isPlace s p = true
    · rw [hp, if_neg (by decide), Option.bind_some]
      by_cases hw : way.all (isSill s) = true
      · rw [hw, if_neg (by decide), if_pos ⟨rfl, rfl⟩]
        have e : (aset ([] : List (Int × Bool)) (-1) true) = tt [-1] := rfl
        rw [e, Option.bind_some]
        have hloop := crest_L0 hG hw hl way.length 0 FU (by omega) (FU_lt (by omega)) (-1) 0 [-1] List.mem_cons_self
        have hl2 : ∃ t, iterM FU (m_tide_Crest_1_L0 way s) ⟨-1, 0, 0, tt [-1]⟩ = some (match crestL s way (-1) 0 [-1] with | some (a', c') => .inl ⟨a', c', t⟩ | none => .inr ⟨0, 8⟩) := by
          rcases hloop with h | h
          · exact ⟨_, h⟩
          · exact h
        obtain ⟨t, ht⟩ := hl2
        rw [ht, Option.bind_some]
        cases crestL s way (-1) 0 [-1] with
        | none => rfl
        | some ac =>
          obtain ⟨a', c'⟩ := ac
          simp only [oc_inl]
          by_cases he : a' = p
          · rw [if_pos he, if_pos he]
          · rw [if_neg he, if_neg he]
      · have hw' : way.all (isSill s) = false := by simpa using hw
        rw [hw', if_pos (show (!false) = true from rfl), if_neg (show ¬ (true = true ∧ false = true) by simp)]
    · have hp' : isPlace s p = false := by simpa using hp
      rw [hp', if_pos (show (!false) = true from rfl), Option.bind_some, if_pos rfl, if_neg (show ¬ (false = true ∧ way.all (isSill s) = true) by simp)]
  · rw [if_neg hc, if_pos (show check s ≠ 0 from hc)]
theorem refcrest_eq {s : Sands} (hS : Short s) {p : Int} {way : List Int} (hl : way.length ≤ 1000) : m_laurelref01_Crest s p way = some ⟨(CrestR s p way).1, (CrestR s p way).2⟩ := by
  unfold m_laurelref01_Crest CrestR
  rw [refcheck_eq hS, Option.bind_some]
  by_cases hc : check s = 0
  · have hG := good_of_check hc
    rw [if_pos hc, if_neg (show ¬ (check s ≠ 0) by rw [hc]; simp), place_eq hS, Option.bind_some]
    by_cases hp : isPlace s p = true
    · rw [if_pos hp, if_pos rfl, listed_eq hS hl, Option.bind_some]
      by_cases hw : way.all (isSill s) = true
      · rw [if_pos hw, if_pos rfl, if_pos ⟨hp, hw⟩]
        have hloop := refcrest_L0 hG hw hl way.length 0 FU (by omega) (FU_lt (by omega)) (-1) 0 [-1] List.mem_cons_self (by simp)
        rw [show (0 : Int) = ((0 : Nat) : Int) from rfl] at *
        rw [hloop, Option.bind_some, List.drop_zero]
        cases crestL s way (-1) ((0 : Nat) : Int) [-1] with
        | none => rfl
        | some ac =>
          obtain ⟨a', c'⟩ := ac
          simp only [oc_inl]
          by_cases he : a' = p
          · rw [if_pos he, if_pos he]
          · rw [if_neg he, if_neg he]
      · rw [if_neg hw, if_neg (by decide), if_neg (fun h => hw h.2)]
    · rw [if_neg hp, if_neg (by decide), if_neg (fun h => hp h.1)]
  · rw [if_neg hc, if_pos (show check s ≠ 0 from hc)]
end Go.Proofs.Wk

namespace Go.Proofs.Wk
open Go Go.Gx Go.Pl
set_option linter.unusedVariables false
/-- what is in the table of ways is reached -/
theorem ways_sound {s : Sands} {may : Int → Int → Bool} (hG : Good s) {R : Int → Prop} (h0 : R (-1)) (hstep : ∀ p q (k : Nat), R p → k < s.sills.length → joins (s.sills.getD k default) p q → q ≠ -1 → may (k : Int) q = true → R q) :
    ∀ c, ∀ e ∈ waysN s may c, R e.1
  | 0, e, he => by simp [waysN] at he; subst he; exact h0
  | c + 1, e, he => by
    have ih := ways_sound hG h0 hstep c
    have e1 : waysN s may (c + 1) = if c < (waysN s may c).length then procN s may (waysN s may c) c s.sills.length else waysN s may c := rfl
    rw [e1] at he
    split at he
    · rename_i hlt
      have hI := waysN_inv (may := may) hG c
      have hp : R ((waysN s may c).getD c default).1 := by
        have : (waysN s may c).getD c default = (waysN s may c)[c] := by simp [List.getD_eq_getElem?_getD, hlt]
        rw [this]
        exact ih _ (List.getElem_mem hlt)
      have key : ∀ n, n ≤ s.sills.length → ∀ e ∈ procN s may (waysN s may c) c n, R e.1 := by
        intro n
        induction n with
        | zero => intro _; exact ih
        | succ n ihn =>
          intro hn
          have ihn := ihn (by omega)
          have hsea := (procN_inv (may := may) hG hI hlt (k := n) (by omega)).1.sea
          have ht : ∀ q, joins (s.sills.getD n default) ((waysN s may c).getD c default).1 q → ∀ e ∈ tryAdd may ((waysN s may c).getD c default).2 (procN s may (waysN s may c) c n) n q, R e.1 := by
            intro q hj e he
            unfold tryAdd at he
            split at he
            · exact ihn e he
            · rename_i hk
              split at he
              · rename_i hm
                rcases List.mem_append.1 he with he | he
                · exact ihn e he
                · simp at he
                  subst he
                  refine hstep _ q n hp (by omega) hj (fun hq => hk ?_) hm
                  subst hq
                  obtain ⟨r, hr⟩ := hsea
                  rw [hr]; simp [hasKey]
              · exact ihn e he
          intro e he
          rw [procN_succ] at he
          unfold wStep at he
          split at he
          · rename_i h1
            exact ht _ (.inl ⟨h1, rfl⟩) e he
          · split at he
            · rename_i h1
              exact ht _ (.inr ⟨h1, rfl⟩) e he
            · exact ihn e he
      exact key _ (Nat.le_refl _) e he
    · exact ih e he
theorem join_rg {s : Sands} (hG : Good s) {k : Nat} (hk : k < s.sills.length) {p q : Int} (hj : joins (s.sills.getD k default) p q) : -1 ≤ q ∧ q < s.floors.length := by
  have ha := hG.sa k hk
  have hb := hG.sb k hk
  rcases hj with ⟨_, h⟩ | ⟨_, h⟩ <;> omega
theorem free_iff {s : Sands} (hG : Good s) {sl pl : List Int} {p : Int} : hasKey (waysF s (mayFree sl pl)) p = true ↔ Rch s sl pl 999 p := by
  constructor
  · intro h
    obtain ⟨e, he, rfl⟩ := List.mem_map.1 (hasKey_iff.1 h)
    refine ways_sound hG (R := fun p => Rch s sl pl 999 p) .sea (fun a q k ha hk hj hq hm => ?_) 9 e he
    have hr := join_rg hG hk hj
    simp only [mayFree, Bool.and_eq_true, Bool.not_eq_true'] at hm
    exact .step ha ⟨hk, hj, by omega, hm.1, hm.2, (hG.sh k hk).2, (hG.flo q.toNat (by omega)).2⟩
  · intro h
    induction h with
    | sea => exact sea_in hG
    | step _ hs ih => exact waysF_closed hG ih hs.kl hs.jn (by unfold mayFree; rw [hs.sn, hs.pn]; rfl)
theorem Rch.mono {s : Sands} {sl pl : List Int} {h h' p : Int} (hh : h ≤ h') (r : Rch s sl pl h p) : Rch s sl pl h' p := by
  induction r with
  | sea => exact .sea
  | step _ hs ih => exact .step ih ⟨hs.kl, hs.jn, hs.qn, hs.sn, hs.pn, by have := hs.hh; omega, by have := hs.ff; omega⟩
/-- the reference: is the place shut off? -/
theorem least_free {s : Sands} (hG : Good s) {sl pl : List Int} (hsl : sl.length ≤ 1000) (hpl : pl.length ≤ 1000) {p : Int} : ∃ v, m_laurelref01_least FU s (-1) [] 0 p sl pl = some v ∧ (v = 5000 ↔ hasKey (waysF s (mayFree sl pl)) p = false) := by
  obtain ⟨v, hv, h1, h2⟩ := least_spec hG hsl hpl (p := p)
  refine ⟨v, hv, ?_⟩
  constructor
  · intro h5
    cases hk : hasKey (waysF s (mayFree sl pl)) p with
    | false => rfl
    | true => have := h2 999 (by omega) ((free_iff hG).1 hk); omega
  · intro hk
    rcases h1 with h1 | ⟨h1, h3⟩
    · exact h1
    · have := (free_iff hG).2 (h3.mono h1.2)
      rw [hk] at this
      exact absurd this (by decide)
def minS (s : Sands) (z : Int) (sl : List Int) : Int := sl.foldl (fun n i => min n (s.sills.getD i.toNat default).h) z
def minP (s : Sands) (z : Int) (pl : List Int) : Int := pl.foldl (fun n i => min n (s.floors.getD i.toNat 0)) z
theorem take_fold {α β : Type} {f : β → α → β} {z : β} {l : List α} {k : Nat} (d : α) (h : k < l.length) : (l.take (k + 1)).foldl f z = f ((l.take k).foldl f z) (l.getD k d) := by
  rw [← take_snoc d h, List.foldl_append]
  rfl
theorem refhold_L1 {s : Sands} {sl : List Int} (hw : sl.all (isSill s) = true) (hl : sl.length ≤ 1000) : iterM FU (m_laurelref01_Hold_L1 sl s) ⟨5000, 0⟩ = some (minS s 5000 sl) := by
  have key := iterM_run (f := m_laurelref01_Hold_L1 sl s) (b := minS s 5000 sl) (fun k : Nat => (⟨minS s 5000 (sl.take k), (k : Int)⟩ : m_laurelref01_Hold_S1)) sl.length (fun k hk => by
    have hs := isSill_iff.1 (all_getD (d := 0) hw hk)
    unfold m_laurelref01_Hold_L1
    dsimp only
    rw [if_pos (by omega), ix_nat 0 hk, Option.bind_some, ix_eq default hs.1 (by omega), Option.bind_some, addc_eq (by omega), Option.bind_some]
    unfold minS
    rw [take_fold 0 hk]
    rfl) (by
    unfold m_laurelref01_Hold_L1
    dsimp only
    rw [if_neg (by omega), List.take_length]) FU (FU_lt (by omega))
  exact key
theorem refhold_L2 {s : Sands} {pl : List Int} {z : Int} (hw : pl.all (isPlace s) = true) (hl : pl.length ≤ 1000) : iterM FU (m_laurelref01_Hold_L2 pl s) ⟨z, 0⟩ = some (minP s z pl) := by
  have key := iterM_run (f := m_laurelref01_Hold_L2 pl s) (b := minP s z pl) (fun k : Nat => (⟨minP s z (pl.take k), (k : Int)⟩ : m_laurelref01_Hold_S2)) pl.length (fun k hk => by
    have hs := isPlace_iff.1 (all_getD (d := 0) hw hk)
    unfold m_laurelref01_Hold_L2
    dsimp only
    rw [if_pos (by omega), ix_nat 0 hk, Option.bind_some, ix_eq 0 hs.1 (by omega), Option.bind_some, addc_eq (by omega), Option.bind_some]
    unfold minP
    rw [take_fold 0 hk]
    rfl) (by
    unfold m_laurelref01_Hold_L2
    dsimp only
    rw [if_neg (by omega), List.take_length]) FU (FU_lt (by omega))
  exact key
theorem minS_le {s : Sands} (hG : Good s) : ∀ (sl : List Int), sl.all (isSill s) = true → ∀ z : Int, (sl = [] ∧ minS s z sl = z) ∨ (sl ≠ [] ∧ minS s z sl ≤ 999 ∧ minS s z sl ≤ z ∧ ∀ z', 999 ≤ z → 999 ≤ z' → minS s z sl = minS s z' sl)
  | [], _, z => .inl ⟨rfl, rfl⟩
  | x :: sl, h, z => by
    right
    simp only [List.all_cons, Bool.and_eq_true] at h
    have hx := isSill_iff.1 h.1
    have hh := (hG.sh x.toNat (by omega)).2
    have e : ∀ z, minS s z (x :: sl) = minS s (min z (s.sills.getD x.toNat default).h) sl := fun z => rfl
    refine ⟨by simp, ?_⟩
    rw [e]
    have ih := fun z => minS_le hG sl h.2 z
    refine ⟨?_, ?_, fun z' hz hz' => ?_⟩
    · rcases ih (min z (s.sills.getD x.toNat default).h) with ⟨_, h1⟩ | ⟨_, h1, _⟩ <;> omega
    · rcases ih (min z (s.sills.getD x.toNat default).h) with ⟨_, h1⟩ | ⟨_, _, h1, _⟩ <;> omega
    · rw [e]
      have : min z (s.sills.getD x.toNat default).h = min z' (s.sills.getD x.toNat default).h := by omega
      rw [this]
theorem minP_le {s : Sands} (hG : Good s) : ∀ (sl : List Int), sl.all (isPlace s) = true → ∀ z : Int, (sl = [] ∧ minP s z sl = z) ∨ (sl ≠ [] ∧ minP s z sl ≤ 999 ∧ minP s z sl ≤ z ∧ ∀ z', 999 ≤ z → 999 ≤ z' → minP s z sl = minP s z' sl)
  | [], _, z => .inl ⟨rfl, rfl⟩
  | x :: sl, h, z => by
    right
    simp only [List.all_cons, Bool.and_eq_true] at h
    have hx := isPlace_iff.1 h.1
    have hh := (hG.flo x.toNat (by omega)).2
    have e : ∀ z, minP s z (x :: sl) = minP s (min z (s.floors.getD x.toNat 0)) sl := fun z => rfl
    refine ⟨by simp, ?_⟩
    rw [e]
    have ih := fun z => minP_le hG sl h.2 z
    refine ⟨?_, ?_, fun z' hz hz' => ?_⟩
    · rcases ih (min z (s.floors.getD x.toNat 0)) with ⟨_, h1⟩ | ⟨_, h1, _⟩ <;> omega
    · rcases ih (min z (s.floors.getD x.toNat 0)) with ⟨_, h1⟩ | ⟨_, _, h1, _⟩ <;> omega
    · rw [e]
      have : min z (s.floors.getD x.toNat 0) = min z' (s.floors.getD x.toNat 0) := by omega
      rw [this]
theorem holdV_eq {s : Sands} (hG : Good s) {sl pl : List Int} (h1 : sl.all (isSill s) = true) (h2 : pl.all (isPlace s) = true) :
    (minP s (minS s 5000 sl) pl = 5000 ↔ (sl.length : Int) + pl.length = 0) ∧ ((sl.length : Int) + pl.length ≠ 0 → minP s (minS s 5000 sl) pl = holdV s sl pl) := by
  have e : holdV s sl pl = minP s (minS s 1000 sl) pl := rfl
  rw [e]
  rcases minS_le hG sl h1 5000 with ⟨rfl, a⟩ | ⟨a0, a1, a2, a3⟩
  · have e2 : minS s 1000 [] = 1000 := rfl
    rw [a, e2]
    rcases minP_le hG pl h2 5000 with ⟨rfl, b⟩ | ⟨b0, b1, b2, b3⟩
    · rw [b]; simp
    · have : pl.length ≠ 0 := fun h => b0 (List.length_eq_zero_iff.1 h)
      refine ⟨⟨fun h => by omega, fun h => by rw [List.length_nil] at h; omega⟩, fun _ => b3 1000 (by omega) (by omega)⟩
  · have : sl.length ≠ 0 := fun h => a0 (List.length_eq_zero_iff.1 h)
    have e3 := a3 1000 (by omega) (by omega)
    rw [← e3]
    refine ⟨⟨fun h => ?_, fun h => by omega⟩, fun _ => rfl⟩
    rcases minP_le hG pl h2 (minS s 5000 sl) with ⟨rfl, b⟩ | ⟨b0, b1, b2, b3⟩ <;> omega
theorem refhold_L0 {s : Sands} (hS : Short s) {pl : List Int} (hl : pl.length ≤ 1000) : iterM FU (m_laurelref01_Hold_L0 pl s) 0 = some (if pl.all (isPlace s) = true then .inl () else .inr ⟨0, 1⟩) := by
  have key := iterM_any0 (f := m_laurelref01_Hold_L0 pl s) pl.length (fun k => !isPlace s (pl.getD k 0)) ⟨0, 1⟩ (fun k hk => by
    unfold m_laurelref01_Hold_L0
    rw [if_pos (by omega), ix_nat 0 hk, Option.bind_some, place_eq hS, Option.bind_some]
    cases isPlace s (pl.getD k 0) with
    | true => rw [if_pos rfl, if_pos rfl, addc_eq (by omega), Option.bind_some]; rfl
    | false => rfl) (by
    unfold m_laurelref01_Hold_L0
    rw [if_neg (by omega)]) (N := FU) (FU_lt (by omega))
  rw [key, any_range (l := pl) (d := 0) (p := fun x => !isPlace s x)]
  have e2 : pl.any (fun x => !isPlace s x) = !pl.all (isPlace s) := by
    rw [List.not_all_eq_any_not]
  rw [e2]
  cases pl.all (isPlace s) <;> rfl
theorem refhold_eq {s : Sands} (hS : Short s) {p : Int} {sl pl : List Int} (hsl : sl.length ≤ 1000) (hpl : pl.length ≤ 1000) : m_laurelref01_Hold s p sl pl = some ⟨(HoldR s p sl pl).1, (HoldR s p sl pl).2⟩ := by
  unfold m_laurelref01_Hold HoldR holdE
  rw [refcheck_eq hS, Option.bind_some]
  by_cases hc : check s = 0
  · have hG := good_of_check hc
    rw [if_pos hc, if_neg (show ¬ (check s ≠ 0) by rw [hc]; simp), place_eq hS, Option.bind_some]
    by_cases hp : isPlace s p = true
    · rw [if_pos hp, if_pos rfl, listed_eq hS hsl, Option.bind_some]
      by_cases h1 : sl.all (isSill s) = true
      · rw [if_pos h1, if_pos rfl, refhold_L0 hS hpl, Option.bind_some]
        by_cases h2 : pl.all (isPlace s) = true
        · rw [if_pos h2, oc_inl, if_neg (show ¬ (isPlace s p = false ∨ sl.all (isSill s) = false ∨ pl.all (isPlace s) = false) by rw [hp, h1, h2]; simp), repeats_eq hsl, Option.bind_some]
          have hrep : ((if twiceF sl = true then some true else (m_laurelref01_repeats pl).bind fun t54 => some t54) : Option Bool) = some (twiceF sl || twiceF pl) := by
            rw [repeats_eq hpl]
            cases twiceF sl <;> rfl
          rw [hrep, Option.bind_some]
          by_cases h3 : twiceF sl = true ∨ twiceF pl = true
          · have h3' : (twiceF sl || twiceF pl) = true := by simpa using h3
            rw [h3', if_pos rfl, if_pos h3]
            rfl
          · have h3' : (twiceF sl || twiceF pl) = false := by
              cases h : (twiceF sl || twiceF pl) with
              | false => rfl
              | true => exact absurd (by simpa using h) h3
            rw [h3', if_neg (by decide), if_neg h3]
            obtain ⟨v, hv, hiff⟩ := least_free hG hsl hpl (p := p)
            rw [hv, Option.bind_some]
            by_cases h4 : hasKey (waysF s (mayFree sl pl)) p = true
            · have : ¬ v = 5000 := fun h => by have := hiff.1 h; rw [this] at h4; exact absurd h4 (by decide)
              rw [if_neg this, if_pos h4]
              rfl
            · have h4' : hasKey (waysF s (mayFree sl pl)) p = false := by simpa using h4
              obtain ⟨k1, k2⟩ := holdV_eq hG h1 h2
              rw [if_pos (hiff.2 h4'), if_neg h4, refhold_L1 h1 hsl, Option.bind_some, refhold_L2 h2 hpl, Option.bind_some]
              by_cases h5 : (sl.length : Int) + pl.length = 0
              · rw [if_pos (k1.2 h5), if_pos h5]; rfl
              · rw [if_neg (fun h => h5 (k1.1 h)), if_neg h5, k2 h5]; rfl
        · have h2' : pl.all (isPlace s) = false := by simpa using h2
          rw [if_neg h2, oc_inr, if_pos (show isPlace s p = false ∨ sl.all (isSill s) = false ∨ pl.all (isPlace s) = false from .inr (.inr h2'))]
          rfl
      · have h1' : sl.all (isSill s) = false := by simpa using h1
        rw [if_neg h1, if_neg (by decide), if_pos (show isPlace s p = false ∨ sl.all (isSill s) = false ∨ pl.all (isPlace s) = false from .inr (.inl h1'))]
        rfl
    · have hp' : isPlace s p = false := by simpa using hp
      rw [if_neg hp, if_neg (by decide), if_pos (show isPlace s p = false ∨ sl.all (isSill s) = false ∨ pl.all (isPlace s) = false from .inl hp')]
      rfl
  · rw [if_neg hc, if_pos (show check s ≠ 0 from hc), if_pos (show check s ≠ 0 from hc)]
end Go.Proofs.Wk

namespace Go.Proofs.Wk
open Go Go.Gx Go.Pl
set_option linter.unusedVariables false
theorem banks_many {way sl pl : List Int} : ∃ b, ((if 12 < (way.length : Int) then (some true) else (if 20 < (sl.length : Int) then (some true) else (some (decide (20 < (pl.length : Int)))))) : Option Bool) = some b ∧ (b = false → way.length ≤ 12 ∧ sl.length ≤ 20 ∧ pl.length ≤ 20) := by
  by_cases h1 : 12 < (way.length : Int)
  · rw [if_pos h1]; exact ⟨_, rfl, by simp⟩
  · rw [if_neg h1]
    by_cases h2 : 20 < (sl.length : Int)
    · rw [if_pos h2]; exact ⟨_, rfl, by simp⟩
    · rw [if_neg h2]
      refine ⟨_, rfl, fun h => ?_⟩
      have := of_decide_eq_false h
      omega
/-- TideBanks is true of all that comes in -/
theorem banks_true (s : Sands) (p : Int) (way sl pl : List Int) : m_laurellaw01_TideBanks s p way sl pl = some true := by
  unfold m_laurellaw01_TideBanks
  obtain ⟨b, hb, hS'⟩ := wide_ok (s := s)
  rw [hb, Option.bind_some]
  cases b with
  | true => rw [if_pos rfl, Option.bind_some, if_pos rfl, x_awake_eq, Option.bind_some]
  | false =>
    obtain ⟨hs1, hs2, hs3⟩ := hS' rfl
    have hS : Short s := ⟨by omega, by omega, by omega⟩
    rw [if_neg (by decide)]
    obtain ⟨c, hc, hC⟩ := banks_many (way := way) (sl := sl) (pl := pl)
    rw [hc, Option.bind_some]
    cases c with
    | true => rw [if_pos rfl, x_awake_eq, Option.bind_some]
    | false =>
      obtain ⟨hw, hsl, hpl⟩ := hC rfl
      rw [if_neg (by decide), own_eq hS, Option.bind_some, theirs_eq hS, Option.bind_some, dup_int (by omega), Option.bind_some, dup_int (by omega), Option.bind_some, dup_int (by omega), Option.bind_some, Option.bind_some]
      dsimp only
      rw [crest_eq hS (by omega), Option.bind_some, refcrest_eq hS (by omega), Option.bind_some]
      dsimp only
      have e1 : (!decide ((CrestR s p way).2 = (CrestR s p way).2)) = false := by simp
      rw [if_pos rfl, e1, Option.bind_some, if_neg (by decide), x_Hold_eq hS (by omega) (by omega), Option.bind_some, refhold_eq hS (by omega) (by omega), Option.bind_some]
      dsimp only
      rw [if_pos rfl, if_pos rfl, same_eq hS, Option.bind_some, if_pos rfl, eq_int way (by omega), Option.bind_some, if_pos rfl, eq_int sl (by omega), Option.bind_some, if_pos rfl, eq_int pl (by omega), Option.bind_some, if_pos rfl, x_awake_eq, Option.bind_some, Option.bind_some]
end Go.Proofs.Wk

