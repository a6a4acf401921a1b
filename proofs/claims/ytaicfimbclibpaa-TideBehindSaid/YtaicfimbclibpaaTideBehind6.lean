/- What the functions that the law TideBehind reaches come to, and why it holds: part 6. -/
import Derived.Deep.Slices
import Derived.ChangeArms
import Derived.Below
import Derived.KernelRfl
import Derived.Test.YtaicfimbclibpaaTideBehind5
namespace Go.Proofs.Wk
open Go Go.Fw Go.Gx Go.Pl
set_option linter.unusedVariables false
def m_slices_Equal_tideStatetideState_L0 (s10 : (List Int)) (s21 : (List Int)) (s : Int) : Option (Int ⊕ (Unit ⊕ Bool)) :=
 if s < (s10.length : Int) then
 ((ix s10 s).bind fun t18 =>
 (ix s21 s).bind fun t22 =>
 if t18 = t22 then
 ((addc s 1).bind fun t25 =>
 some (.inl t25)) else
 (some (.inr (.inr false)))) else
 (some (.inr (.inl ())))
def m_slices_Equal_tideStatetideState (s10 : (List Int)) (s21 : (List Int)) : Option Bool :=
 if (s10.length : Int) = (s21.length : Int) then
 ((iterM FU (m_slices_Equal_tideStatetideState_L0 s10 s21) 0).bind fun o =>
 oc o (fun j => some true) (fun r_1 => some r_1)) else
 (some false)
set_option maxRecDepth 100000 in
set_option maxHeartbeats 4000000 in
theorem c_slices_Equal_tideStatetideState (s10 : (List Int)) (s21 : (List Int)) (qa0 : Option Addr) (na0 ca0 : Nat) (qa1 : Option Addr) (na1 ca1 : Nat) (w : World) (hw : HV w (keys [] []) [] [] [(aB qa0, aO qa0, RI.enc s10), (aB qa1, aO qa1, RI.enc s21)] w) (hna0 : s10.length = na0) (hqa0 : AOK na0 qa0) (hla0 : na0 ≤ ca0) (hna1 : s21.length = na1) (hqa1 : AOK na1 qa1) (hla1 : na1 ≤ ca1) {res : Bool} (hm : m_slices_Equal_tideStatetideState s10 s21 = some res) :
    Calls Try.prog 114 #[.slice qa0 na0 ca0, .slice qa1 na1 ca1] w (fun en w' => ∃ l : Unit, en = .returned (.bool res) ∧ (True) ∧ HV w (keys [] []) [] [] [] w') := by
  unfold m_slices_Equal_tideStatetideState at hm
  refine g_enter (args := [.slice qa0 na0 ca0, .slice qa1 na1 ca1]) Try.func114 rfl Try.ntmps114 rfl (e := [(0, _), (1, _)]) rfl (H := HV w (keys [] []) [] [] [(aB qa0, aO qa0, RI.enc s10), (aB qa1, aO qa1, RI.enc s21)]) hw ?_
  refine g_seq ?_
  refine g_region ?_
  refine g_val rfl rfl rfl (fun _ _ => v_assign rfl) ?_
  refine g_nil ?_
  refine g_n_then ?_
  refine g_seq ?_
  refine g_seq ?_
  refine g_region ?_
  refine g_val rfl rfl rfl (fun _ _ => v_move rfl) ?_
  refine g_val rfl rfl rfl (fun w _ => v_lenR hna0 (Try.runUnderlying43 w) rfl) ?_
  refine g_val rfl rfl rfl (fun _ _ => v_move rfl) ?_
  refine g_val rfl rfl rfl (fun w _ => v_lenR hna1 (Try.runUnderlying43 w) rfl) ?_
  refine g_val rfl rfl rfl (fun _ _ => v_neq rfl rfl) ?_
  refine g_nil ?_
  refine g_n_then ?_
  refine g_cond rfl (fun h1 => ?_) (fun h1 => ?_)
  · replace hm := ifF (of_ndec_true h1) hm
    refine g_seq ?_
    refine g_region ?_
    refine g_val rfl rfl rfl (fun _ _ => v_assign rfl) ?_
    refine g_nil ?_
    refine g_n_then ?_
    refine g_ret ?_
    refine g_r_then ?_
    obtain rfl := Option.some.inj hm
    refine g_done rfl (fun w hh => (.tmp rfl .nil)) (fun w hh => ⟨(), rfl, trivial, hh.sel [] [] 2 (by decide) (by decide) rfl rfl rfl⟩)
  · replace hm := ifT (of_ndec_false h1) hm
    refine g_skip ?_
    refine g_n_then ?_
    refine g_seq ?_
    refine g_seq ?_
    refine g_region ?_
    refine g_val rfl rfl rfl (fun _ _ => v_move rfl) ?_
    refine g_val rfl rfl rfl (fun w _ => v_lenR hna0 (Try.runUnderlying43 w) rfl) ?_
    refine g_val rfl rfl rfl (fun _ _ => v_move rfl) ?_
    refine g_nil ?_
    refine g_n_then ?_
    obtain ⟨o, h2, h3⟩ := bindO hm
    refine g_cut (ι := Unit) (fun j => o = .inl j) (fun j => []) (fun j => []) (fun j => []) ?_ ?_
    · replace hm := h2
      refine g_block ?_
      refine g_loopF (ι := Unit) hm (fun s l => True) (fun s l => [(0, .slice qa0 na0 ca0), (1, .slice qa1 na1 ca1), (12, .int .i64 (s10.length : Int)), (13, .int .i64 s)]) (fun s l => []) (fun s l => []) () (trivial) ((.cons rfl (.cons rfl (.cons rfl (.cons rfl .nil))))) (fun w hh => hh) (fun s l r hpl hm h4 => ?_)
      unfold m_slices_Equal_tideStatetideState_L0 at hm
      refine g_seq ?_
      refine g_region ?_
      refine g_val rfl rfl rfl (fun _ _ => v_lss rfl rfl) ?_
      refine g_nil ?_
      refine g_n_then ?_
      refine g_seq ?_
      refine g_cond rfl (fun h5 => ?_) (fun h5 => ?_)
      · replace hm := ifT (of_decide_eq_true h5) hm
        refine g_skip ?_
        refine g_n_then ?_
        refine g_seq ?_
        refine g_block ?_
        refine g_seq ?_
        refine g_region ?_
        refine g_val rfl rfl rfl (fun _ _ => v_move rfl) ?_
        refine g_val rfl rfl rfl (fun _ _ => v_assign rfl) ?_
        refine g_nil ?_
        refine g_n_then ?_
        refine g_seq ?_
        refine g_draw none (.free 0 (.free 1 (.hoist 2 (.hoist 3 (.free 4 (.free 5 (.hoist 6 (.hoist 7 (.free 8 .done))))))))) _ rfl (by decide +kernel) (fun w k hh => hh.draw k) (fun w hh => hh) ?_
        refine p_free rfl rfl rfl rfl (fun _ _ => v_move rfl) ?_
        refine p_free rfl rfl rfl rfl (fun _ _ => v_move rfl) ?_
        obtain ⟨t18, h6, hm⟩ := bindO hm
        refine p_hoist rfl rfl rfl rfl (fun w _ => v_ixR h6 (Try.runUnderlying43 w) (Try.sizeOf46 w) rfl rfl hna0 hqa0) ?_
        refine p_hoist rfl rfl rfl rfl (fun w hh => v_ldE RI 0 h6 (Try.isAgg46 w) rfl (hh.seg 0 rfl) rfl (Nat.add_zero _).symm) ?_
        refine p_free rfl rfl rfl rfl (fun _ _ => v_move rfl) ?_
        refine p_free rfl rfl rfl rfl (fun _ _ => v_move rfl) ?_
        obtain ⟨t22, h7, hm⟩ := bindO hm
        refine p_hoist rfl rfl rfl rfl (fun w _ => v_ixR h7 (Try.runUnderlying43 w) (Try.sizeOf46 w) rfl rfl hna1 hqa1) ?_
        refine p_hoist rfl rfl rfl rfl (fun w hh => v_ldE RI 0 h7 (Try.isAgg46 w) rfl (hh.seg 1 rfl) rfl (Nat.add_zero _).symm) ?_
        refine p_free rfl rfl rfl rfl (fun _ _ => v_neq rfl rfl) ?_
        refine p_done ?_
        refine g_n_then ?_
        refine g_cond rfl (fun h8 => ?_) (fun h8 => ?_)
        · replace hm := ifF (of_ndec_true h8) hm
          refine g_seq ?_
          refine g_region ?_
          refine g_val rfl rfl rfl (fun _ _ => v_assign rfl) ?_
          refine g_nil ?_
          refine g_n_then ?_
          refine g_ret ?_
          refine g_r_blk ?_
          refine g_r_then ?_
          refine g_r_then ?_
          refine g_r_blk ?_
          obtain rfl := Option.some.inj hm
          have hbo := h4 _ rfl
          subst hbo
          refine g_r_then ?_
          replace hm := ocR h3
          refine g_r_then ?_
          obtain rfl := Option.some.inj hm
          refine g_done rfl (fun w hh => (.tmp rfl .nil)) (fun w hh => ⟨(), rfl, trivial, hh.sel [] [] 2 (by decide) (by decide) rfl rfl rfl⟩)
        · replace hm := ifT (of_ndec_false h8) hm
          refine g_skip ?_
          refine g_n_blk ?_
          refine g_n_then ?_
          refine g_region ?_
          obtain ⟨t25, h9, hm⟩ := bindO hm
          refine g_val rfl rfl rfl (fun _ _ => v_addc h9 rfl rfl) ?_
          refine g_val rfl rfl rfl (fun _ _ => v_move rfl) ?_
          refine g_nil ?_
          obtain rfl := Option.some.inj hm
          refine g_n_then ?_
          exact g_again' _ () rfl (trivial) ((.cons rfl (.cons rfl (.cons rfl (.cons rfl .nil))))) (fun w hh => hh)
      · replace hm := ifF (of_decide_eq_false h5) hm
        refine g_exit ?_
        refine g_x_then ?_
        refine g_x_then ?_
        refine g_x_blk ?_
        obtain rfl := Option.some.inj hm
        have hbo := h4 _ rfl
        subst hbo
        exact g_leaf () (rfl) (.nil) (fun w hh => hh)
    · intro j hj
      have h10 := hj
      subst h10
      replace hm := ocL h3
      refine g_n_then ?_
      refine g_seq ?_
      refine g_region ?_
      refine g_val rfl rfl rfl (fun _ _ => v_assign rfl) ?_
      refine g_nil ?_
      refine g_n_then ?_
      refine g_ret ?_
      obtain rfl := Option.some.inj hm
      refine g_done rfl (fun w hh => (.tmp rfl .nil)) (fun w hh => ⟨(), rfl, trivial, hh.sel [] [] 2 (by decide) (by decide) rfl rfl rfl⟩)
end Go.Proofs.Wk
namespace Go.Proofs.Wk
open Go Go.Fw Go.Gx Go.Pl
set_option linter.unusedVariables false
def m_laurelkit_Eq_tideState (a0 : (List Int)) (b1 : (List Int)) : Option Bool :=
 (m_slices_Equal_tideStatetideState a0 b1).bind fun t7 =>
 some t7
set_option maxRecDepth 100000 in
set_option maxHeartbeats 4000000 in
theorem c_laurelkit_Eq_tideState (a0 : (List Int)) (b1 : (List Int)) (qa0 : Option Addr) (na0 ca0 : Nat) (qa1 : Option Addr) (na1 ca1 : Nat) (w : World) (hw : HV w (keys [] []) [] [] [(aB qa0, aO qa0, RI.enc a0), (aB qa1, aO qa1, RI.enc b1)] w) (hna0 : a0.length = na0) (hqa0 : AOK na0 qa0) (hla0 : na0 ≤ ca0) (hna1 : b1.length = na1) (hqa1 : AOK na1 qa1) (hla1 : na1 ≤ ca1) {res : Bool} (hm : m_laurelkit_Eq_tideState a0 b1 = some res) :
    Calls Try.prog 39 #[.slice qa0 na0 ca0, .slice qa1 na1 ca1] w (fun en w' => ∃ l : Unit, en = .returned (.bool res) ∧ (True) ∧ HV w (keys [] []) [] [] [] w') := by
  unfold m_laurelkit_Eq_tideState at hm
  refine g_enter (args := [.slice qa0 na0 ca0, .slice qa1 na1 ca1]) Try.func39 rfl Try.ntmps39 rfl (e := [(0, _), (1, _)]) rfl (H := HV w (keys [] []) [] [] [(aB qa0, aO qa0, RI.enc a0), (aB qa1, aO qa1, RI.enc b1)]) hw ?_
  refine g_seq ?_
  refine g_region ?_
  refine g_val rfl rfl rfl (fun _ _ => v_assign rfl) ?_
  refine g_nil ?_
  refine g_n_then ?_
  refine g_seq ?_
  refine g_region ?_
  refine g_val rfl rfl rfl (fun _ _ => v_move rfl) ?_
  refine g_val rfl rfl rfl (fun _ _ => v_move rfl) ?_
  obtain ⟨t7, h1, hm⟩ := bindO hm
  refine g_callH [] [] rfl rfl rfl rfl rfl rfl rfl (fun a w => Try.call114 a w) (fun w hh => c_slices_Equal_tideStatetideState a0 b1 qa0 na0 ca0 qa1 na1 ca1 w (HV.callee (S0 := []) (vs0 := []) hh (roC (hh.rsep (S0 := []) (vs0 := []) 0 rfl) (roC (hh.rsep (S0 := []) (vs0 := []) 1 rfl) roN))) hna0 hqa0 hla0 hna1 hqa1 hla1 h1) (fun l h2 => ?_)
  refine g_val rfl rfl rfl (fun _ _ => v_assign rfl) ?_
  refine g_nil ?_
  refine g_n_then ?_
  refine g_ret ?_
  obtain rfl := Option.some.inj hm
  refine g_done rfl (fun w hh => (.tmp rfl .nil)) (fun w hh => ⟨(), rfl, trivial, hh.sel [] [] 2 (by decide) (by decide) rfl rfl rfl⟩)
end Go.Proofs.Wk
namespace Go.Proofs.Wk
open Go Go.Fw Go.Gx Go.Pl
set_option linter.unusedVariables false
def m_laurellaw01_line_L0 (s0 : Sands) (minute1 : Int) (s : Int) : Option (Int ⊕ (Unit ⊕ Int)) :=
 if s < (s0.table.length : Int) then
 ((ix s0.table s).bind fun t15 =>
 if t15.min = minute1 then
 (some (.inr (.inr t15.h))) else
 (if minute1 < t15.min then
 ((subc s 1).bind fun t30 =>
 (ix s0.table t30).bind fun t31 =>
 (subc t15.min t31.min).bind fun t37 =>
 (mulc t31.h t37).bind fun t41 =>
 (subc t15.h t31.h).bind fun t46 =>
 (subc minute1 t31.min).bind fun t50 =>
 (mulc t46 t50).bind fun t51 =>
 (addc t41 t51).bind fun t52 =>
 (mulc 1000 t37).bind fun t54 =>
 (addc t52 t54).bind fun t55 =>
 (quoc t55 t37).bind fun t57 =>
 (subc t57 1000).bind fun t58 =>
 some (.inr (.inr t58))) else
 ((addc s 1).bind fun t59 =>
 some (.inl t59)))) else
 (some (.inr (.inl ())))
def m_laurellaw01_line (s0 : Sands) (minute1 : Int) : Option Int :=
 (iterM FU (m_laurellaw01_line_L0 s0 minute1) 0).bind fun o =>
 oc o (fun j => some 0) (fun r_1 => some r_1)
set_option maxRecDepth 100000 in
set_option maxHeartbeats 4000000 in
theorem c_laurellaw01_line (s0 : Sands) (minute1 : Int) (qa0 : Option Addr) (na0 ca0 : Nat) (qa1 : Option Addr) (na1 ca1 : Nat) (qa2 : Option Addr) (na2 ca2 : Nat) (w : World) (hw : HV w (keys [] []) [] [] [(aB qa0, aO qa0, RW.enc s0.table), (aB qa1, aO qa1, RI.enc s0.floors), (aB qa2, aO qa2, RS.enc s0.sills)] w) (hna0 : s0.table.length = na0) (hqa0 : AOK na0 qa0) (hla0 : na0 ≤ ca0) (hna1 : s0.floors.length = na1) (hqa1 : AOK na1 qa1) (hla1 : na1 ≤ ca1) (hna2 : s0.sills.length = na2) (hqa2 : AOK na2 qa2) (hla2 : na2 ≤ ca2) {res : Int} (hm : m_laurellaw01_line s0 minute1 = some res) :
    Calls Try.prog 40 #[.agg #[.slice qa0 na0 ca0, .int .i64 s0.wind.lo, .int .i64 s0.wind.hi, .slice qa1 na1 ca1, .slice qa2 na2 ca2], .int .i64 minute1] w (fun en w' => ∃ l : Unit, en = .returned (.int .i64 res) ∧ (True) ∧ HV w (keys [] []) [] [] [] w') := by
  unfold m_laurellaw01_line at hm
  refine g_enter (args := [.agg #[.slice qa0 na0 ca0, .int .i64 s0.wind.lo, .int .i64 s0.wind.hi, .slice qa1 na1 ca1, .slice qa2 na2 ca2], .int .i64 minute1]) Try.func40 rfl Try.ntmps40 rfl (e := [(0, _), (1, _)]) rfl (H := HV w (keys [] []) [] [] [(aB qa0, aO qa0, RW.enc s0.table), (aB qa1, aO qa1, RI.enc s0.floors), (aB qa2, aO qa2, RS.enc s0.sills)]) hw ?_
  refine g_seq ?_
  refine g_region ?_
  refine g_boxV rfl rfl (fun b h1 => ?_)
  refine g_val rfl rfl rfl (fun _ _ => v_assign rfl) ?_
  refine g_nil ?_
  refine g_n_then ?_
  refine g_seq ?_
  refine g_seq ?_
  refine g_region ?_
  refine g_val rfl rfl rfl (fun w _ => v_fieldAddr 0 (Try.runUnderlying29 w) rfl (Try.sizeOf23 w) rfl) ?_
  refine g_val rfl rfl rfl (fun w hh => v_load (Try.isAgg23 w) rfl (hh.cell 0 rfl rfl)) ?_
  refine g_val rfl rfl rfl (fun w _ => v_lenR hna0 (Try.runUnderlying23 w) rfl) ?_
  refine g_val rfl rfl rfl (fun _ _ => v_move rfl) ?_
  refine g_nil ?_
  refine g_n_then ?_
  obtain ⟨o, h2, h3⟩ := bindO hm
  refine g_cut (ι := Unit) (fun j => o = .inl j) (fun j => []) (fun j => [(b, .cells #[.slice qa0 na0 ca0, .int .i64 s0.wind.lo, .int .i64 s0.wind.hi, .slice qa1 na1 ca1, .slice qa2 na2 ca2] 29 (0, 0))]) (fun j => []) ?_ ?_
  · replace hm := h2
    refine g_block ?_
    refine g_loopF (ι := Unit) hm (fun s l => True) (fun s l => [(1, .int .i64 minute1), (2, ptr b 0), (10, .slice qa0 na0 ca0), (11, .int .i64 (s0.table.length : Int)), (12, .int .i64 s)]) (fun s l => [(b, .cells #[.slice qa0 na0 ca0, .int .i64 s0.wind.lo, .int .i64 s0.wind.hi, .slice qa1 na1 ca1, .slice qa2 na2 ca2] 29 (0, 0))]) (fun s l => []) () (trivial) ((.cons rfl (.cons rfl (.cons rfl (.cons rfl (.cons rfl .nil)))))) (fun w hh => hh) (fun s l r hpl hm h4 => ?_)
    unfold m_laurellaw01_line_L0 at hm
    refine g_seq ?_
    refine g_region ?_
    refine g_val rfl rfl rfl (fun _ _ => v_lss rfl rfl) ?_
    refine g_nil ?_
    refine g_n_then ?_
    refine g_seq ?_
    refine g_cond rfl (fun h5 => ?_) (fun h5 => ?_)
    · replace hm := ifT (of_decide_eq_true h5) hm
      refine g_skip ?_
      refine g_n_then ?_
      refine g_seq ?_
      refine g_block ?_
      refine g_seq ?_
      refine g_region ?_
      refine g_val rfl rfl rfl (fun _ _ => v_move rfl) ?_
      obtain ⟨t15, h6, hm⟩ := bindO hm
      refine g_val rfl rfl rfl (fun w _ => v_ixR h6 (Try.runUnderlying23 w) (Try.sizeOf68 w) rfl rfl hna0 hqa0) ?_
      refine g_val rfl rfl rfl (fun w hh => v_ldEA RW 0 [.int .i64 t15.min, .int .i64 t15.h] h6 (Try.isAgg68 w) (Try.sizeOf68 w) rfl (hh.seg 0 rfl) rfl (Nat.add_zero _).symm) ?_
      refine g_allocV (fun w => Try.zeroValue68 w) rfl (fun b_1 h7 => ?_)
      refine g_val rfl rfl rfl (fun _ _ => v_assign rfl) ?_
      refine g_stSA (us := #[_, _]) (cs' := [_, _]) (S' := [_, _]) 0 (fun w => Try.sizeOf68 w) rfl rfl rfl rfl rfl rfl rfl ?_
      refine g_nil ?_
      refine g_n_then ?_
      refine g_seq ?_
      refine g_seq ?_
      refine g_region ?_
      refine g_val rfl rfl rfl (fun w _ => v_fieldAddr 0 (Try.runUnderlying68 w) rfl (Try.sizeOf3 w) rfl) ?_
      refine g_val rfl rfl rfl (fun w hh => v_load (Try.isAgg3 w) rfl (hh.cell 0 rfl rfl)) ?_
      refine g_val rfl rfl rfl (fun _ _ => v_move rfl) ?_
      refine g_val rfl rfl rfl (fun _ _ => v_eql rfl rfl) ?_
      refine g_nil ?_
      refine g_n_then ?_
      refine g_cond rfl (fun h8 => ?_) (fun h8 => ?_)
      · replace hm := ifT (of_decide_eq_true h8) hm
        refine g_seq ?_
        refine g_region ?_
        refine g_val rfl rfl rfl (fun w _ => v_fieldAddr 1 (Try.runUnderlying68 w) rfl (Try.sizeOf3 w) rfl) ?_
        refine g_val rfl rfl rfl (fun w hh => v_load (Try.isAgg3 w) rfl (hh.cell 0 rfl rfl)) ?_
        refine g_val rfl rfl rfl (fun _ _ => v_assign rfl) ?_
        refine g_nil ?_
        refine g_n_then ?_
        refine g_ret ?_
        refine g_r_then ?_
        refine g_r_blk ?_
        refine g_r_then ?_
        refine g_r_then ?_
        refine g_r_blk ?_
        obtain rfl := Option.some.inj hm
        have hbo := h4 _ rfl
        subst hbo
        refine g_r_then ?_
        replace hm := ocR h3
        refine g_r_then ?_
        obtain rfl := Option.some.inj hm
        refine g_done rfl (fun w hh => (.tmp rfl .nil)) (fun w hh => ⟨(), rfl, trivial, hh.sel [] [] 3 (by decide) (by decide) rfl rfl rfl⟩)
      · replace hm := ifF (of_decide_eq_false h8) hm
        refine g_skip ?_
        refine g_n_then ?_
        refine g_seq ?_
        refine g_region ?_
        refine g_val rfl rfl rfl (fun w _ => v_fieldAddr 0 (Try.runUnderlying68 w) rfl (Try.sizeOf3 w) rfl) ?_
        refine g_val rfl rfl rfl (fun w hh => v_load (Try.isAgg3 w) rfl (hh.cell 0 rfl rfl)) ?_
        refine g_val rfl rfl rfl (fun _ _ => v_move rfl) ?_
        refine g_val rfl rfl rfl (fun _ _ => v_gtr rfl rfl) ?_
        refine g_nil ?_
        refine g_n_then ?_
        refine g_cond rfl (fun h9 => ?_) (fun h9 => ?_)
        · replace hm := ifT (of_decide_eq_true h9) hm
          refine g_seq ?_
          refine g_region ?_
          refine g_val rfl rfl rfl (fun w _ => v_fieldAddr 0 (Try.runUnderlying29 w) rfl (Try.sizeOf23 w) rfl) ?_
          refine g_val rfl rfl rfl (fun w hh => v_load (Try.isAgg23 w) rfl (hh.cell 1 rfl rfl)) ?_
          refine g_val rfl rfl rfl (fun _ _ => v_move rfl) ?_
          obtain ⟨t30, h10, hm⟩ := bindO hm
          refine g_val rfl rfl rfl (fun _ _ => v_subc h10 rfl rfl) ?_
          obtain ⟨t31, h11, hm⟩ := bindO hm
          refine g_val rfl rfl rfl (fun w _ => v_ixR h11 (Try.runUnderlying23 w) (Try.sizeOf68 w) rfl rfl hna0 hqa0) ?_
          refine g_val rfl rfl rfl (fun w hh => v_ldEA RW 0 [.int .i64 t31.min, .int .i64 t31.h] h11 (Try.isAgg68 w) (Try.sizeOf68 w) rfl (hh.seg 0 rfl) rfl (Nat.add_zero _).symm) ?_
          refine g_allocV (fun w => Try.zeroValue68 w) rfl (fun b_2 h12 => ?_)
          refine g_stSA (us := #[_, _]) (cs' := [_, _]) (S' := [_, _, _]) 0 (fun w => Try.sizeOf68 w) rfl rfl rfl rfl rfl rfl rfl ?_
          refine g_nil ?_
          refine g_n_then ?_
          refine g_seq ?_
          refine g_region ?_
          refine g_val rfl rfl rfl (fun w _ => v_fieldAddr 0 (Try.runUnderlying68 w) rfl (Try.sizeOf3 w) rfl) ?_
          refine g_val rfl rfl rfl (fun w hh => v_load (Try.isAgg3 w) rfl (hh.cell 1 rfl rfl)) ?_
          refine g_val rfl rfl rfl (fun w _ => v_fieldAddr 0 (Try.runUnderlying68 w) rfl (Try.sizeOf3 w) rfl) ?_
          refine g_val rfl rfl rfl (fun w hh => v_load (Try.isAgg3 w) rfl (hh.cell 0 rfl rfl)) ?_
          obtain ⟨t37, h13, hm⟩ := bindO hm
          refine g_val rfl rfl rfl (fun _ _ => v_subc h13 rfl rfl) ?_
          refine g_val rfl rfl rfl (fun _ _ => v_assign rfl) ?_
          refine g_nil ?_
          refine g_n_then ?_
          refine g_seq ?_
          refine g_region ?_
          refine g_val rfl rfl rfl (fun w _ => v_fieldAddr 1 (Try.runUnderlying68 w) rfl (Try.sizeOf3 w) rfl) ?_
          refine g_val rfl rfl rfl (fun w hh => v_load (Try.isAgg3 w) rfl (hh.cell 0 rfl rfl)) ?_
          refine g_val rfl rfl rfl (fun _ _ => v_move rfl) ?_
          obtain ⟨t41, h14, hm⟩ := bindO hm
          refine g_val rfl rfl rfl (fun _ _ => v_mulc h14 rfl rfl) ?_
          refine g_val rfl rfl rfl (fun w _ => v_fieldAddr 1 (Try.runUnderlying68 w) rfl (Try.sizeOf3 w) rfl) ?_
          refine g_val rfl rfl rfl (fun w hh => v_load (Try.isAgg3 w) rfl (hh.cell 1 rfl rfl)) ?_
          refine g_val rfl rfl rfl (fun w _ => v_fieldAddr 1 (Try.runUnderlying68 w) rfl (Try.sizeOf3 w) rfl) ?_
          refine g_val rfl rfl rfl (fun w hh => v_load (Try.isAgg3 w) rfl (hh.cell 0 rfl rfl)) ?_
          obtain ⟨t46, h15, hm⟩ := bindO hm
          refine g_val rfl rfl rfl (fun _ _ => v_subc h15 rfl rfl) ?_
          refine g_val rfl rfl rfl (fun _ _ => v_move rfl) ?_
          refine g_val rfl rfl rfl (fun w _ => v_fieldAddr 0 (Try.runUnderlying68 w) rfl (Try.sizeOf3 w) rfl) ?_
          refine g_val rfl rfl rfl (fun w hh => v_load (Try.isAgg3 w) rfl (hh.cell 0 rfl rfl)) ?_
          obtain ⟨t50, h16, hm⟩ := bindO hm
          refine g_val rfl rfl rfl (fun _ _ => v_subc h16 rfl rfl) ?_
          obtain ⟨t51, h17, hm⟩ := bindO hm
          refine g_val rfl rfl rfl (fun _ _ => v_mulc h17 rfl rfl) ?_
          obtain ⟨t52, h18, hm⟩ := bindO hm
          refine g_val rfl rfl rfl (fun _ _ => v_addc h18 rfl rfl) ?_
          refine g_val rfl rfl rfl (fun _ _ => v_move rfl) ?_
          obtain ⟨t54, h19, hm⟩ := bindO hm
          refine g_val rfl rfl rfl (fun _ _ => v_mulc h19 rfl rfl) ?_
          obtain ⟨t55, h20, hm⟩ := bindO hm
          refine g_val rfl rfl rfl (fun _ _ => v_addc h20 rfl rfl) ?_
          refine g_val rfl rfl rfl (fun _ _ => v_move rfl) ?_
          obtain ⟨t57, h21, hm⟩ := bindO hm
          refine g_val rfl rfl rfl (fun _ _ => v_quoc h21 rfl rfl) ?_
          obtain ⟨t58, h22, hm⟩ := bindO hm
          refine g_val rfl rfl rfl (fun _ _ => v_subc h22 rfl rfl) ?_
          refine g_val rfl rfl rfl (fun _ _ => v_assign rfl) ?_
          refine g_nil ?_
          refine g_n_then ?_
          refine g_ret ?_
          refine g_r_blk ?_
          refine g_r_then ?_
          refine g_r_then ?_
          refine g_r_blk ?_
          obtain rfl := Option.some.inj hm
          have hbo := h4 _ rfl
          subst hbo
          refine g_r_then ?_
          replace hm := ocR h3
          refine g_r_then ?_
          obtain rfl := Option.some.inj hm
          refine g_done rfl (fun w hh => (.tmp rfl .nil)) (fun w hh => ⟨(), rfl, trivial, hh.sel [] [] 3 (by decide) (by decide) rfl rfl rfl⟩)
        · replace hm := ifF (of_decide_eq_false h9) hm
          refine g_skip ?_
          refine g_n_blk ?_
          refine g_n_then ?_
          refine g_region ?_
          obtain ⟨t59, h23, hm⟩ := bindO hm
          refine g_val rfl rfl rfl (fun _ _ => v_addc h23 rfl rfl) ?_
          refine g_val rfl rfl rfl (fun _ _ => v_move rfl) ?_
          refine g_nil ?_
          obtain rfl := Option.some.inj hm
          refine g_n_then ?_
          exact g_again' _ () rfl (trivial) ((.cons rfl (.cons rfl (.cons rfl (.cons rfl (.cons rfl .nil)))))) (fun w hh => hh.sel [1] [] 0 (by decide) (by decide) rfl rfl rfl)
    · replace hm := ifF (of_decide_eq_false h5) hm
      refine g_exit ?_
      refine g_x_then ?_
      refine g_x_then ?_
      refine g_x_blk ?_
      obtain rfl := Option.some.inj hm
      have hbo := h4 _ rfl
      subst hbo
      exact g_leaf () (rfl) (.nil) (fun w hh => hh)
  · intro j hj
    have h24 := hj
    subst h24
    replace hm := ocL h3
    refine g_n_then ?_
    refine g_seq ?_
    refine g_region ?_
    refine g_val rfl rfl rfl (fun _ _ => v_assign rfl) ?_
    refine g_nil ?_
    refine g_n_then ?_
    refine g_ret ?_
    obtain rfl := Option.some.inj hm
    refine g_done rfl (fun w hh => (.tmp rfl .nil)) (fun w hh => ⟨(), rfl, trivial, hh.sel [] [] 3 (by decide) (by decide) rfl rfl rfl⟩)
end Go.Proofs.Wk
namespace Go.Proofs.Wk
open Go Go.Fw Go.Gx Go.Pl
set_option linter.unusedVariables false
def m_laurellaw01_TideBehind_L1 (t21 : m_laurellaw01_Made_R) (s : Int) (t33 : Int) (s_1 : Int) : Option (Int ⊕ (Unit ⊕ Bool)) :=
 if s_1 < (t21.r0.floors.length : Int) then
 (((x_Hold t21.r0 s [] [s_1]).bind fun t51 =>
 (if t51.2 = 8 then
 (some (!decide (s = s_1))) else
 (some false)).bind fun o_3 =>
 if o_3 = true then
 (some (.inl ())) else
 ((x_Gate t21.r0 s).bind fun t64 =>
 (x_Gate t21.r0 s_1).bind fun t70 =>
 (if t51.2 = 0 then
 ((ix t21.r0.floors s_1).bind fun t80 =>
 if t51.1 = t80 then
 (if t64.2 = 0 then
 (if t70.2 = 0 then
 (some (decide (t64.1 < t70.1))) else
 (some true)) else
 (some false)) else
 (some true)) else
 (some true)).bind fun o_4 =>
 if o_4 = true then
 (some (.inr false)) else
 ((x_At t21.r0 t33 s).bind fun t101 =>
 (x_At t21.r0 t33 s_1).bind fun t108 =>
 (if t101.2 = 0 then
 (if t108.2 = 0 then
 (some (decide (t108.1 < t101.1))) else
 (some true)) else
 (some true)).bind fun o_5 =>
 if o_5 = true then
 (some (.inr false)) else
 (if t108.1 = 0 then
 ((x_Turn t21.r0 s t33).bind fun t128 =>
 (x_Turn t21.r0 s_1 t33).bind fun t135 =>
 (if t128.2 = 0 then
 (if t135.2 = 0 then
 (some (decide (t128.1 < t135.1))) else
 (some true)) else
 (some true)).bind fun o_6 =>
 if o_6 = true then
 (some (.inr false)) else
 (some (.inl ()))) else
 (some (.inl ())))))).bind fun o_2 =>
 oc o_2 (fun j_2 => (addc s_1 1).bind fun t149 =>
 some (.inl t149)) (fun r_2 => some (.inr (.inr r_2)))) else
 (some (.inr (.inl ())))
def m_laurellaw01_TideBehind_L0 (t21 : m_laurellaw01_Made_R) (t33 : Int) (s : Int) : Option (Int ⊕ (Unit ⊕ Bool)) :=
 if s < (t21.r0.floors.length : Int) then
 ((iterM FU (m_laurellaw01_TideBehind_L1 t21 s t33) 0).bind fun o_1 =>
 oc o_1 (fun j_1 => (addc s 1).bind fun t150 =>
 some (.inl t150)) (fun r_3 => some (.inr (.inr r_3)))) else
 (some (.inr (.inl ())))
def m_laurellaw01_TideBehind (numbers0 : (List Int)) (when1 : Int) : Option Bool :=
 (m_laurelkit_Pile numbers0).bind fun t20 =>
 (m_laurellaw01_Made numbers0 t20.t5_1 t20.t5_2 6 8).bind fun t21 =>
 (m_laurellaw01_first t21.r0).bind fun t23 =>
 (m_laurellaw01_last t21.r0).bind fun t27 =>
 (m_laurellaw01_first t21.r0).bind fun t29 =>
 (subc t27 t29).bind fun t30 =>
 (addc t30 1).bind fun t31 =>
 (remc (IntKind.i64.wrap when1) t31).bind fun t32 =>
 (addc t23 t32).bind fun t33 =>
 (iterM FU (m_laurellaw01_TideBehind_L0 t21 t33) 0).bind fun o =>
 oc o (fun j => (x_awake).bind fun t151 =>
 some t151) (fun r_4 => some r_4)
set_option maxRecDepth 100000 in
set_option maxHeartbeats 4000000 in
theorem c_laurellaw01_TideBehind (numbers0 : (List Int)) (when1 : Int) (qa0 : Option Addr) (na0 ca0 : Nat) (w : World) (hw : HV w (keys [] []) [] [] [(aB qa0, aO qa0, RU8.enc numbers0)] w) (hna0 : numbers0.length = na0) (hqa0 : AOK na0 qa0) (hla0 : na0 ≤ ca0) {res : Bool} (hm : m_laurellaw01_TideBehind numbers0 when1 = some res) :
    Calls Try.prog 8 #[.slice qa0 na0 ca0, .int .u8 when1] w (fun en w' => ∃ l : Unit, en = .returned (.bool res) ∧ (True) ∧ HV w (keys [] []) [] [] [] w') := by
  unfold m_laurellaw01_TideBehind at hm
  refine g_enter (args := [.slice qa0 na0 ca0, .int .u8 when1]) Try.func8 rfl Try.ntmps8 rfl (e := [(0, _), (1, _)]) rfl (H := HV w (keys [] []) [] [] [(aB qa0, aO qa0, RU8.enc numbers0)]) hw ?_
  refine g_seq ?_
  refine g_region ?_
  refine g_val rfl rfl rfl (fun _ _ => v_assign rfl) ?_
  refine g_nil ?_
  refine g_n_then ?_
  refine g_seq ?_
  refine g_region ?_
  refine g_val rfl rfl rfl (fun _ _ => v_move rfl) ?_
  obtain ⟨t20, h1, hm⟩ := bindO hm
  refine g_callH [] [] rfl rfl rfl rfl rfl rfl rfl (fun a w => Try.call19 a w) (fun w hh => c_laurelkit_Pile numbers0 qa0 na0 ca0 w (HV.callee (S0 := []) (vs0 := []) hh (roC (hh.rsep (S0 := []) (vs0 := []) 0 rfl) roN)) hna0 hqa0 hla0 h1) (fun l h2 => ?_)
  refine g_sel (S' := [_]) (vs' := []) [0] [] 0 (by decide) (by decide) rfl rfl rfl ?_
  obtain ⟨t21, h3, hm⟩ := bindO hm
  refine g_callH [_] [] rfl rfl rfl rfl rfl rfl rfl (fun a w => Try.call18 a w) (fun w hh => c_laurellaw01_Made numbers0 t20.t5_1 t20.t5_2 6 8 l qa0 na0 ca0 w (HV.callee (S0 := [_]) (vs0 := []) hh (roC (hh.rsep (S0 := [_]) (vs0 := []) 0 rfl) roN)) hna0 hqa0 hla0 h3) (fun l_1 h4 => ?_)
  obtain ⟨h5, h6, h7⟩ := h4
  refine g_sel (S' := [_]) (vs' := [_, _, _]) [0] [0, 1, 2] 0 (by decide) (by decide) rfl rfl rfl ?_
  refine g_allocV (fun w => Try.zeroValue29 w) rfl (fun b h8 => ?_)
  refine g_stSA (us := #[_, _, _, _, _]) (cs' := [_, _, _, _, _]) (S' := [_, _]) 0 (fun w => Try.sizeOf29 w) rfl rfl rfl rfl rfl rfl rfl ?_
  refine g_nil ?_
  refine g_n_then ?_
  refine g_seq ?_
  refine g_draw none (.hoist 0 (.free 2 (.free 3 (.hoist 4 (.hoist 6 (.one 1 (.one 5 (.one 7 (.free 8 (.free 9 (.free 10 (.free 11 (.free 12 .done))))))))))))) _ rfl (by decide +kernel) (fun w k hh => hh.draw k) (fun w hh => hh) ?_
  refine p_hoist rfl rfl rfl rfl (fun w hh => v_loadAgg (vs := [_, _, _, _, _]) (Try.isAgg29 w) (Try.sizeOf29 w) rfl (hh.cells 0 rfl rfl)) ?_
  refine p_free rfl rfl rfl rfl (fun _ _ => v_move rfl) ?_
  refine p_free rfl rfl rfl rfl (fun w _ => v_conv (Try.runUnderlying5 w) (Try.runUnderlying3 w) rfl) ?_
  refine p_hoist rfl rfl rfl rfl (fun w hh => v_loadAgg (vs := [_, _, _, _, _]) (Try.isAgg29 w) (Try.sizeOf29 w) rfl (hh.cells 0 rfl rfl)) ?_
  refine p_hoist rfl rfl rfl rfl (fun w hh => v_loadAgg (vs := [_, _, _, _, _]) (Try.isAgg29 w) (Try.sizeOf29 w) rfl (hh.cells 0 rfl rfl)) ?_
  refine p_one rfl ?_
  obtain ⟨t23, h9, hm⟩ := bindO hm
  refine g_callH [] [] rfl rfl rfl rfl rfl rfl rfl (fun a w => Try.call26 a w) (fun w hh => c_laurellaw01_first t21.r0 (qA l_1.1.q) l_1.1.n l_1.1.cap (qA l_1.2.1.q) l_1.2.1.n l_1.2.1.cap (qA l_1.2.2.q) l_1.2.2.n l_1.2.2.cap w (HV.callee (S0 := []) (vs0 := []) hh (roC (hh.vsepA (S0 := []) (vs0 := []) 0 rfl h5) (roC (hh.vsepA (S0 := []) (vs0 := []) 1 rfl h6) (roC (hh.vsepA (S0 := []) (vs0 := []) 2 rfl h7) roN)))) (vlen RW h5 rfl) (AOK.q (vne h5)) (h5).hle (vlen RI h6 rfl) (AOK.q (vne h6)) (h6).hle (vlen RS h7 rfl) (AOK.q (vne h7)) (h7).hle h9) (fun l_2 h10 => ?_)
  refine p_next (fun w hh => hh) ?_
  refine p_one rfl ?_
  obtain ⟨t27, h11, hm⟩ := bindO hm
  refine g_callH [] [] rfl rfl rfl rfl rfl rfl rfl (fun a w => Try.call27 a w) (fun w hh => c_laurellaw01_last t21.r0 (qA l_1.1.q) l_1.1.n l_1.1.cap (qA l_1.2.1.q) l_1.2.1.n l_1.2.1.cap (qA l_1.2.2.q) l_1.2.2.n l_1.2.2.cap w (HV.callee (S0 := []) (vs0 := []) hh (roC (hh.vsepA (S0 := []) (vs0 := []) 0 rfl h5) (roC (hh.vsepA (S0 := []) (vs0 := []) 1 rfl h6) (roC (hh.vsepA (S0 := []) (vs0 := []) 2 rfl h7) roN)))) (vlen RW h5 rfl) (AOK.q (vne h5)) (h5).hle (vlen RI h6 rfl) (AOK.q (vne h6)) (h6).hle (vlen RS h7 rfl) (AOK.q (vne h7)) (h7).hle h11) (fun l_3 h12 => ?_)
  refine p_next (fun w hh => hh) ?_
  refine p_one rfl ?_
  obtain ⟨t29, h13, hm⟩ := bindO hm
  refine g_callH [] [] rfl rfl rfl rfl rfl rfl rfl (fun a w => Try.call26 a w) (fun w hh => c_laurellaw01_first t21.r0 (qA l_1.1.q) l_1.1.n l_1.1.cap (qA l_1.2.1.q) l_1.2.1.n l_1.2.1.cap (qA l_1.2.2.q) l_1.2.2.n l_1.2.2.cap w (HV.callee (S0 := []) (vs0 := []) hh (roC (hh.vsepA (S0 := []) (vs0 := []) 0 rfl h5) (roC (hh.vsepA (S0 := []) (vs0 := []) 1 rfl h6) (roC (hh.vsepA (S0 := []) (vs0 := []) 2 rfl h7) roN)))) (vlen RW h5 rfl) (AOK.q (vne h5)) (h5).hle (vlen RI h6 rfl) (AOK.q (vne h6)) (h6).hle (vlen RS h7 rfl) (AOK.q (vne h7)) (h7).hle h13) (fun l_4 h14 => ?_)
  refine p_next (fun w hh => hh) ?_
  obtain ⟨t30, h15, hm⟩ := bindO hm
  refine p_free rfl rfl rfl rfl (fun _ _ => v_subc h15 rfl rfl) ?_
  obtain ⟨t31, h16, hm⟩ := bindO hm
  refine p_free rfl rfl rfl rfl (fun _ _ => v_addc h16 rfl rfl) ?_
  obtain ⟨t32, h17, hm⟩ := bindO hm
  refine p_free rfl rfl rfl rfl (fun _ _ => v_remc h17 rfl rfl) ?_
  obtain ⟨t33, h18, hm⟩ := bindO hm
  refine p_free rfl rfl rfl rfl (fun _ _ => v_addc h18 rfl rfl) ?_
  refine p_free rfl rfl rfl rfl (fun _ _ => v_assign rfl) ?_
  refine p_done ?_
  refine g_n_then ?_
  refine g_seq ?_
  refine g_seq ?_
  refine g_region ?_
  refine g_val rfl rfl rfl (fun w _ => v_fieldAddr 3 (Try.runUnderlying29 w) rfl (Try.sizeOf26 w) rfl) ?_
  refine g_val rfl rfl rfl (fun w hh => v_load (Try.isAgg26 w) rfl (hh.cell 0 rfl rfl)) ?_
  refine g_val rfl rfl rfl (fun w _ => v_lenN (vlen RI h6 rfl) (Try.runUnderlying26 w) rfl) ?_
  refine g_val rfl rfl rfl (fun _ _ => v_move rfl) ?_
  refine g_nil ?_
  refine g_n_then ?_
  obtain ⟨o, h19, h20⟩ := bindO hm
  refine g_cut (ι := Unit) (fun j => o = .inl j) (fun j => []) (fun j => [(b, .cells #[slv l_1.1.q l_1.1.n l_1.1.cap, .int .i64 t21.r0.wind.lo, .int .i64 t21.r0.wind.hi, slv l_1.2.1.q l_1.2.1.n l_1.2.1.cap, slv l_1.2.2.q l_1.2.2.n l_1.2.2.cap] 29 (0, 0)), (l, .cells #[.slice qa0 na0 ca0, .int .i64 t21.b0_1, .int .u32 t21.b0_2] 138 (0, 0))]) (fun j => [⟨68, RW.enc t21.r0.table, l_1.1.sp, l_1.1.q⟩, ⟨3, RI.enc t21.r0.floors, l_1.2.1.sp, l_1.2.1.q⟩, ⟨51, RS.enc t21.r0.sills, l_1.2.2.sp, l_1.2.2.q⟩]) ?_ ?_
  · replace hm := h19
    refine g_block ?_
    refine g_loopF (ι := Unit) hm (fun s l_5 => True) (fun s l_5 => [(5, ptr b 0), (6, .int .i64 t33), (36, .int .i64 (t21.r0.floors.length : Int)), (37, .int .i64 s)]) (fun s l_5 => [(b, .cells #[slv l_1.1.q l_1.1.n l_1.1.cap, .int .i64 t21.r0.wind.lo, .int .i64 t21.r0.wind.hi, slv l_1.2.1.q l_1.2.1.n l_1.2.1.cap, slv l_1.2.2.q l_1.2.2.n l_1.2.2.cap] 29 (0, 0)), (l, .cells #[.slice qa0 na0 ca0, .int .i64 t21.b0_1, .int .u32 t21.b0_2] 138 (0, 0))]) (fun s l_5 => [⟨68, RW.enc t21.r0.table, l_1.1.sp, l_1.1.q⟩, ⟨3, RI.enc t21.r0.floors, l_1.2.1.sp, l_1.2.1.q⟩, ⟨51, RS.enc t21.r0.sills, l_1.2.2.sp, l_1.2.2.q⟩]) () (trivial) ((.cons rfl (.cons rfl (.cons rfl (.cons rfl .nil))))) (fun w hh => hh) (fun s l_5 r hpl hm h21 => ?_)
    unfold m_laurellaw01_TideBehind_L0 at hm
    refine g_seq ?_
    refine g_region ?_
    refine g_val rfl rfl rfl (fun _ _ => v_lss rfl rfl) ?_
    refine g_nil ?_
    refine g_n_then ?_
    refine g_seq ?_
    refine g_cond rfl (fun h22 => ?_) (fun h22 => ?_)
    · replace hm := ifT (of_decide_eq_true h22) hm
      refine g_skip ?_
      refine g_n_then ?_
      refine g_seq ?_
      refine g_block ?_
      refine g_seq ?_
      refine g_region ?_
      refine g_val rfl rfl rfl (fun _ _ => v_move rfl) ?_
      refine g_val rfl rfl rfl (fun _ _ => v_assign rfl) ?_
      refine g_nil ?_
      refine g_n_then ?_
      refine g_seq ?_
      refine g_region ?_
      refine g_val rfl rfl rfl (fun w _ => v_fieldAddr 3 (Try.runUnderlying29 w) rfl (Try.sizeOf26 w) rfl) ?_
      refine g_val rfl rfl rfl (fun w hh => v_load (Try.isAgg26 w) rfl (hh.cell 0 rfl rfl)) ?_
      refine g_val rfl rfl rfl (fun w _ => v_lenN (vlen RI h6 rfl) (Try.runUnderlying26 w) rfl) ?_
      refine g_val rfl rfl rfl (fun _ _ => v_move rfl) ?_
      refine g_nil ?_
      refine g_n_then ?_
      obtain ⟨o_1, h23, h24⟩ := bindO hm
      refine g_cut (ι := Unit) (fun j_1 => o_1 = .inl j_1) (fun j_1 => [(5, ptr b 0), (6, .int .i64 t33), (36, .int .i64 (t21.r0.floors.length : Int)), (37, .int .i64 s)]) (fun j_1 => [(b, .cells #[slv l_1.1.q l_1.1.n l_1.1.cap, .int .i64 t21.r0.wind.lo, .int .i64 t21.r0.wind.hi, slv l_1.2.1.q l_1.2.1.n l_1.2.1.cap, slv l_1.2.2.q l_1.2.2.n l_1.2.2.cap] 29 (0, 0)), (l, .cells #[.slice qa0 na0 ca0, .int .i64 t21.b0_1, .int .u32 t21.b0_2] 138 (0, 0))]) (fun j_1 => [⟨68, RW.enc t21.r0.table, l_1.1.sp, l_1.1.q⟩, ⟨3, RI.enc t21.r0.floors, l_1.2.1.sp, l_1.2.1.q⟩, ⟨51, RS.enc t21.r0.sills, l_1.2.2.sp, l_1.2.2.q⟩]) ?_ ?_
      · replace hm := h23
        refine g_block ?_
        refine g_loopF (ι := Unit) hm (fun s_1 l_6 => True) (fun s_1 l_6 => [(5, ptr b 0), (6, .int .i64 t33), (7, .int .i64 s), (36, .int .i64 (t21.r0.floors.length : Int)), (37, .int .i64 s), (42, .int .i64 (t21.r0.floors.length : Int)), (43, .int .i64 s_1)]) (fun s_1 l_6 => [(b, .cells #[slv l_1.1.q l_1.1.n l_1.1.cap, .int .i64 t21.r0.wind.lo, .int .i64 t21.r0.wind.hi, slv l_1.2.1.q l_1.2.1.n l_1.2.1.cap, slv l_1.2.2.q l_1.2.2.n l_1.2.2.cap] 29 (0, 0)), (l, .cells #[.slice qa0 na0 ca0, .int .i64 t21.b0_1, .int .u32 t21.b0_2] 138 (0, 0))]) (fun s_1 l_6 => [⟨68, RW.enc t21.r0.table, l_1.1.sp, l_1.1.q⟩, ⟨3, RI.enc t21.r0.floors, l_1.2.1.sp, l_1.2.1.q⟩, ⟨51, RS.enc t21.r0.sills, l_1.2.2.sp, l_1.2.2.q⟩]) () (trivial) ((.cons rfl (.cons rfl (.cons rfl (.cons rfl (.cons rfl (.cons rfl (.cons rfl .nil)))))))) (fun w hh => hh) (fun s_1 l_6 r_1 hpl hm h25 => ?_)
        unfold m_laurellaw01_TideBehind_L1 at hm
        refine g_seq ?_
        refine g_region ?_
        refine g_val rfl rfl rfl (fun _ _ => v_lss rfl rfl) ?_
        refine g_nil ?_
        refine g_n_then ?_
        refine g_seq ?_
        refine g_cond rfl (fun h26 => ?_) (fun h26 => ?_)
        · replace hm := ifT (of_decide_eq_true h26) hm
          refine g_skip ?_
          refine g_n_then ?_
          refine g_seq ?_
          obtain ⟨o_2, h27, h28⟩ := bindO hm
          refine g_cut (ι := Unit) (fun j_2 => o_2 = .inl j_2) (fun j_2 => [(5, ptr b 0), (6, .int .i64 t33), (7, .int .i64 s), (36, .int .i64 (t21.r0.floors.length : Int)), (37, .int .i64 s), (42, .int .i64 (t21.r0.floors.length : Int)), (43, .int .i64 s_1)]) (fun j_2 => [(b, .cells #[slv l_1.1.q l_1.1.n l_1.1.cap, .int .i64 t21.r0.wind.lo, .int .i64 t21.r0.wind.hi, slv l_1.2.1.q l_1.2.1.n l_1.2.1.cap, slv l_1.2.2.q l_1.2.2.n l_1.2.2.cap] 29 (0, 0)), (l, .cells #[.slice qa0 na0 ca0, .int .i64 t21.b0_1, .int .u32 t21.b0_2] 138 (0, 0))]) (fun j_2 => [⟨68, RW.enc t21.r0.table, l_1.1.sp, l_1.1.q⟩, ⟨3, RI.enc t21.r0.floors, l_1.2.1.sp, l_1.2.1.q⟩, ⟨51, RS.enc t21.r0.sills, l_1.2.2.sp, l_1.2.2.q⟩]) ?_ ?_
          · replace hm := h27
            refine g_block ?_
            refine g_seq ?_
            refine g_region ?_
            refine g_val rfl rfl rfl (fun _ _ => v_move rfl) ?_
            refine g_val rfl rfl rfl (fun _ _ => v_assign rfl) ?_
            refine g_nil ?_
            refine g_n_then ?_
            refine g_seq ?_
            refine g_region ?_
            refine g_val rfl rfl rfl (fun w hh => v_loadAgg (vs := [_, _, _, _, _]) (Try.isAgg29 w) (Try.sizeOf29 w) rfl (hh.cells 0 rfl rfl)) ?_
            refine g_val rfl rfl rfl (fun _ _ => v_move rfl) ?_
            refine g_val rfl rfl rfl (fun _ _ => v_move rfl) ?_
            refine g_vlit RI [s_1] (ps := [(0, _)]) (cells := [_]) (fun w => Try.runUnderlying26 w) (fun w => Try.sizeOf3 w) (fun w => Try.zeroValue3 w) rfl rfl rfl rfl rfl rfl rfl rfl (fun L h29 => ?_)
            obtain ⟨t51, h30, hm⟩ := bindO hm
            refine g_callH [] [] rfl rfl rfl rfl rfl rfl rfl (fun a w => Try.call51 a w) (fun w hh => cx_Hold t21.r0 s [] [s_1] l_1.1.q l_1.1.n l_1.1.cap l_1.2.1.q l_1.2.1.n l_1.2.1.cap l_1.2.2.q l_1.2.2.n l_1.2.2.cap none 0 0 L.q L.n L.cap w (HV.callee (S0 := []) (vs0 := []) hh (roC (hh.vsep (S0 := []) (vs0 := []) 1 rfl h5) (roC (hh.vsep (S0 := []) (vs0 := []) 2 rfl h6) (roC (hh.vsep (S0 := []) (vs0 := []) 3 rfl h7) (roC ⟨segOK.nil, fun hx => absurd rfl hx⟩ (roC (hh.vsep (S0 := []) (vs0 := []) 0 rfl h29) roN)))))) (vlen RW h5 rfl) (vne h5) (h5).hle (vlen RI h6 rfl) (vne h6) (h6).hle (vlen RS h7 rfl) (vne h7) (h7).hle rfl (fun h0 => absurd h0 (Nat.lt_irrefl 0)) (Nat.le_refl 0) (vlen RI h29 rfl) (vne h29) (h29).hle h30) (fun l_7 h31 => ?_)
            refine g_val rfl rfl rfl (fun _ _ => v_move rfl) ?_
            refine g_val rfl rfl rfl (fun _ _ => v_extract rfl rfl) ?_
            refine g_val rfl rfl rfl (fun _ _ => v_extract rfl rfl) ?_
            refine g_val rfl rfl rfl (fun _ _ => v_assign rfl) ?_
            refine g_val rfl rfl rfl (fun _ _ => v_assign rfl) ?_
            refine g_nil ?_
            refine g_n_then ?_
            refine g_seq ?_
            refine g_seq ?_
            obtain ⟨o_3, h32, h33⟩ := bindO hm
            refine g_cut (ι := Unit) (fun l_8 => True) (fun l_8 => [(5, ptr b 0), (6, .int .i64 t33), (7, .int .i64 s), (8, .int .i64 s_1), (9, .int .i64 t51.1), (10, .int .i64 t51.2), (36, .int .i64 (t21.r0.floors.length : Int)), (37, .int .i64 s), (42, .int .i64 (t21.r0.floors.length : Int)), (43, .int .i64 s_1), (60, .bool o_3)]) (fun l_8 => [(b, .cells #[slv l_1.1.q l_1.1.n l_1.1.cap, .int .i64 t21.r0.wind.lo, .int .i64 t21.r0.wind.hi, slv l_1.2.1.q l_1.2.1.n l_1.2.1.cap, slv l_1.2.2.q l_1.2.2.n l_1.2.2.cap] 29 (0, 0)), (l, .cells #[.slice qa0 na0 ca0, .int .i64 t21.b0_1, .int .u32 t21.b0_2] 138 (0, 0))]) (fun l_8 => [⟨68, RW.enc t21.r0.table, l_1.1.sp, l_1.1.q⟩, ⟨3, RI.enc t21.r0.floors, l_1.2.1.sp, l_1.2.1.q⟩, ⟨51, RS.enc t21.r0.sills, l_1.2.2.sp, l_1.2.2.q⟩]) ?_ ?_
            · replace hm := h32
              refine g_region ?_
              refine g_val rfl rfl rfl (fun _ _ => v_move rfl) ?_
              refine g_val rfl rfl rfl (fun _ _ => v_eql rfl rfl) ?_
              refine g_val rfl rfl rfl (fun _ _ => v_move rfl) ?_
              refine g_case 56 rfl (fun h34 => ?_) (fun h34 => ?_)
              · replace hm := ifT (of_decide_eq_true h34) hm
                refine v_unguard rfl rfl ?_
                refine g_val rfl rfl rfl (fun _ _ => v_move rfl) ?_
                refine v_unguard rfl rfl ?_
                refine g_val rfl rfl rfl (fun _ _ => v_move rfl) ?_
                refine v_unguard rfl rfl ?_
                refine g_val rfl rfl rfl (fun _ _ => v_neq rfl rfl) ?_
                refine g_val rfl rfl rfl (fun _ _ => v_pickT rfl rfl) ?_
                refine g_nil ?_
                obtain rfl := Option.some.inj hm
                exact g_leaf () (trivial) ((.cons rfl (.cons rfl (.cons rfl (.cons rfl (.cons rfl (.cons rfl (.cons rfl (.cons rfl (.cons rfl (.cons rfl (.cons rfl .nil)))))))))))) (fun w hh => hh.sel [0, 1] [1, 2, 3] 0 (by decide) (by decide) rfl rfl rfl)
              · replace hm := ifF (of_decide_eq_false h34) hm
                refine g_skipG rfl rfl rfl rfl rfl rfl ?_
                refine g_skipG rfl rfl rfl rfl rfl rfl ?_
                refine g_skipG rfl rfl rfl rfl rfl rfl ?_
                refine g_val rfl rfl rfl (fun _ _ => v_pickF rfl rfl) ?_
                refine g_nil ?_
                obtain rfl := Option.some.inj hm
                exact g_leaf () (trivial) ((.cons rfl (.cons rfl (.cons rfl (.cons rfl (.cons rfl (.cons rfl (.cons rfl (.cons rfl (.cons rfl (.cons rfl (.cons rfl .nil)))))))))))) (fun w hh => hh.sel [0, 1] [1, 2, 3] 0 (by decide) (by decide) rfl rfl rfl)
            · intro l_8 hj
              replace hm := h33
              refine g_n_then ?_
              refine g_cond rfl (fun h35 => ?_) (fun h35 => ?_)
              · replace hm := ifT (h35) hm
                refine g_exit ?_
                refine g_x_then ?_
                refine g_x_blk ?_
                obtain rfl := Option.some.inj hm
                exact g_leaf () (rfl) ((.cons rfl (.cons rfl (.cons rfl (.cons rfl (.cons rfl (.cons rfl (.cons rfl .nil)))))))) (fun w hh => hh)
              · replace hm := ifF ((fun hh => Bool.noConfusion ((h35).symm.trans hh))) hm
                refine g_skip ?_
                refine g_n_then ?_
                refine g_seq ?_
                refine g_region ?_
                refine g_val rfl rfl rfl (fun w hh => v_loadAgg (vs := [_, _, _, _, _]) (Try.isAgg29 w) (Try.sizeOf29 w) rfl (hh.cells 0 rfl rfl)) ?_
                refine g_val rfl rfl rfl (fun _ _ => v_move rfl) ?_
                obtain ⟨t64, h36, hm⟩ := bindO hm
                refine g_callH [] [] rfl rfl rfl rfl rfl rfl rfl (fun a w => Try.call31 a w) (fun w hh => cx_Gate t21.r0 s l_1.1.q l_1.1.n l_1.1.cap l_1.2.1.q l_1.2.1.n l_1.2.1.cap l_1.2.2.q l_1.2.2.n l_1.2.2.cap w (HV.callee (S0 := []) (vs0 := []) hh (roC (hh.vsep (S0 := []) (vs0 := []) 0 rfl h5) (roC (hh.vsep (S0 := []) (vs0 := []) 1 rfl h6) (roC (hh.vsep (S0 := []) (vs0 := []) 2 rfl h7) roN)))) (vlen RW h5 rfl) (vne h5) (h5).hle (vlen RI h6 rfl) (vne h6) (h6).hle (vlen RS h7 rfl) (vne h7) (h7).hle h36) (fun l_9 h37 => ?_)
                refine g_val rfl rfl rfl (fun _ _ => v_move rfl) ?_
                refine g_val rfl rfl rfl (fun _ _ => v_extract rfl rfl) ?_
                refine g_val rfl rfl rfl (fun _ _ => v_extract rfl rfl) ?_
                refine g_val rfl rfl rfl (fun _ _ => v_assign rfl) ?_
                refine g_val rfl rfl rfl (fun _ _ => v_assign rfl) ?_
                refine g_nil ?_
                refine g_n_then ?_
                refine g_seq ?_
                refine g_region ?_
                refine g_val rfl rfl rfl (fun w hh => v_loadAgg (vs := [_, _, _, _, _]) (Try.isAgg29 w) (Try.sizeOf29 w) rfl (hh.cells 0 rfl rfl)) ?_
                refine g_val rfl rfl rfl (fun _ _ => v_move rfl) ?_
                obtain ⟨t70, h38, hm⟩ := bindO hm
                refine g_callH [] [] rfl rfl rfl rfl rfl rfl rfl (fun a w => Try.call31 a w) (fun w hh => cx_Gate t21.r0 s_1 l_1.1.q l_1.1.n l_1.1.cap l_1.2.1.q l_1.2.1.n l_1.2.1.cap l_1.2.2.q l_1.2.2.n l_1.2.2.cap w (HV.callee (S0 := []) (vs0 := []) hh (roC (hh.vsep (S0 := []) (vs0 := []) 0 rfl h5) (roC (hh.vsep (S0 := []) (vs0 := []) 1 rfl h6) (roC (hh.vsep (S0 := []) (vs0 := []) 2 rfl h7) roN)))) (vlen RW h5 rfl) (vne h5) (h5).hle (vlen RI h6 rfl) (vne h6) (h6).hle (vlen RS h7 rfl) (vne h7) (h7).hle h38) (fun l_10 h39 => ?_)
                refine g_val rfl rfl rfl (fun _ _ => v_move rfl) ?_
                refine g_val rfl rfl rfl (fun _ _ => v_extract rfl rfl) ?_
                refine g_val rfl rfl rfl (fun _ _ => v_extract rfl rfl) ?_
                refine g_val rfl rfl rfl (fun _ _ => v_assign rfl) ?_
                refine g_val rfl rfl rfl (fun _ _ => v_assign rfl) ?_
                refine g_nil ?_
                refine g_n_then ?_
                refine g_seq ?_
                refine g_seq ?_
                obtain ⟨o_4, h40, h41⟩ := bindO hm
                refine g_cut (ι := Unit) (fun l_11 => True) (fun l_11 => [(5, ptr b 0), (6, .int .i64 t33), (7, .int .i64 s), (8, .int .i64 s_1), (36, .int .i64 (t21.r0.floors.length : Int)), (37, .int .i64 s), (42, .int .i64 (t21.r0.floors.length : Int)), (43, .int .i64 s_1), (96, .bool o_4)]) (fun l_11 => [(b, .cells #[slv l_1.1.q l_1.1.n l_1.1.cap, .int .i64 t21.r0.wind.lo, .int .i64 t21.r0.wind.hi, slv l_1.2.1.q l_1.2.1.n l_1.2.1.cap, slv l_1.2.2.q l_1.2.2.n l_1.2.2.cap] 29 (0, 0)), (l, .cells #[.slice qa0 na0 ca0, .int .i64 t21.b0_1, .int .u32 t21.b0_2] 138 (0, 0))]) (fun l_11 => [⟨68, RW.enc t21.r0.table, l_1.1.sp, l_1.1.q⟩, ⟨3, RI.enc t21.r0.floors, l_1.2.1.sp, l_1.2.1.q⟩, ⟨51, RS.enc t21.r0.sills, l_1.2.2.sp, l_1.2.2.q⟩]) ?_ ?_
                · replace hm := h40
                  refine g_region ?_
                  refine g_val rfl rfl rfl (fun _ _ => v_move rfl) ?_
                  refine g_val rfl rfl rfl (fun _ _ => v_neq rfl rfl) ?_
                  refine g_val rfl rfl rfl (fun _ _ => v_move rfl) ?_
                  refine g_case 75 rfl (fun h42 => ?_) (fun h42 => ?_)
                  · replace hm := ifF (of_ndec_true h42) hm
                    refine g_skipG rfl rfl rfl rfl rfl rfl ?_
                    refine g_skipG rfl rfl rfl rfl rfl rfl ?_
                    refine g_skipG rfl rfl rfl rfl rfl rfl ?_
                    refine g_skipG rfl rfl rfl rfl rfl rfl ?_
                    refine g_skipG rfl rfl rfl rfl rfl rfl ?_
                    refine g_skipG rfl rfl rfl rfl rfl rfl ?_
                    refine g_skipG rfl rfl rfl rfl rfl rfl ?_
                    refine g_val rfl rfl rfl (fun _ _ => v_pickT rfl rfl) ?_
                    refine g_val rfl rfl rfl (fun _ _ => v_move rfl) ?_
                    refine g_skipG rfl rfl rfl rfl rfl rfl ?_
                    refine g_skipG rfl rfl rfl rfl rfl rfl ?_
                    refine g_skipG rfl rfl rfl rfl rfl rfl ?_
                    refine g_skipU' rfl rfl rfl rfl rfl ?_
                    refine g_skipU' rfl rfl rfl rfl rfl ?_
                    refine g_skipU' rfl rfl rfl rfl rfl ?_
                    refine g_skipU' rfl rfl rfl rfl rfl ?_
                    refine g_skipU' rfl rfl rfl rfl rfl ?_
                    refine g_skipU' rfl rfl rfl rfl rfl ?_
                    refine g_skipU' rfl rfl rfl rfl rfl ?_
                    refine g_skipG rfl rfl rfl rfl rfl rfl ?_
                    refine g_val rfl rfl rfl (fun _ _ => v_pickT rfl rfl) ?_
                    refine g_nil ?_
                    obtain rfl := Option.some.inj hm
                    exact g_leaf () (trivial) ((.cons rfl (.cons rfl (.cons rfl (.cons rfl (.cons rfl (.cons rfl (.cons rfl (.cons rfl (.cons rfl .nil)))))))))) (fun w hh => hh)
                  · replace hm := ifT (of_ndec_false h42) hm
                    refine v_unguard rfl rfl ?_
                    refine g_val rfl rfl rfl (fun _ _ => v_move rfl) ?_
                    refine v_unguard rfl rfl ?_
                    refine g_val rfl rfl rfl (fun w _ => v_fieldAddr 3 (Try.runUnderlying29 w) rfl (Try.sizeOf26 w) rfl) ?_
                    refine v_unguard rfl rfl ?_
                    refine g_val rfl rfl rfl (fun w hh => v_load (Try.isAgg26 w) rfl (hh.cell 0 rfl rfl)) ?_
                    refine v_unguard rfl rfl ?_
                    refine g_val rfl rfl rfl (fun _ _ => v_move rfl) ?_
                    refine v_unguard rfl rfl ?_
                    obtain ⟨t80, h43, hm⟩ := bindO hm
                    refine g_val rfl rfl rfl (fun w _ => v_ixA h43 (Try.runUnderlying26 w) (Try.sizeOf3 w) rfl rfl (vlen RI h6 rfl) (vne h6)) ?_
                    refine v_unguard rfl rfl ?_
                    refine g_val rfl rfl rfl (fun w hh => v_ldE RI 0 h43 (Try.isAgg3 w) rfl (hh.vseg 1 rfl h6) rfl (Nat.add_zero _).symm) ?_
                    refine v_unguard rfl rfl ?_
                    refine g_val rfl rfl rfl (fun _ _ => v_neq rfl rfl) ?_
                    refine g_val rfl rfl rfl (fun _ _ => v_pickF rfl rfl) ?_
                    refine g_val rfl rfl rfl (fun _ _ => v_move rfl) ?_
                    refine g_case 84 rfl (fun h44 => ?_) (fun h44 => ?_)
                    · replace hm := ifF (of_ndec_true h44) hm
                      refine g_skipG rfl rfl rfl rfl rfl rfl ?_
                      refine g_skipG rfl rfl rfl rfl rfl rfl ?_
                      refine g_skipG rfl rfl rfl rfl rfl rfl ?_
                      refine g_skipU' rfl rfl rfl rfl rfl ?_
                      refine g_skipU' rfl rfl rfl rfl rfl ?_
                      refine g_skipU' rfl rfl rfl rfl rfl ?_
                      refine g_skipU' rfl rfl rfl rfl rfl ?_
                      refine g_skipU' rfl rfl rfl rfl rfl ?_
                      refine g_skipU' rfl rfl rfl rfl rfl ?_
                      refine g_skipU' rfl rfl rfl rfl rfl ?_
                      refine g_skipG rfl rfl rfl rfl rfl rfl ?_
                      refine g_val rfl rfl rfl (fun _ _ => v_pickT rfl rfl) ?_
                      refine g_nil ?_
                      obtain rfl := Option.some.inj hm
                      exact g_leaf () (trivial) ((.cons rfl (.cons rfl (.cons rfl (.cons rfl (.cons rfl (.cons rfl (.cons rfl (.cons rfl (.cons rfl .nil)))))))))) (fun w hh => hh)
                    · replace hm := ifT (of_ndec_false h44) hm
                      refine v_unguard rfl rfl ?_
                      refine g_val rfl rfl rfl (fun _ _ => v_move rfl) ?_
                      refine v_unguard rfl rfl ?_
                      refine g_val rfl rfl rfl (fun _ _ => v_eql rfl rfl) ?_
                      refine v_unguard rfl rfl ?_
                      refine g_val rfl rfl rfl (fun _ _ => v_move rfl) ?_
                      refine g_case 87 rfl (fun h45 => ?_) (fun h45 => ?_)
                      · replace hm := ifT (of_decide_eq_true h45) hm
                        refine v_unguard rfl rfl ?_
                        refine g_val rfl rfl rfl (fun _ _ => v_move rfl) ?_
                        refine v_unguard rfl rfl ?_
                        refine g_val rfl rfl rfl (fun _ _ => v_neq rfl rfl) ?_
                        refine v_unguard rfl rfl ?_
                        refine g_val rfl rfl rfl (fun _ _ => v_move rfl) ?_
                        refine g_case 90 rfl (fun h46 => ?_) (fun h46 => ?_)
                        · replace hm := ifF (of_ndec_true h46) hm
                          refine g_skipG rfl rfl rfl rfl rfl rfl ?_
                          refine g_skipG rfl rfl rfl rfl rfl rfl ?_
                          refine g_skipG rfl rfl rfl rfl rfl rfl ?_
                          refine v_unguard rfl rfl ?_
                          refine g_val rfl rfl rfl (fun _ _ => v_pickT rfl rfl) ?_
                          refine v_unguard rfl rfl ?_
                          refine g_val rfl rfl rfl (fun _ _ => v_pickT rfl rfl) ?_
                          refine g_val rfl rfl rfl (fun _ _ => v_pickF rfl rfl) ?_
                          refine g_nil ?_
                          obtain rfl := Option.some.inj hm
                          exact g_leaf () (trivial) ((.cons rfl (.cons rfl (.cons rfl (.cons rfl (.cons rfl (.cons rfl (.cons rfl (.cons rfl (.cons rfl .nil)))))))))) (fun w hh => hh)
                        · replace hm := ifT (of_ndec_false h46) hm
                          refine v_unguard rfl rfl ?_
                          refine g_val rfl rfl rfl (fun _ _ => v_move rfl) ?_
                          refine v_unguard rfl rfl ?_
                          refine g_val rfl rfl rfl (fun _ _ => v_move rfl) ?_
                          refine v_unguard rfl rfl ?_
                          refine g_val rfl rfl rfl (fun _ _ => v_lss rfl rfl) ?_
                          refine v_unguard rfl rfl ?_
                          refine g_val rfl rfl rfl (fun _ _ => v_pickF rfl rfl) ?_
                          refine v_unguard rfl rfl ?_
                          refine g_val rfl rfl rfl (fun _ _ => v_pickT rfl rfl) ?_
                          refine g_val rfl rfl rfl (fun _ _ => v_pickF rfl rfl) ?_
                          refine g_nil ?_
                          obtain rfl := Option.some.inj hm
                          exact g_leaf () (trivial) ((.cons rfl (.cons rfl (.cons rfl (.cons rfl (.cons rfl (.cons rfl (.cons rfl (.cons rfl (.cons rfl .nil)))))))))) (fun w hh => hh)
                      · replace hm := ifF (of_decide_eq_false h45) hm
                        refine g_skipG rfl rfl rfl rfl rfl rfl ?_
                        refine g_skipG rfl rfl rfl rfl rfl rfl ?_
                        refine g_skipG rfl rfl rfl rfl rfl rfl ?_
                        refine g_skipU' rfl rfl rfl rfl rfl ?_
                        refine g_skipU' rfl rfl rfl rfl rfl ?_
                        refine g_skipU' rfl rfl rfl rfl rfl ?_
                        refine g_skipG rfl rfl rfl rfl rfl rfl ?_
                        refine v_unguard rfl rfl ?_
                        refine g_val rfl rfl rfl (fun _ _ => v_pickF rfl rfl) ?_
                        refine g_val rfl rfl rfl (fun _ _ => v_pickF rfl rfl) ?_
                        refine g_nil ?_
                        obtain rfl := Option.some.inj hm
                        exact g_leaf () (trivial) ((.cons rfl (.cons rfl (.cons rfl (.cons rfl (.cons rfl (.cons rfl (.cons rfl (.cons rfl (.cons rfl .nil)))))))))) (fun w hh => hh)
                · intro l_11 hj
                  replace hm := h41
                  refine g_n_then ?_
                  refine g_cond rfl (fun h47 => ?_) (fun h47 => ?_)
                  · replace hm := ifT (h47) hm
                    refine g_seq ?_
                    refine g_region ?_
                    refine g_val rfl rfl rfl (fun _ _ => v_assign rfl) ?_
                    refine g_nil ?_
                    refine g_n_then ?_
                    refine g_ret ?_
                    refine g_r_then ?_
                    refine g_r_blk ?_
                    obtain rfl := Option.some.inj hm
                    refine g_r_then ?_
                    replace hm := ocR h28
                    refine g_r_then ?_
                    refine g_r_then ?_
                    refine g_r_blk ?_
                    obtain rfl := Option.some.inj hm
                    have hbo := h25 _ rfl
                    subst hbo
                    refine g_r_then ?_
                    replace hm := ocR h24
                    refine g_r_blk ?_
                    refine g_r_then ?_
                    refine g_r_then ?_
                    refine g_r_blk ?_
                    obtain rfl := Option.some.inj hm
                    have hbo := h21 _ rfl
                    subst hbo
                    refine g_r_then ?_
                    replace hm := ocR h20
                    refine g_r_then ?_
                    obtain rfl := Option.some.inj hm
                    refine g_done rfl (fun w hh => (.tmp rfl .nil)) (fun w hh => ⟨(), rfl, trivial, hh.sel [] [] 1 (by decide) (by decide) rfl rfl rfl⟩)
                  · replace hm := ifF ((fun hh => Bool.noConfusion ((h47).symm.trans hh))) hm
                    refine g_skip ?_
                    refine g_n_then ?_
                    refine g_seq ?_
                    refine g_region ?_
                    refine g_val rfl rfl rfl (fun w hh => v_loadAgg (vs := [_, _, _, _, _]) (Try.isAgg29 w) (Try.sizeOf29 w) rfl (hh.cells 0 rfl rfl)) ?_
                    refine g_val rfl rfl rfl (fun _ _ => v_move rfl) ?_
                    refine g_val rfl rfl rfl (fun _ _ => v_move rfl) ?_
                    obtain ⟨t101, h48, hm⟩ := bindO hm
                    refine g_callH [] [] rfl rfl rfl rfl rfl rfl rfl (fun a w => Try.call46 a w) (fun w hh => cx_At t21.r0 t33 s l_1.1.q l_1.1.n l_1.1.cap l_1.2.1.q l_1.2.1.n l_1.2.1.cap l_1.2.2.q l_1.2.2.n l_1.2.2.cap w (HV.callee (S0 := []) (vs0 := []) hh (roC (hh.vsep (S0 := []) (vs0 := []) 0 rfl h5) (roC (hh.vsep (S0 := []) (vs0 := []) 1 rfl h6) (roC (hh.vsep (S0 := []) (vs0 := []) 2 rfl h7) roN)))) (vlen RW h5 rfl) (vne h5) (h5).hle (vlen RI h6 rfl) (vne h6) (h6).hle (vlen RS h7 rfl) (vne h7) (h7).hle h48) (fun l_12 h49 => ?_)
                    refine g_val rfl rfl rfl (fun _ _ => v_move rfl) ?_
                    refine g_val rfl rfl rfl (fun _ _ => v_extract rfl rfl) ?_
                    refine g_val rfl rfl rfl (fun _ _ => v_extract rfl rfl) ?_
                    refine g_val rfl rfl rfl (fun _ _ => v_assign rfl) ?_
                    refine g_val rfl rfl rfl (fun _ _ => v_assign rfl) ?_
                    refine g_nil ?_
                    refine g_n_then ?_
                    refine g_seq ?_
                    refine g_region ?_
                    refine g_val rfl rfl rfl (fun w hh => v_loadAgg (vs := [_, _, _, _, _]) (Try.isAgg29 w) (Try.sizeOf29 w) rfl (hh.cells 0 rfl rfl)) ?_
                    refine g_val rfl rfl rfl (fun _ _ => v_move rfl) ?_
                    refine g_val rfl rfl rfl (fun _ _ => v_move rfl) ?_
                    obtain ⟨t108, h50, hm⟩ := bindO hm
                    refine g_callH [] [] rfl rfl rfl rfl rfl rfl rfl (fun a w => Try.call46 a w) (fun w hh => cx_At t21.r0 t33 s_1 l_1.1.q l_1.1.n l_1.1.cap l_1.2.1.q l_1.2.1.n l_1.2.1.cap l_1.2.2.q l_1.2.2.n l_1.2.2.cap w (HV.callee (S0 := []) (vs0 := []) hh (roC (hh.vsep (S0 := []) (vs0 := []) 0 rfl h5) (roC (hh.vsep (S0 := []) (vs0 := []) 1 rfl h6) (roC (hh.vsep (S0 := []) (vs0 := []) 2 rfl h7) roN)))) (vlen RW h5 rfl) (vne h5) (h5).hle (vlen RI h6 rfl) (vne h6) (h6).hle (vlen RS h7 rfl) (vne h7) (h7).hle h50) (fun l_13 h51 => ?_)
                    refine g_val rfl rfl rfl (fun _ _ => v_move rfl) ?_
                    refine g_val rfl rfl rfl (fun _ _ => v_extract rfl rfl) ?_
                    refine g_val rfl rfl rfl (fun _ _ => v_extract rfl rfl) ?_
                    refine g_val rfl rfl rfl (fun _ _ => v_assign rfl) ?_
                    refine g_val rfl rfl rfl (fun _ _ => v_assign rfl) ?_
                    refine g_nil ?_
                    refine g_n_then ?_
                    refine g_seq ?_
                    refine g_seq ?_
                    obtain ⟨o_5, h52, h53⟩ := bindO hm
                    refine g_cut (ι := Unit) (fun l_14 => True) (fun l_14 => [(5, ptr b 0), (6, .int .i64 t33), (7, .int .i64 s), (8, .int .i64 s_1), (16, .int .i64 t108.1), (36, .int .i64 (t21.r0.floors.length : Int)), (37, .int .i64 s), (42, .int .i64 (t21.r0.floors.length : Int)), (43, .int .i64 s_1), (121, .bool o_5)]) (fun l_14 => [(b, .cells #[slv l_1.1.q l_1.1.n l_1.1.cap, .int .i64 t21.r0.wind.lo, .int .i64 t21.r0.wind.hi, slv l_1.2.1.q l_1.2.1.n l_1.2.1.cap, slv l_1.2.2.q l_1.2.2.n l_1.2.2.cap] 29 (0, 0)), (l, .cells #[.slice qa0 na0 ca0, .int .i64 t21.b0_1, .int .u32 t21.b0_2] 138 (0, 0))]) (fun l_14 => [⟨68, RW.enc t21.r0.table, l_1.1.sp, l_1.1.q⟩, ⟨3, RI.enc t21.r0.floors, l_1.2.1.sp, l_1.2.1.q⟩, ⟨51, RS.enc t21.r0.sills, l_1.2.2.sp, l_1.2.2.q⟩]) ?_ ?_
                    · replace hm := h52
                      refine g_region ?_
                      refine g_val rfl rfl rfl (fun _ _ => v_move rfl) ?_
                      refine g_val rfl rfl rfl (fun _ _ => v_neq rfl rfl) ?_
                      refine g_val rfl rfl rfl (fun _ _ => v_move rfl) ?_
                      refine g_case 113 rfl (fun h54 => ?_) (fun h54 => ?_)
                      · replace hm := ifF (of_ndec_true h54) hm
                        refine g_skipG rfl rfl rfl rfl rfl rfl ?_
                        refine g_skipG rfl rfl rfl rfl rfl rfl ?_
                        refine g_val rfl rfl rfl (fun _ _ => v_pickT rfl rfl) ?_
                        refine g_val rfl rfl rfl (fun _ _ => v_move rfl) ?_
                        refine g_skipG rfl rfl rfl rfl rfl rfl ?_
                        refine g_skipG rfl rfl rfl rfl rfl rfl ?_
                        refine g_skipG rfl rfl rfl rfl rfl rfl ?_
                        refine g_val rfl rfl rfl (fun _ _ => v_pickT rfl rfl) ?_
                        refine g_nil ?_
                        obtain rfl := Option.some.inj hm
                        exact g_leaf () (trivial) ((.cons rfl (.cons rfl (.cons rfl (.cons rfl (.cons rfl (.cons rfl (.cons rfl (.cons rfl (.cons rfl (.cons rfl .nil))))))))))) (fun w hh => hh)
                      · replace hm := ifT (of_ndec_false h54) hm
                        refine v_unguard rfl rfl ?_
                        refine g_val rfl rfl rfl (fun _ _ => v_move rfl) ?_
                        refine v_unguard rfl rfl ?_
                        refine g_val rfl rfl rfl (fun _ _ => v_neq rfl rfl) ?_
                        refine g_val rfl rfl rfl (fun _ _ => v_pickF rfl rfl) ?_
                        refine g_val rfl rfl rfl (fun _ _ => v_move rfl) ?_
                        refine g_case 117 rfl (fun h55 => ?_) (fun h55 => ?_)
                        · replace hm := ifF (of_ndec_true h55) hm
                          refine g_skipG rfl rfl rfl rfl rfl rfl ?_
                          refine g_skipG rfl rfl rfl rfl rfl rfl ?_
                          refine g_skipG rfl rfl rfl rfl rfl rfl ?_
                          refine g_val rfl rfl rfl (fun _ _ => v_pickT rfl rfl) ?_
                          refine g_nil ?_
                          obtain rfl := Option.some.inj hm
                          exact g_leaf () (trivial) ((.cons rfl (.cons rfl (.cons rfl (.cons rfl (.cons rfl (.cons rfl (.cons rfl (.cons rfl (.cons rfl (.cons rfl .nil))))))))))) (fun w hh => hh)
                        · replace hm := ifT (of_ndec_false h55) hm
                          refine v_unguard rfl rfl ?_
                          refine g_val rfl rfl rfl (fun _ _ => v_move rfl) ?_
                          refine v_unguard rfl rfl ?_
                          refine g_val rfl rfl rfl (fun _ _ => v_move rfl) ?_
                          refine v_unguard rfl rfl ?_
                          refine g_val rfl rfl rfl (fun _ _ => v_gtr rfl rfl) ?_
                          refine g_val rfl rfl rfl (fun _ _ => v_pickF rfl rfl) ?_
                          refine g_nil ?_
                          obtain rfl := Option.some.inj hm
                          exact g_leaf () (trivial) ((.cons rfl (.cons rfl (.cons rfl (.cons rfl (.cons rfl (.cons rfl (.cons rfl (.cons rfl (.cons rfl (.cons rfl .nil))))))))))) (fun w hh => hh)
                    · intro l_14 hj
                      replace hm := h53
                      refine g_n_then ?_
                      refine g_cond rfl (fun h56 => ?_) (fun h56 => ?_)
                      · replace hm := ifT (h56) hm
                        refine g_seq ?_
                        refine g_region ?_
                        refine g_val rfl rfl rfl (fun _ _ => v_assign rfl) ?_
                        refine g_nil ?_
                        refine g_n_then ?_
                        refine g_ret ?_
                        refine g_r_then ?_
                        refine g_r_blk ?_
                        obtain rfl := Option.some.inj hm
                        refine g_r_then ?_
                        replace hm := ocR h28
                        refine g_r_then ?_
                        refine g_r_then ?_
                        refine g_r_blk ?_
                        obtain rfl := Option.some.inj hm
                        have hbo := h25 _ rfl
                        subst hbo
                        refine g_r_then ?_
                        replace hm := ocR h24
                        refine g_r_blk ?_
                        refine g_r_then ?_
                        refine g_r_then ?_
                        refine g_r_blk ?_
                        obtain rfl := Option.some.inj hm
                        have hbo := h21 _ rfl
                        subst hbo
                        refine g_r_then ?_
                        replace hm := ocR h20
                        refine g_r_then ?_
                        obtain rfl := Option.some.inj hm
                        refine g_done rfl (fun w hh => (.tmp rfl .nil)) (fun w hh => ⟨(), rfl, trivial, hh.sel [] [] 1 (by decide) (by decide) rfl rfl rfl⟩)
                      · replace hm := ifF ((fun hh => Bool.noConfusion ((h56).symm.trans hh))) hm
                        refine g_skip ?_
                        refine g_n_then ?_
                        refine g_seq ?_
                        refine g_seq ?_
                        refine g_region ?_
                        refine g_val rfl rfl rfl (fun _ _ => v_move rfl) ?_
                        refine g_val rfl rfl rfl (fun _ _ => v_neq rfl rfl) ?_
                        refine g_nil ?_
                        refine g_n_then ?_
                        refine g_cond rfl (fun h57 => ?_) (fun h57 => ?_)
                        · replace hm := ifF (of_ndec_true h57) hm
                          refine g_exit ?_
                          refine g_x_then ?_
                          refine g_x_blk ?_
                          obtain rfl := Option.some.inj hm
                          exact g_leaf () (rfl) ((.cons rfl (.cons rfl (.cons rfl (.cons rfl (.cons rfl (.cons rfl (.cons rfl .nil)))))))) (fun w hh => hh)
                        · replace hm := ifT (of_ndec_false h57) hm
                          refine g_skip ?_
                          refine g_n_then ?_
                          refine g_seq ?_
                          refine g_region ?_
                          refine g_val rfl rfl rfl (fun w hh => v_loadAgg (vs := [_, _, _, _, _]) (Try.isAgg29 w) (Try.sizeOf29 w) rfl (hh.cells 0 rfl rfl)) ?_
                          refine g_val rfl rfl rfl (fun _ _ => v_move rfl) ?_
                          refine g_val rfl rfl rfl (fun _ _ => v_move rfl) ?_
                          obtain ⟨t128, h58, hm⟩ := bindO hm
                          refine g_callH [] [] rfl rfl rfl rfl rfl rfl rfl (fun a w => Try.call41 a w) (fun w hh => cx_Turn t21.r0 s t33 l_1.1.q l_1.1.n l_1.1.cap l_1.2.1.q l_1.2.1.n l_1.2.1.cap l_1.2.2.q l_1.2.2.n l_1.2.2.cap w (HV.callee (S0 := []) (vs0 := []) hh (roC (hh.vsep (S0 := []) (vs0 := []) 0 rfl h5) (roC (hh.vsep (S0 := []) (vs0 := []) 1 rfl h6) (roC (hh.vsep (S0 := []) (vs0 := []) 2 rfl h7) roN)))) (vlen RW h5 rfl) (vne h5) (h5).hle (vlen RI h6 rfl) (vne h6) (h6).hle (vlen RS h7 rfl) (vne h7) (h7).hle h58) (fun l_15 h59 => ?_)
                          refine g_val rfl rfl rfl (fun _ _ => v_move rfl) ?_
                          refine g_val rfl rfl rfl (fun _ _ => v_extract rfl rfl) ?_
                          refine g_val rfl rfl rfl (fun _ _ => v_extract rfl rfl) ?_
                          refine g_val rfl rfl rfl (fun _ _ => v_assign rfl) ?_
                          refine g_val rfl rfl rfl (fun _ _ => v_assign rfl) ?_
                          refine g_nil ?_
                          refine g_n_then ?_
                          refine g_seq ?_
                          refine g_region ?_
                          refine g_val rfl rfl rfl (fun w hh => v_loadAgg (vs := [_, _, _, _, _]) (Try.isAgg29 w) (Try.sizeOf29 w) rfl (hh.cells 0 rfl rfl)) ?_
                          refine g_val rfl rfl rfl (fun _ _ => v_move rfl) ?_
                          refine g_val rfl rfl rfl (fun _ _ => v_move rfl) ?_
                          obtain ⟨t135, h60, hm⟩ := bindO hm
                          refine g_callH [] [] rfl rfl rfl rfl rfl rfl rfl (fun a w => Try.call41 a w) (fun w hh => cx_Turn t21.r0 s_1 t33 l_1.1.q l_1.1.n l_1.1.cap l_1.2.1.q l_1.2.1.n l_1.2.1.cap l_1.2.2.q l_1.2.2.n l_1.2.2.cap w (HV.callee (S0 := []) (vs0 := []) hh (roC (hh.vsep (S0 := []) (vs0 := []) 0 rfl h5) (roC (hh.vsep (S0 := []) (vs0 := []) 1 rfl h6) (roC (hh.vsep (S0 := []) (vs0 := []) 2 rfl h7) roN)))) (vlen RW h5 rfl) (vne h5) (h5).hle (vlen RI h6 rfl) (vne h6) (h6).hle (vlen RS h7 rfl) (vne h7) (h7).hle h60) (fun l_16 h61 => ?_)
                          refine g_val rfl rfl rfl (fun _ _ => v_move rfl) ?_
                          refine g_val rfl rfl rfl (fun _ _ => v_extract rfl rfl) ?_
                          refine g_val rfl rfl rfl (fun _ _ => v_extract rfl rfl) ?_
                          refine g_val rfl rfl rfl (fun _ _ => v_assign rfl) ?_
                          refine g_val rfl rfl rfl (fun _ _ => v_assign rfl) ?_
                          refine g_nil ?_
                          refine g_n_then ?_
                          refine g_seq ?_
                          obtain ⟨o_6, h62, h63⟩ := bindO hm
                          refine g_cut (ι := Unit) (fun l_17 => True) (fun l_17 => [(5, ptr b 0), (6, .int .i64 t33), (7, .int .i64 s), (36, .int .i64 (t21.r0.floors.length : Int)), (37, .int .i64 s), (42, .int .i64 (t21.r0.floors.length : Int)), (43, .int .i64 s_1), (148, .bool o_6)]) (fun l_17 => [(b, .cells #[slv l_1.1.q l_1.1.n l_1.1.cap, .int .i64 t21.r0.wind.lo, .int .i64 t21.r0.wind.hi, slv l_1.2.1.q l_1.2.1.n l_1.2.1.cap, slv l_1.2.2.q l_1.2.2.n l_1.2.2.cap] 29 (0, 0)), (l, .cells #[.slice qa0 na0 ca0, .int .i64 t21.b0_1, .int .u32 t21.b0_2] 138 (0, 0))]) (fun l_17 => [⟨68, RW.enc t21.r0.table, l_1.1.sp, l_1.1.q⟩, ⟨3, RI.enc t21.r0.floors, l_1.2.1.sp, l_1.2.1.q⟩, ⟨51, RS.enc t21.r0.sills, l_1.2.2.sp, l_1.2.2.q⟩]) ?_ ?_
                          · replace hm := h62
                            refine g_region ?_
                            refine g_val rfl rfl rfl (fun _ _ => v_move rfl) ?_
                            refine g_val rfl rfl rfl (fun _ _ => v_neq rfl rfl) ?_
                            refine g_val rfl rfl rfl (fun _ _ => v_move rfl) ?_
                            refine g_case 140 rfl (fun h64 => ?_) (fun h64 => ?_)
                            · replace hm := ifF (of_ndec_true h64) hm
                              refine g_skipG rfl rfl rfl rfl rfl rfl ?_
                              refine g_skipG rfl rfl rfl rfl rfl rfl ?_
                              refine g_val rfl rfl rfl (fun _ _ => v_pickT rfl rfl) ?_
                              refine g_val rfl rfl rfl (fun _ _ => v_move rfl) ?_
                              refine g_skipG rfl rfl rfl rfl rfl rfl ?_
                              refine g_skipG rfl rfl rfl rfl rfl rfl ?_
                              refine g_skipG rfl rfl rfl rfl rfl rfl ?_
                              refine g_val rfl rfl rfl (fun _ _ => v_pickT rfl rfl) ?_
                              refine g_nil ?_
                              obtain rfl := Option.some.inj hm
                              exact g_leaf () (trivial) ((.cons rfl (.cons rfl (.cons rfl (.cons rfl (.cons rfl (.cons rfl (.cons rfl (.cons rfl .nil))))))))) (fun w hh => hh)
                            · replace hm := ifT (of_ndec_false h64) hm
                              refine v_unguard rfl rfl ?_
                              refine g_val rfl rfl rfl (fun _ _ => v_move rfl) ?_
                              refine v_unguard rfl rfl ?_
                              refine g_val rfl rfl rfl (fun _ _ => v_neq rfl rfl) ?_
                              refine g_val rfl rfl rfl (fun _ _ => v_pickF rfl rfl) ?_
                              refine g_val rfl rfl rfl (fun _ _ => v_move rfl) ?_
                              refine g_case 144 rfl (fun h65 => ?_) (fun h65 => ?_)
                              · replace hm := ifF (of_ndec_true h65) hm
                                refine g_skipG rfl rfl rfl rfl rfl rfl ?_
                                refine g_skipG rfl rfl rfl rfl rfl rfl ?_
                                refine g_skipG rfl rfl rfl rfl rfl rfl ?_
                                refine g_val rfl rfl rfl (fun _ _ => v_pickT rfl rfl) ?_
                                refine g_nil ?_
                                obtain rfl := Option.some.inj hm
                                exact g_leaf () (trivial) ((.cons rfl (.cons rfl (.cons rfl (.cons rfl (.cons rfl (.cons rfl (.cons rfl (.cons rfl .nil))))))))) (fun w hh => hh)
                              · replace hm := ifT (of_ndec_false h65) hm
                                refine v_unguard rfl rfl ?_
                                refine g_val rfl rfl rfl (fun _ _ => v_move rfl) ?_
                                refine v_unguard rfl rfl ?_
                                refine g_val rfl rfl rfl (fun _ _ => v_move rfl) ?_
                                refine v_unguard rfl rfl ?_
                                refine g_val rfl rfl rfl (fun _ _ => v_lss rfl rfl) ?_
                                refine g_val rfl rfl rfl (fun _ _ => v_pickF rfl rfl) ?_
                                refine g_nil ?_
                                obtain rfl := Option.some.inj hm
                                exact g_leaf () (trivial) ((.cons rfl (.cons rfl (.cons rfl (.cons rfl (.cons rfl (.cons rfl (.cons rfl (.cons rfl .nil))))))))) (fun w hh => hh)
                          · intro l_17 hj
                            replace hm := h63
                            refine g_n_then ?_
                            refine g_cond rfl (fun h66 => ?_) (fun h66 => ?_)
                            · replace hm := ifT (h66) hm
                              refine g_seq ?_
                              refine g_region ?_
                              refine g_val rfl rfl rfl (fun _ _ => v_assign rfl) ?_
                              refine g_nil ?_
                              refine g_n_then ?_
                              refine g_ret ?_
                              refine g_r_blk ?_
                              obtain rfl := Option.some.inj hm
                              refine g_r_then ?_
                              replace hm := ocR h28
                              refine g_r_then ?_
                              refine g_r_then ?_
                              refine g_r_blk ?_
                              obtain rfl := Option.some.inj hm
                              have hbo := h25 _ rfl
                              subst hbo
                              refine g_r_then ?_
                              replace hm := ocR h24
                              refine g_r_blk ?_
                              refine g_r_then ?_
                              refine g_r_then ?_
                              refine g_r_blk ?_
                              obtain rfl := Option.some.inj hm
                              have hbo := h21 _ rfl
                              subst hbo
                              refine g_r_then ?_
                              replace hm := ocR h20
                              refine g_r_then ?_
                              obtain rfl := Option.some.inj hm
                              refine g_done rfl (fun w hh => (.tmp rfl .nil)) (fun w hh => ⟨(), rfl, trivial, hh.sel [] [] 1 (by decide) (by decide) rfl rfl rfl⟩)
                            · replace hm := ifF ((fun hh => Bool.noConfusion ((h66).symm.trans hh))) hm
                              refine g_skip ?_
                              refine g_n_blk ?_
                              obtain rfl := Option.some.inj hm
                              exact g_leaf () (rfl) ((.cons rfl (.cons rfl (.cons rfl (.cons rfl (.cons rfl (.cons rfl (.cons rfl .nil)))))))) (fun w hh => hh)
          · intro j_2 hj
            have h67 := hj
            subst h67
            replace hm := ocL h28
            refine g_n_then ?_
            refine g_region ?_
            obtain ⟨t149, h68, hm⟩ := bindO hm
            refine g_val rfl rfl rfl (fun _ _ => v_addc h68 rfl rfl) ?_
            refine g_val rfl rfl rfl (fun _ _ => v_move rfl) ?_
            refine g_nil ?_
            obtain rfl := Option.some.inj hm
            refine g_n_then ?_
            exact g_again' _ () rfl (trivial) ((.cons rfl (.cons rfl (.cons rfl (.cons rfl (.cons rfl (.cons rfl (.cons rfl .nil)))))))) (fun w hh => hh)
        · replace hm := ifF (of_decide_eq_false h26) hm
          refine g_exit ?_
          refine g_x_then ?_
          refine g_x_then ?_
          refine g_x_blk ?_
          obtain rfl := Option.some.inj hm
          have hbo := h25 _ rfl
          subst hbo
          exact g_leaf () (rfl) ((.cons rfl (.cons rfl (.cons rfl (.cons rfl .nil))))) (fun w hh => hh)
      · intro j_1 hj
        have h69 := hj
        subst h69
        replace hm := ocL h24
        refine g_n_blk ?_
        refine g_n_then ?_
        refine g_region ?_
        obtain ⟨t150, h70, hm⟩ := bindO hm
        refine g_val rfl rfl rfl (fun _ _ => v_addc h70 rfl rfl) ?_
        refine g_val rfl rfl rfl (fun _ _ => v_move rfl) ?_
        refine g_nil ?_
        obtain rfl := Option.some.inj hm
        refine g_n_then ?_
        exact g_again' _ () rfl (trivial) ((.cons rfl (.cons rfl (.cons rfl (.cons rfl .nil))))) (fun w hh => hh)
    · replace hm := ifF (of_decide_eq_false h22) hm
      refine g_exit ?_
      refine g_x_then ?_
      refine g_x_then ?_
      refine g_x_blk ?_
      obtain rfl := Option.some.inj hm
      have hbo := h21 _ rfl
      subst hbo
      exact g_leaf () (rfl) (.nil) (fun w hh => hh)
  · intro j hj
    have h71 := hj
    subst h71
    replace hm := ocL h20
    refine g_n_then ?_
    refine g_seq ?_
    refine g_region ?_
    obtain ⟨t151, h72, hm⟩ := bindO hm
    refine g_callH [] [] rfl rfl rfl rfl rfl rfl rfl (fun a w => Try.call30 a w) (fun w hh => cx_awake  w (HV.callee (S0 := []) (vs0 := []) hh roN)  h72) (fun l_18 h73 => ?_)
    refine g_val rfl rfl rfl (fun _ _ => v_assign rfl) ?_
    refine g_nil ?_
    refine g_n_then ?_
    refine g_ret ?_
    obtain rfl := Option.some.inj hm
    refine g_done rfl (fun w hh => (.tmp rfl .nil)) (fun w hh => ⟨(), rfl, trivial, hh.sel [] [] 1 (by decide) (by decide) rfl rfl rfl⟩)
end Go.Proofs.Wk
namespace Go.Gx
/-! ### plain programs: what they come to -/
theorem addc_eq {a b : Int} (h : -9223372036854775808 ≤ a + b ∧ a + b ≤ 9223372036854775807) : addc a b = some (a + b) := if_pos h
theorem subc_eq {a b : Int} (h : -9223372036854775808 ≤ a - b ∧ a - b ≤ 9223372036854775807) : subc a b = some (a - b) := if_pos h
theorem mulc_eq {a b : Int} (h : -9223372036854775808 ≤ a * b ∧ a * b ≤ 9223372036854775807) : mulc a b = some (a * b) := if_pos h
theorem negc_eq {a : Int} (h : -9223372036854775808 ≤ -a ∧ -a ≤ 9223372036854775807) : negc a = some (-a) := if_pos h
theorem quoc_eq {a b : Int} (h0 : b ≠ 0) (h : -9223372036854775808 ≤ a.tdiv b ∧ a.tdiv b ≤ 9223372036854775807) : quoc a b = some (a.tdiv b) := if_pos ⟨h0, h⟩
theorem remc_eq {a b : Int} (h0 : b ≠ 0) : remc a b = some (a.tmod b) := if_pos h0
theorem ix_eq {α : Type} {l : List α} {i : Int} (d : α) (h0 : 0 ≤ i) (h1 : i < l.length) : ix l i = some (l.getD i.toNat d) := by
  unfold ix
  rw [if_neg (by omega), List.getD_eq_getElem?_getD]
  have : i.toNat < l.length := by omega
  simp [this]
theorem ix_nat {α : Type} {l : List α} {k : Nat} (d : α) (h1 : k < l.length) : ix l (k : Int) = some (l.getD k d) := by
  have := ix_eq (l := l) (i := (k : Int)) d (by omega) (by omega)
  simpa using this
theorem appc_eq {α : Type} {b : Nat} {l m : List α} (h : (l.length + m.length) * b ≤ 140737488355328) : appc b l m = some (l ++ m) := if_pos h
theorem makec_eq {α : Type} {b : Nat} {z : α} {n c : Int} (h : 0 ≤ n ∧ n ≤ c ∧ (b : Int) * c ≤ 140737488355328 ∧ c ≤ 140737488355328) : makec b z n c = some (List.replicate n.toNat z) := if_pos h
@[simp] theorem oc_inl {α β γ : Type} (a : α) (f : α → γ) (g : β → γ) : oc (.inl a) f g = f a := rfl
@[simp] theorem oc_inr {α β γ : Type} (b : β) (f : α → γ) (g : β → γ) : oc (.inr b) f g = g b := rfl

theorem iterM_step {σ β : Type} {f : σ → Option (σ ⊕ β)} {s s' : σ} {N : Nat} (h : f s = some (.inl s')) : iterM (N + 1) f s = iterM N f s' := by simp [iterM, h]
theorem iterM_done {σ β : Type} {f : σ → Option (σ ⊕ β)} {s : σ} {b : β} {N : Nat} (h : f s = some (.inr b)) : iterM (N + 1) f s = some b := by simp [iterM, h]
/-- an invariant, and what falls -/
theorem iterM_inv {σ β : Type} {f : σ → Option (σ ⊕ β)} (Inv : σ → Prop) (μ : σ → Nat) (Q : β → Prop)
    (h : ∀ s, Inv s → (∃ s', f s = some (.inl s') ∧ Inv s' ∧ μ s' < μ s) ∨ ∃ b, f s = some (.inr b) ∧ Q b) : ∀ (N : Nat) (s : σ), μ s < N → Inv s → ∃ b, iterM N f s = some b ∧ Q b
  | 0, _, hN, _ => absurd hN (Nat.not_lt_zero _)
  | N + 1, s, hN, hI => by
    rcases h s hI with ⟨s', h1, h2, h3⟩ | ⟨b, h1, h2⟩
    · rw [iterM_step h1]
      exact iterM_inv Inv μ Q h N s' (by omega) h2
    · exact ⟨b, iterM_done h1, h2⟩
/-- a course of states that is known -/
theorem iterM_run {σ β : Type} {f : σ → Option (σ ⊕ β)} (I : Nat → σ) (n : Nat) {b : β} (hs : ∀ k, k < n → f (I k) = some (.inl (I (k + 1)))) (he : f (I n) = some (.inr b)) : ∀ (N : Nat), n < N → iterM N f (I 0) = some b := by
  have key : ∀ (m k N : Nat), k + m = n → m < N → iterM N f (I k) = some b := by
    intro m
    induction m with
    | zero =>
      intro k N hk hN
      obtain ⟨N, rfl⟩ : ∃ N', N = N' + 1 := ⟨N - 1, by omega⟩
      have : k = n := by omega
      subst this
      exact iterM_done he
    | succ m ih =>
      intro k N hk hN
      obtain ⟨N, rfl⟩ : ∃ N', N = N' + 1 := ⟨N - 1, by omega⟩
      rw [iterM_step (hs k (by omega))]
      exact ih (k + 1) N (by omega) (by omega)
  intro N hN
  exact key n 0 N (by omega) hN
/-- a loop that asks of each number whether something is so, and leaves at the first -/
theorem iterM_any {ρ : Type} {f : Int → Option (Int ⊕ (Unit ⊕ ρ))} (i0 : Int) (n : Nat) (bad : Nat → Bool) (e : Nat → ρ) (h1 : ∀ k, k < n → f (i0 + (k : Int)) = some (if bad k then .inr (.inr (e k)) else .inl (i0 + (k : Int) + 1))) (h2 : f (i0 + (n : Int)) = some (.inr (.inl ()))) {N : Nat} (hN : n < N) :
    iterM N f i0 = some (match (List.range n).find? bad with | some k => .inr (e k) | none => .inl ()) := by
  have key : ∀ (m k N : Nat), k + m = n → m < N → (∀ j, j < k → bad j = false) → iterM N f (i0 + (k : Int)) = some (match (List.range n).find? bad with | some k => .inr (e k) | none => .inl ()) := by
    intro m
    induction m with
    | zero =>
      intro k N hk hN hb
      obtain ⟨N, rfl⟩ : ∃ N', N = N' + 1 := ⟨N - 1, by omega⟩
      have : k = n := by omega
      subst this
      rw [iterM_done h2]
      have : (List.range k).find? bad = none := by
        rw [List.find?_eq_none]
        intro x hx
        simp [hb x (by simpa using hx)]
      rw [this]
    | succ m ih =>
      intro k N hk hN hb
      obtain ⟨N, rfl⟩ : ∃ N', N = N' + 1 := ⟨N - 1, by omega⟩
      have hk2 := h1 k (by omega)
      cases hbk : bad k with
      | true =>
        rw [hbk] at hk2
        simp only [if_true] at hk2
        rw [iterM_done hk2]
        have : (List.range n).find? bad = some k := by
          rw [List.find?_range_eq_some]
          exact ⟨hbk, by simp; omega, fun j hj => by simp [hb j hj]⟩
        rw [this]
      | false =>
        rw [hbk] at hk2
        simp only [Bool.false_eq_true, if_false] at hk2
        rw [iterM_step hk2]
        have := ih (k + 1) N (by omega) (by omega) (fun j hj => by
          by_cases hjk : j = k
          · subst hjk; exact hbk
          · exact hb j (by omega))
        rw [show i0 + (k : Int) + 1 = i0 + ((k + 1 : Nat) : Int) by push_cast; omega]
        exact this
  have := key n 0 N (by omega) hN (fun j hj => absurd hj (by omega))
  simpa using this
theorem iterM_any0 {ρ : Type} {f : Int → Option (Int ⊕ (Unit ⊕ ρ))} (n : Nat) (bad : Nat → Bool) (e : ρ) (h1 : ∀ k : Nat, k < n → f (k : Int) = some (if bad k then .inr (.inr e) else .inl ((k : Int) + 1))) (h2 : f (n : Int) = some (.inr (.inl ()))) {N : Nat} (hN : n < N) :
    iterM N f 0 = some (if (List.range n).any bad then .inr e else .inl ()) := by
  have := iterM_any 0 n bad (fun _ => e) (fun k hk => by simpa using h1 k hk) (by simpa using h2) hN
  rw [this]
  cases hf : (List.range n).find? bad with
  | none =>
    have : (List.range n).any bad = false := by
      rw [List.any_eq_false]; intro x hx; simpa using List.find?_eq_none.1 hf x hx
    simp [this]
  | some k =>
    have : (List.range n).any bad = true := List.any_eq_true.2 ⟨k, List.mem_of_find?_eq_some hf, List.find?_some hf⟩
    simp [this]
theorem any_range {α : Type} {l : List α} {d : α} {p : α → Bool} : (List.range l.length).any (fun k => p (l.getD k d)) = l.any p := by
  rw [Bool.eq_iff_iff, List.any_eq_true, List.any_eq_true]
  constructor
  · rintro ⟨k, hk, hp⟩
    have hk' : k < l.length := by simpa using hk
    refine ⟨l[k], List.getElem_mem hk', ?_⟩
    simpa [List.getD_eq_getElem?_getD, hk'] using hp
  · rintro ⟨x, hx, hp⟩
    obtain ⟨k, hk, rfl⟩ := List.getElem_of_mem hx
    exact ⟨k, by simpa using hk, by simpa [List.getD_eq_getElem?_getD, hk] using hp⟩
theorem FU_lt {n : Nat} (h : n < 1000000000000) : n < FU := by unfold FU; omega
end Go.Gx

-- plain: sands that the law makes
namespace Go.Pl
structure TabOK (T : List Water) (at_ : Int) : Prop where
  inc : ∀ i, i + 1 < T.length → (T.getD i default).min < (T.getD (i + 1) default).min
  rg : ∀ i, i < T.length → 0 ≤ (T.getD i default).min ∧ (T.getD i default).min < at_ ∧ 0 ≤ (T.getD i default).h ∧ (T.getD i default).h ≤ 60
theorem TabOK.nil {a : Int} : TabOK [] a := ⟨fun i h => by simp at h, fun i h => by simp at h⟩
theorem getD_snoc {α : Type} {d : α} {l : List α} {x : α} {i : Nat} : (l ++ [x]).getD i d = if i < l.length then l.getD i d else if i = l.length then x else d := by
  simp only [List.getD_eq_getElem?_getD]
  by_cases h : i < l.length
  · rw [List.getElem?_append_left h, if_pos h]
  · rw [List.getElem?_append_right (by omega), if_neg h]
    by_cases h2 : i = l.length
    · subst h2; simp
    · rw [if_neg h2, List.getElem?_eq_none (by simp; omega)]; rfl
theorem TabOK.snoc {T : List Water} {a b h : Int} (k : TabOK T a) (h0 : 0 ≤ a) (hb : a < b) (hh : 0 ≤ h ∧ h ≤ 60) : TabOK (T ++ [⟨a, h⟩]) b := by
  refine ⟨fun i hi => ?_, fun i hi => ?_⟩
  · simp only [List.length_append, List.length_singleton] at hi
    rw [getD_snoc, getD_snoc, if_pos (by omega)]
    by_cases h1 : i + 1 < T.length
    · rw [if_pos h1]; exact k.inc i h1
    · rw [if_neg h1, if_pos (by omega)]
      exact (k.rg i (by omega)).2.1
  · simp only [List.length_append, List.length_singleton] at hi
    rw [getD_snoc]
    by_cases h1 : i < T.length
    · rw [if_pos h1]; have := k.rg i h1; omega
    · rw [if_neg h1, if_pos (by omega)]; simp only; omega
def sillOK (n : Int) (x : Sill) : Prop := (-1 ≤ x.a ∧ x.a < n) ∧ (-1 ≤ x.b ∧ x.b < n) ∧ x.a ≠ x.b ∧ 0 ≤ x.h ∧ x.h ≤ 50
structure MadeOK (pl sl : Int) (s : Sands) : Prop where
  tl : 2 ≤ s.table.length ∧ s.table.length ≤ 4
  tab : ∃ a, TabOK s.table a ∧ a ≤ 140
  lo : -8 ≤ s.wind.lo ∧ s.wind.lo ≤ 0
  hi : 0 ≤ s.wind.hi ∧ s.wind.hi ≤ 8
  fl : 1 ≤ s.floors.length ∧ (s.floors.length : Int) ≤ pl
  flo : ∀ x, x ∈ s.floors → 0 ≤ x ∧ x ≤ 50
  sl : (s.sills.length : Int) ≤ sl
  sil : ∀ x, x ∈ s.sills → sillOK s.floors.length x
theorem mem_getD {α : Type} {d : α} {l : List α} {j : Nat} (h : j < l.length) : l.getD j d ∈ l := by
  simp only [List.getD_eq_getElem?_getD, List.getElem?_eq_getElem h, Option.getD_some]; exact List.getElem_mem h
theorem MadeOK.check {pl sl : Int} {s : Sands} (h : MadeOK pl sl s) (hp : pl ≤ 8) (hs : sl ≤ 16) : check s = 0 := by
  obtain ⟨a, ht, ha⟩ := h.tab
  have h1 := h.tl
  have h2 := h.fl
  have h3 := h.sl
  have e1 : inr s.table.length 2 12 = true := inr_iff.2 (by omega)
  have e2 : inr s.floors.length 1 8 = true := inr_iff.2 (by omega)
  have e3 : decide (16 < (s.sills.length : Int)) = false := by simp; omega
  have e4 : s.table.all bigW = true := all_of_getD (d := default) (fun j hj => by
    have := ht.rg j hj
    simp only [bigW, Bool.and_eq_true, inr_iff]; omega)
  have e5 : inr s.wind.lo (-50) 50 = true := inr_iff.2 (by have := h.lo; omega)
  have e6 : inr s.wind.hi (-50) 50 = true := inr_iff.2 (by have := h.hi; omega)
  have e7 : s.floors.all hgt = true := all_of_getD (d := 0) (fun j hj => by
    have := h.flo _ (mem_getD (d := 0) hj)
    rw [hgt_iff]; omega)
  have e8 : s.sills.all (fun x => hgt x.h) = true := all_of_getD (d := default) (fun j hj => by
    have := (h.sil _ (mem_getD (d := default) hj)).2.2
    rw [hgt_iff]; omega)
  have e9 : ordered s = true := by
    rw [ordered_true (fun i hi => ht.inc i (by omega))]
    have := h.lo; have := h.hi
    simp; omega
  have e10 : s.sills.all (fun x => isEnd s x.a && isEnd s x.b) = true := all_of_getD (d := default) (fun j hj => by
    have := h.sil _ (mem_getD (d := default) hj)
    unfold sillOK at this
    simp only [Bool.and_eq_true, isEnd_iff]
    omega)
  have e11 : s.sills.all (fun x => !decide (x.a = x.b)) = true := all_of_getD (d := default) (fun j hj => by
    have := h.sil _ (mem_getD (d := default) hj)
    simpa using this.2.2.1)
  simp only [Pl.check, e1, e2, e3, e4, e5, e6, e7, e8, e9, e10, e11, Bool.not_true, Bool.or_self, Bool.false_eq_true, if_false]
end Go.Pl

-- plain: what water reaches; the gates, and the law's
namespace Go.Pl
inductive Reach (s : Sands) (h : Int) : Int → Prop
  | sea : Reach s h (-1)
  | step {p q : Int} {x : Sill} : Reach s h p → x ∈ s.sills → (x.a = p ∧ x.b = q ∨ x.b = p ∧ x.a = q) → q ≠ -1 → x.h ≤ h → s.floors.getD q.toNat 0 ≤ h → Reach s h q
theorem Reach.mono {s : Sands} {h k : Int} {q : Int} (r : Reach s h q) (hk : h ≤ k) : Reach s k q := by
  induction r with
  | sea => exact .sea
  | step _ hx hj hq h1 h2 ih => exact .step ih hx hj hq (by omega) (by omega)
/-! the gates are sound -/
def Snd (s : Sands) (g : List Int) : Prop := ∀ j, j < 8 → g.getD j 0 < 1000 → Reach s (g.getD j 0) (j : Nat)
theorem snd_low {s : Sands} (hG : Good s) {p at_ : Int} (hp : at_ < 1000 → Reach s at_ p) {g : List Int} (hg : OKg g) (hs : Snd s g) {x : Sill} (hx : x ∈ s.sills) {q : Int} (hj : x.a = p ∧ x.b = q ∨ x.b = p ∧ x.a = q) (hq : -1 ≤ q) : Snd s (lowAt s at_ x.h g q) := by
  unfold lowAt
  split
  · exact hs
  · rename_i hq1
    intro j hj8 hlt
    rw [getD_set, foldmax2] at hlt ⊢
    split at hlt
    · rename_i hc
      rw [if_pos hc]
      have hjq : (j : Int) = q := by omega
      rcases Int.le_total (g.getD q.toNat 0) (max (max at_ x.h) (s.floors.getD q.toNat 0)) with hle | hle
      · rw [Int.min_eq_left hle] at hlt ⊢
        have := hs j hj8 (by rw [← hc.1]; exact hlt)
        rw [hc.1]; exact this
      · rw [Int.min_eq_right hle] at hlt ⊢
        rw [hjq]
        exact .step ((hp (by omega)).mono (by omega)) hx hj hq1 (by omega) (by omega)
    · rename_i hc
      rw [if_neg hc]
      exact hs j hj8 hlt
theorem snd_lower {s : Sands} (hG : Good s) {p at_ : Int} (ha : 0 ≤ at_) (hp : at_ < 1000 → Reach s at_ p) {g : List Int} (hg : OKg g) (hs : Snd s g) : Snd s (lowerF s p at_ g) := by
  have key : ∀ (l : List Sill), (∀ x ∈ l, x ∈ s.sills) → ∀ g, OKg g → Snd s g → Snd s (l.foldl (lowStep s p at_) g) := by
    intro l
    induction l with
    | nil => intro _ g _ h; exact h
    | cons x l ih =>
      intro hl g hg hs
      have hx := hl x List.mem_cons_self
      obtain ⟨k, hk, hkx⟩ := List.mem_iff_getElem.1 hx
      have e : s.sills.getD k default = x := by simp [List.getD_eq_getElem?_getD, hk, hkx]
      have h1 := hG.sa k hk
      have h2 := hG.sb k hk
      rw [e] at h1 h2
      refine ih (fun y hy => hl y (List.mem_cons_of_mem _ hy)) _ (lowStep_ok hg ha) ?_
      unfold lowStep
      split
      · rename_i h; exact snd_low hG hp hg hs hx (.inl ⟨h, rfl⟩) h2.1
      · split
        · rename_i h; exact snd_low hG hp hg hs hx (.inr ⟨h, rfl⟩) h1.1
        · exact hs
  exact key s.sills (fun _ h => h) g hg hs
theorem snd_round {s : Sands} (hG : Good s) {g : List Int} (hg : OKg g) (hs : Snd s g) : ∀ k, k ≤ 8 → Snd s (roundN s g k) ∧ OKg (roundN s g k) := by
  intro k
  induction k with
  | zero => intro _; exact ⟨snd_lower hG (Int.le_refl 0) (fun _ => .sea) hg hs, (roundN_ok hg).1⟩
  | succ k ih =>
    intro hk
    obtain ⟨h1, h2⟩ := ih (by omega)
    refine ⟨?_, (roundN_ok hg).1⟩
    rw [roundN_succ]
    exact snd_lower hG (h2.lo k) (fun hlt => h1 k (by omega) hlt) h2 h1
theorem gates_snd {s : Sands} (hG : Good s) : Snd s (gatesOf s) := by
  have key : ∀ (k : Nat) (g : List Int), OKg g → Snd s g → Snd s (fixF s k g) := by
    intro k
    induction k with
    | zero => intro g _ h; exact h
    | succ k ih =>
      intro g hg hs
      unfold fixF
      split
      · exact hs
      · have := snd_round hG hg hs s.floors.length (by have := hG.fl; omega)
        exact ih _ this.2 this.1
  refine key _ _ initG_ok (fun j hj hlt => ?_)
  have : ∀ j, j < 8 → (initG 8).getD j 0 = 1000 := by decide
  rw [this j hj] at hlt
  exact absurd hlt (by omega)
/-! … and closed -/
theorem lower_fix {s : Sands} : lowerF s (-1) 0 (gatesOf s) = gatesOf s ∧ ∀ p, p < s.floors.length → lowerF s (p : Nat) ((gatesOf s).getD p 0) (gatesOf s) = gatesOf s := by
  have hf := gates_fixed (s := s)
  have hg := gates_ok (s := s)
  have h1 := lowerF_ok (s := s) (p := -1) hg (Int.le_refl 0)
  have h2 := foldl_le (I := OKg) (f := fun g (p : Nat) => lowerF s (p : Nat) (g.getD p 0) g) (fun g x h => (lowerF_ok h (h.lo x)).1) (fun g x h => (lowerF_ok h (h.lo x)).2) (List.range s.floors.length) _ h1.1
  have h3 : (List.range s.floors.length).foldl (fun g (p : Nat) => lowerF s (p : Nat) (g.getD p 0) g) (lowerF s (-1) 0 (gatesOf s)) = gatesOf s := hf
  rw [h3] at h2
  have e1 : lowerF s (-1) 0 (gatesOf s) = gatesOf s := h1.2.antisymm h2.2
  rw [e1] at h3
  refine ⟨e1, fun p hp => ?_⟩
  exact foldl_fix (I := OKg) (fun g x h => (lowerF_ok h (h.lo x)).1) (fun g x h => (lowerF_ok h (h.lo x)).2) _ _ hg h3 p (List.mem_range.2 hp)
theorem low_le {s : Sands} {p at_ : Int} {g : List Int} (hg : OKg g) (ha : 0 ≤ at_) (hf : lowerF s p at_ g = g) {x : Sill} (hx : x ∈ s.sills) {q : Int} (hj : x.a = p ∧ x.b = q ∨ x.b = p ∧ x.a = q) (hne : x.a ≠ x.b) (hq : 0 ≤ q ∧ q < 8) : g.getD q.toNat 0 ≤ max (max at_ x.h) (s.floors.getD q.toNat 0) := by
  have h1 := foldl_fix (I := OKg) (fun _ _ h => lowStep_ok h ha) (fun _ _ _ => lowStep_le) _ _ hg hf x hx
  have h2 : lowAt s at_ x.h g q = g := by
    unfold lowStep at h1
    rcases hj with ⟨ha, hb⟩ | ⟨hb, ha⟩
    · rw [if_pos ha, hb] at h1; exact h1
    · rw [if_neg (by omega), if_pos hb, ha] at h1; exact h1
  have h3 := congrArg (fun l => l.getD q.toNat 0) h2
  simp only [lowAt] at h3
  rw [if_neg (by omega), getD_set, if_pos ⟨rfl, by rw [hg.len]; omega⟩, foldmax2] at h3
  omega
theorem gates_le {s : Sands} (hG : Good s) {h : Int} (h0 : 0 ≤ h) {q : Int} (r : Reach s h q) : q = -1 ∨ ((0 ≤ q ∧ q < s.floors.length) ∧ (gatesOf s).getD q.toNat 0 ≤ h) := by
  have hfl := hG.fl
  induction r with
  | sea => exact .inl rfl
  | @step p q x r hx hj hq h1 h2 ih =>
    right
    obtain ⟨k, hk, hkx⟩ := List.mem_iff_getElem.1 hx
    have e : s.sills.getD k default = x := by simp [List.getD_eq_getElem?_getD, hk, hkx]
    have ha := hG.sa k hk
    have hb := hG.sb k hk
    have hne := hG.ne k hk
    rw [e] at ha hb hne
    have hqr : 0 ≤ q ∧ q < s.floors.length := by rcases hj with ⟨h3, h4⟩ | ⟨h3, h4⟩ <;> omega
    refine ⟨hqr, ?_⟩
    have hf := lower_fix (s := s)
    rcases ih with rfl | ⟨hp, hle⟩
    · have := low_le gates_ok (Int.le_refl 0) hf.1 hx hj hne (by omega)
      omega
    · have h5 := hf.2 p.toNat (by omega)
      rw [Int.toNat_of_nonneg hp.1] at h5
      have := low_le gates_ok (gates_ok.lo _) h5 hx hj hne (by omega)
      omega
end Go.Pl

-- plain: the law's gates are the gates
namespace Go.Pl
theorem gStep_le {s : Sands} {h : Int} {out : List Int} {y : Sill} : Le (gStep s h out y) out := by
  refine ⟨gStep_length, fun j => ?_⟩
  unfold gStep
  split
  · rw [getD_set]
    split
    · rename_i hq; rw [hq.1]; exact Int.min_le_left _ _
    · exact Int.le_refl _
  · exact Int.le_refl _
theorem foldl_Le {α : Type} {f : List Int → α → List Int} (hf : ∀ o x, Le (f o x) o) : ∀ (l : List α) (o : List Int), Le (l.foldl f o) o
  | [], o => Le.refl o
  | x :: l, o => (foldl_Le hf l (f o x)).trans (hf o x)
def sStep (s : Sands) (h : Int) (o : List Int) (x : Sill) : List Int := (both x).foldl (gStep s h) o
theorem sStep_le {s : Sands} {h : Int} {o : List Int} {x : Sill} : Le (sStep s h o x) o := foldl_Le (fun _ _ => gStep_le) _ _
theorem sillN_all {s : Sands} {h : Int} {out : List Int} : sillN s h out s.sills.length = s.sills.foldl (sStep s h) out := by
  unfold sillN; rw [List.take_length]; rfl
theorem pass_le {s : Sands} {h : Int} {out : List Int} : Le (sillN s h out s.sills.length) out := by rw [sillN_all]; exact foldl_Le (fun _ _ => sStep_le) _ _
/-! sound -/
def LSnd (s : Sands) (h : Int) (out : List Int) : Prop := ∀ j, j < s.floors.length → out.getD j 0 = 1000000 ∨ (0 ≤ out.getD j 0 ∧ out.getD j 0 ≤ h ∧ Reach s (out.getD j 0) (j : Nat))
theorem gStep_snd {s : Sands} {h : Int} (h0 : 0 ≤ h ∧ h ≤ 999) {out : List Int} (hs : LSnd s h out) {x y : Sill} (hx : x ∈ s.sills) (hy : y = x ∨ y = swapS x) (ha : -1 ≤ y.a ∧ y.a < s.floors.length) (hb : -1 ≤ y.b ∧ y.b < s.floors.length) : LSnd s h (gStep s h out y) := by
  unfold gStep
  split
  · rename_i hc
    obtain ⟨c1, c2, c3, c4⟩ := hc
    intro j hj
    rw [getD_set]
    split
    · rename_i hq
      have hjb : (j : Int) = y.b := by omega
      have hra : Reach s h y.a := by
        rcases c4 with c4 | c4
        · rw [c4]; exact .sea
        · rcases Int.lt_or_le y.a 0 with h1 | h1
          · have : y.a = -1 := by omega
            rw [this]; exact .sea
          · have h2 := hs y.a.toNat (by omega)
            rw [Int.toNat_of_nonneg h1] at h2
            rcases h2 with h2 | h2
            · omega
            · exact h2.2.2.mono h2.2.1
      have hrb : Reach s h y.b := by
        refine .step hra hx ?_ c2 ?_ c3
        · rcases hy with rfl | rfl
          · exact .inl ⟨rfl, rfl⟩
          · exact .inr ⟨rfl, rfl⟩
        · rcases hy with rfl | rfl
          · exact c1
          · exact c1
      have hold := hs j hj
      rw [hq.1]
      rcases Int.le_total (out.getD j 0) h with hle | hle
      · rw [Int.min_eq_left hle]; exact hold
      · rw [Int.min_eq_right hle]
        exact .inr ⟨h0.1, Int.le_refl _, by rw [hjb]; exact hrb⟩
    · exact hs j hj
  · exact hs
theorem pass_snd {s : Sands} (hG : Good s) {h : Int} (h0 : 0 ≤ h ∧ h ≤ 999) {out : List Int} (hs : LSnd s h out) : LSnd s h (sillN s h out s.sills.length) := by
  rw [sillN_all]
  have key : ∀ (l : List Sill), (∀ x ∈ l, x ∈ s.sills) → ∀ o, LSnd s h o → LSnd s h (l.foldl (sStep s h) o) := by
    intro l
    induction l with
    | nil => intro _ o h; exact h
    | cons x l ih =>
      intro hl o ho
      have hx := hl x List.mem_cons_self
      obtain ⟨k, hk, hkx⟩ := List.mem_iff_getElem.1 hx
      have e : s.sills.getD k default = x := by simp [List.getD_eq_getElem?_getD, hk, hkx]
      have ha := hG.sa k hk
      have hb := hG.sb k hk
      rw [e] at ha hb
      refine ih (fun y hy => hl y (List.mem_cons_of_mem _ hy)) _ ?_
      exact gStep_snd h0 (gStep_snd h0 ho hx (.inl rfl) ha hb) hx (.inr rfl) hb ha
  exact key s.sills (fun _ h => h) out hs
theorem rounds_snd {s : Sands} (hG : Good s) {h : Int} (h0 : 0 ≤ h ∧ h ≤ 999) {out : List Int} (hs : LSnd s h out) : ∀ r, LSnd s h (roundsN s h out r)
  | 0 => hs
  | r + 1 => pass_snd hG h0 (rounds_snd hG h0 hs r)
theorem heights_snd {s : Sands} (hG : Good s) : ∀ h : Nat, h ≤ 900 → LSnd s h (heightN s (initO s.floors.length s.floors.length) h)
  | 0, _ => fun j hj => .inl (by simp [heightN, initO, List.getD_eq_getElem?_getD, hj])
  | h + 1, hh => by
    have h1 := rounds_snd hG (h := (h : Nat)) (by omega) (heights_snd hG h (by omega)) s.floors.length
    intro j hj
    rcases h1 j hj with h2 | ⟨h2, h3, h4⟩
    · exact .inl h2
    · exact .inr ⟨h2, by push_cast; exact Int.le_trans h3 (by omega), h4⟩
/-! complete -/
theorem gStep_reach {s : Sands} {h : Int} {out : List Int} {y : Sill} (hc : gCond s h out y) (hb : 0 ≤ y.b ∧ y.b < out.length) : (gStep s h out y).getD y.b.toNat 0 ≤ h := by
  unfold gStep
  rw [if_pos hc, getD_set, if_pos ⟨rfl, by omega⟩]
  exact Int.min_le_right _ _
theorem pass_reach {s : Sands} {h : Int} {out : List Int} (hl : out.length = s.floors.length) {x : Sill} (hx : x ∈ s.sills) {p q : Int} (hj : x.a = p ∧ x.b = q ∨ x.b = p ∧ x.a = q) (hq : 0 ≤ q ∧ q < s.floors.length) (h1 : x.h ≤ h) (h2 : s.floors.getD q.toNat 0 ≤ h) (hp : p = -1 ∨ out.getD p.toNat 0 ≤ h) : (sillN s h out s.sills.length).getD q.toNat 0 ≤ h := by
  rw [sillN_all]
  obtain ⟨l1, l2, hs⟩ := List.append_of_mem hx
  rw [hs, List.foldl_append, List.foldl_cons]
  have e1 : Le (l1.foldl (sStep s h) out) out := foldl_Le (fun _ _ => sStep_le) _ _
  refine Int.le_trans ((foldl_Le (fun _ _ => sStep_le) l2 _).le q.toNat) ?_
  generalize l1.foldl (sStep s h) out = o at *
  have hol : o.length = s.floors.length := e1.len.trans hl
  have hpo : p = -1 ∨ o.getD p.toNat 0 ≤ h := hp.imp id (fun h => Int.le_trans (e1.le _) h)
  show (gStep s h (gStep s h o x) (swapS x)).getD q.toNat 0 ≤ h
  rcases hj with ⟨ha, hb⟩ | ⟨hb, ha⟩
  · refine Int.le_trans (gStep_le.le _) ?_
    have := gStep_reach (s := s) (h := h) (out := o) (y := x) ⟨h1, by omega, by rw [hb]; exact h2, by rw [ha]; exact hpo⟩ (by omega)
    rwa [hb] at this
  · have := gStep_reach (s := s) (h := h) (out := gStep s h o x) (y := swapS x) ⟨h1, by show x.a ≠ -1; omega, by show s.floors.getD x.a.toNat 0 ≤ h; rw [ha]; exact h2, by
      have e2 : (swapS x).a = p := hb
      rw [e2]
      exact hpo.imp id (fun h => Int.le_trans (gStep_le.le _) h)⟩ (by rw [gStep_length]; show 0 ≤ x.a ∧ x.a < _; omega)
    have e : (swapS x).b = q := ha
    rwa [e] at this
def cntLe (h : Int) (o : List Int) : Nat := o.countP (fun v => decide (v ≤ h))
theorem cnt_mono {h : Int} : ∀ {a b : List Int}, a.length = b.length → (∀ j, a.getD j 0 ≤ b.getD j 0) → cntLe h b ≤ cntLe h a ∧ ((∃ j, j < b.length ∧ a.getD j 0 ≤ h ∧ h < b.getD j 0) → cntLe h b + 1 ≤ cntLe h a)
  | [], [], _, _ => ⟨Nat.le_refl _, fun ⟨j, hj, _⟩ => by simp at hj⟩
  | [], _ :: _, hl, _ => by simp at hl
  | _ :: _, [], hl, _ => by simp at hl
  | x :: a, y :: b, hl, hle => by
    have ih := cnt_mono (h := h) (a := a) (b := b) (by simpa using hl) (fun j => by simpa using hle (j + 1))
    have hxy : x ≤ y := by simpa using hle 0
    simp only [cntLe, List.countP_cons] at *
    refine ⟨?_, ?_⟩
    · by_cases h1 : y ≤ h
      · have : x ≤ h := by omega
        simp [h1, this]; exact ih.1
      · simp [h1]; split <;> omega
    · rintro ⟨j, hj, h1, h2⟩
      cases j with
      | zero =>
        simp only [List.getD_cons_zero] at h1 h2
        have h3 : ¬ y ≤ h := by omega
        simp [h1, h3]; exact ih.1
      | succ j =>
        simp only [List.getD_cons_succ] at h1 h2
        have := ih.2 ⟨j, by simpa using hj, h1, h2⟩
        by_cases h3 : y ≤ h
        · have : x ≤ h := by omega
          simp [h3, this]; omega
        · simp [h3]; split <;> omega
theorem rounds_len {s : Sands} {h : Int} {out : List Int} {r : Nat} (hl : out.length = s.floors.length) : (roundsN s h out r).length = s.floors.length := roundsN_length.trans hl
theorem closed_reach {s : Sands} (hG : Good s) {h : Int} {o : List Int} (hc : ∀ j, j < s.floors.length → (sillN s h o s.sills.length).getD j 0 ≤ h → o.getD j 0 ≤ h) (hl : o.length = s.floors.length) {q : Int} (r : Reach s h q) : q = -1 ∨ ((0 ≤ q ∧ q < s.floors.length) ∧ o.getD q.toNat 0 ≤ h) := by
  induction r with
  | sea => exact .inl rfl
  | @step p q x r hx hj hq h1 h2 ih =>
    right
    obtain ⟨k, hk, hkx⟩ := List.mem_iff_getElem.1 hx
    have e : s.sills.getD k default = x := by simp [List.getD_eq_getElem?_getD, hk, hkx]
    have ha := hG.sa k hk
    have hb := hG.sb k hk
    rw [e] at ha hb
    have hqr : 0 ≤ q ∧ q < s.floors.length := by rcases hj with ⟨h3, h4⟩ | ⟨h3, h4⟩ <;> omega
    exact ⟨hqr, hc _ (by omega) (pass_reach hl hx hj hqr h1 h2 (ih.imp id (fun h => h.2)))⟩
theorem rounds_all {s : Sands} (hG : Good s) {h : Int} {out : List Int} (hl : out.length = s.floors.length) : ∀ r : Nat, (∀ q, Reach s h q → q = -1 ∨ ((0 ≤ q ∧ q < s.floors.length) ∧ (roundsN s h out r).getD q.toNat 0 ≤ h)) ∨ r ≤ cntLe h (roundsN s h out r) := by
  intro r
  induction r with
  | zero => exact .inr (Nat.zero_le _)
  | succ r ih =>
    have hle : Le (roundsN s h out (r + 1)) (roundsN s h out r) := pass_le
    rcases ih with ih | ih
    · left
      intro q hq
      exact (ih q hq).imp id (fun h => ⟨h.1, Int.le_trans (hle.le _) h.2⟩)
    · have hc := cnt_mono (h := h) hle.len hle.le
      by_cases hn : ∃ j, j < (roundsN s h out r).length ∧ (roundsN s h out (r + 1)).getD j 0 ≤ h ∧ h < (roundsN s h out r).getD j 0
      · right
        have := hc.2 hn
        omega
      · left
        intro q hq
        have := closed_reach hG (o := roundsN s h out r) (fun j hj hlt => by
          rcases Int.lt_or_le h ((roundsN s h out r).getD j 0) with h1 | h1
          · exact absurd ⟨j, by rw [rounds_len hl]; exact hj, hlt, h1⟩ hn
          · exact h1) (rounds_len hl) hq
        exact this.imp id (fun h => ⟨h.1, Int.le_trans (hle.le _) h.2⟩)
theorem cnt_all {h : Int} : ∀ {o : List Int}, o.length ≤ cntLe h o → ∀ j, j < o.length → o.getD j 0 ≤ h
  | [], _, j, hj => by simp at hj
  | x :: o, hc, j, hj => by
    have h1 : cntLe h o ≤ o.length := List.countP_le_length
    simp only [cntLe, List.countP_cons, List.length_cons] at hc h1
    by_cases hx : x ≤ h
    · cases j with
      | zero => simpa using hx
      | succ j =>
        simp [hx] at hc
        simpa using cnt_all (h := h) (o := o) hc j (by simpa using hj)
    · simp [hx] at hc
      omega
theorem rounds_full {s : Sands} (hG : Good s) {h : Int} {out : List Int} (hl : out.length = s.floors.length) {q : Int} (r : Reach s h q) (hq : 0 ≤ q ∧ q < s.floors.length) : (roundsN s h out s.floors.length).getD q.toNat 0 ≤ h := by
  rcases rounds_all hG hl s.floors.length with h1 | h1
  · rcases h1 q r with h2 | h2
    · omega
    · exact h2.2
  · exact cnt_all (by rw [rounds_len hl]; exact h1) q.toNat (by rw [rounds_len hl]; omega)
theorem rounds_le {s : Sands} {h : Int} {out : List Int} : ∀ r, Le (roundsN s h out r) out
  | 0 => Le.refl _
  | r + 1 => (pass_le (s := s)).trans (rounds_le r)
theorem heights_full {s : Sands} (hG : Good s) {q : Int} (hq : 0 ≤ q ∧ q < s.floors.length) {h : Nat} (r : Reach s (h : Nat) q) : ∀ k : Nat, h < k → (heightN s (initO s.floors.length s.floors.length) k).getD q.toNat 0 ≤ h
  | 0, hk => absurd hk (by omega)
  | k + 1, hk => by
    by_cases hkk : h < k
    · exact Int.le_trans ((rounds_le _).le _) (heights_full hG hq r k hkk)
    · have : h = k := by omega
      subst this
      exact rounds_full hG (by rw [heightN_length, initO_length]) r hq
/-- low sands: nothing is higher than 50 -/
theorem reach_low {s : Sands} (hG : Good s) (h1 : ∀ x, x ∈ s.sills → x.h ≤ 50) (h2 : ∀ j, j < s.floors.length → s.floors.getD j 0 ≤ 50) {h : Int} {q : Int} (r : Reach s h q) : Reach s 50 q := by
  induction r with
  | sea => exact .sea
  | @step p q x r hx hj hq h3 h4 ih =>
    refine .step ih hx hj hq (h1 x hx) ?_
    by_cases hl : q.toNat < s.floors.length
    · exact h2 _ hl
    · rw [List.getD_eq_getElem?_getD, List.getElem?_eq_none (by omega)]; decide
theorem lawGates_eq {s : Sands} (hG : Good s) (h1 : ∀ x, x ∈ s.sills → x.h ≤ 50) (h2 : ∀ j, j < s.floors.length → s.floors.getD j 0 ≤ 50) {j : Nat} (hj : j < s.floors.length) :
    (lawGates s).getD j 0 = if (gatesOf s).getD j 0 = 1000 then 1000000 else (gatesOf s).getD j 0 := by
  have hfl := hG.fl
  have hsnd := heights_snd hG 62 (by omega) j hj
  have hg0 := gates_ok (s := s)
  have hlo := hg0.lo j
  have hhi := hg0.hi j
  by_cases hg : (gatesOf s).getD j 0 = 1000
  · rw [if_pos hg]
    rcases hsnd with h3 | ⟨h3, h4, h5⟩
    · exact h3
    · have := gates_le hG h3 h5
      rcases this with h6 | ⟨_, h6⟩
      · omega
      · rw [Int.toNat_natCast, hg] at h6
        exfalso
        have h4' : (heightN s (initO s.floors.length s.floors.length) 62).getD j 0 ≤ 62 := h4
        omega
  · rw [if_neg hg]
    have hr := gates_snd hG j (by omega) (by omega)
    have h50 := gates_le hG (by omega) (reach_low hG h1 h2 hr)
    rcases h50 with h6 | ⟨_, h6⟩
    · omega
    · rw [Int.toNat_natCast] at h6
      have hr' : Reach s (((gatesOf s).getD j 0).toNat : Nat) (j : Nat) := by rw [Int.toNat_of_nonneg hlo]; exact hr
      have hle := heights_full hG (q := (j : Nat)) (by omega) hr' 62 (by omega)
      rw [Int.toNat_natCast, Int.toNat_of_nonneg hlo] at hle
      have hlg : lawGates s = heightN s (initO s.floors.length s.floors.length) 62 := rfl
      rw [hlg]
      rcases hsnd with h7 | ⟨h7, h8, h9⟩
      · omega
      · have := gates_le hG h7 h9
        rcases this with h10 | ⟨_, h10⟩
        · omega
        · rw [Int.toNat_natCast] at h10
          omega
end Go.Pl

-- plain: what is told
namespace Go.Pl
theorem fix_wind {s : Sands} {w : Span} : ∀ (k : Nat) (g : List Int), fixF { s with wind := w } k g = fixF s k g
  | 0, _ => rfl
  | k + 1, g => by
    have e : roundF { s with wind := w } g = roundF s g := rfl
    unfold fixF
    rw [e, fix_wind k]
theorem gates_wind {s : Sands} {w : Span} : gatesOf { s with wind := w } = gatesOf s := fix_wind 8001 _
/-- the gate of a place, and the law's number for it -/
def gateRel (g v : Int) : Prop := (g = 1000 ∧ v = 1000000) ∨ (g ≠ 1000 ∧ v = g)
theorem made_rel {pl sl : Int} {s : Sands} (h : MadeOK pl sl s) (hG : Good s) {j : Nat} (hj : j < s.floors.length) : gateRel ((gatesOf s).getD j 0) ((lawGates s).getD j 0) := by
  have := lawGates_eq hG (fun x hx => (h.sil x hx).2.2.2.2) (fun j hj => (h.flo _ (mem_getD (d := 0) hj)).2) hj
  rw [this]
  unfold gateRel
  split
  · rename_i h1; exact .inl ⟨h1, rfl⟩
  · rename_i h1; exact .inr ⟨h1, rfl⟩
theorem looked_zero {s : Sands} (hc : check s = 0) {gs : List Int} {tr : Int} {l : List Look} (hl : l.length ≤ 6) (h : ∀ x, x ∈ l → lookT s gs tr x) : lookedE s l = 0 := by
  rw [lookedE_look hc (by omega)]
  exact lookE_ok (fun i hi => (h _ (mem_getD hi)).1)
theorem left_told {s : Sands} (hG : Good s) {gs : List Int} (hgl : ∀ j, j < s.floors.length → gateRel ((gatesOf s).getD j 0) (gs.getD j 0)) {tr : Int} (ht : s.wind.lo ≤ tr ∧ tr ≤ s.wind.hi) : ∀ (l : List Look), (∀ x, x ∈ l → lookT s gs tr x) → ∀ (o : Span), (s.wind.lo ≤ o.lo ∧ o.lo ≤ tr) → (tr ≤ o.hi ∧ o.hi ≤ s.wind.hi) → (s.wind.lo ≤ (l.foldl (leftStep s (gatesOf s)) o).lo ∧ (l.foldl (leftStep s (gatesOf s)) o).lo ≤ tr) ∧ (tr ≤ (l.foldl (leftStep s (gatesOf s)) o).hi ∧ (l.foldl (leftStep s (gatesOf s)) o).hi ≤ s.wind.hi)
  | [], _, o, h1, h2 => ⟨h1, h2⟩
  | x :: l, h, o, h1, h2 => by
    have hx := h x List.mem_cons_self
    have hp := isPlace_iff.1 hx.1.2
    have hr := hgl x.place.toNat (by omega)
    have hb := height_tight hG hx.1.1
    have hlo := hG.lo
    have hhi := hG.hi
    have hw := hx.2
    refine left_told hG hgl ht l (fun y hy => h y (List.mem_cons_of_mem _ hy)) _ ?_ ?_
    all_goals
      unfold leftStep mostG
      unfold gateRel at hr
      cases hwet : x.wet with
      | true =>
        rw [hwet] at hw
        have hw' := of_decide_eq_true hw.symm
        simp only [if_true]
        first | omega | (split <;> omega)
      | false =>
        rw [hwet] at hw
        have hw' := of_decide_eq_false hw.symm
        simp only [Bool.false_eq_true, if_false]
        first | omega | (split <;> omega)
theorem looks_told {s : Sands} (hc : check s = 0) (hG : Good s) {gs : List Int} (hgl : ∀ j, j < s.floors.length → gateRel ((gatesOf s).getD j 0) (gs.getD j 0)) {tr : Int} (ht : s.wind.lo ≤ tr ∧ tr ≤ s.wind.hi) {l : List Look} (hl : l.length ≤ 6) (h : ∀ x, x ∈ l → lookT s gs tr x) :
    ∃ w : Span, LooksR s l = (w, 0) ∧ (s.wind.lo ≤ w.lo ∧ w.lo ≤ tr) ∧ (tr ≤ w.hi ∧ w.hi ≤ s.wind.hi) := by
  have h1 := left_told hG hgl ht l h s.wind ⟨Int.le_refl _, ht.1⟩ ⟨ht.2, Int.le_refl _⟩
  refine ⟨leftG s (gatesOf s) l, ?_, h1⟩
  unfold LooksR
  rw [if_neg (by rw [looked_zero hc hl h]; simp), if_neg (by have := h1.1; have := h1.2; unfold leftG; omega)]
theorem wind_check {s : Sands} (hc : check s = 0) {w : Span} (hlo : s.wind.lo ≤ w.lo) (hm : w.lo ≤ w.hi) (hhi : w.hi ≤ s.wind.hi) : check { s with wind := w } = 0 := by
  have hG := good_of_check hc
  have h1 := hG.lo
  have h2 := hG.hi
  have e5 : inr w.lo (-50) 50 = true := inr_iff.2 (by omega)
  have e6 : inr w.hi (-50) 50 = true := inr_iff.2 (by omega)
  have f5 : inr s.wind.lo (-50) 50 = true := inr_iff.2 (by omega)
  have f6 : inr s.wind.hi (-50) 50 = true := inr_iff.2 (by omega)
  have eo : ordered { s with wind := w } = ordered s := by
    rw [ordered_true (s := { s with wind := w }) hG.inc, ordered_true hG.inc]
    have := hG.wind
    simp [hm, this]
  have ei : ∀ p, isEnd { s with wind := w } p = isEnd s p := fun p => rfl
  rw [← hc]
  simp only [Pl.check, e5, e6, f5, f6, eo, ei]
/-- the state, by the law's number -/
theorem state_told {s : Sands} (hG : Good s) {m : Int} (hd : dayF s m = true) {k : Nat} {v : Int} (hr : gateRel ((gatesOf s).getD k 0) v) :
    (stateF s m (k : Nat) = 2 ∧ v < heightF s m + s.wind.lo) ∨ (stateF s m (k : Nat) = 0 ∧ ¬ v < heightF s m + s.wind.hi) ∨ (stateF s m (k : Nat) = 1 ∧ ¬ v < heightF s m + s.wind.lo ∧ v < heightF s m + s.wind.hi) := by
  have hb := height_tight hG hd
  have h1 := hG.lo
  have h2 := hG.hi
  have h3 := hG.wind
  unfold stateF stateG levelF
  rw [Int.toNat_natCast]
  simp only
  unfold gateRel at hr
  split
  · rename_i h4
    right; left
    refine ⟨rfl, ?_⟩
    rcases hr with ⟨h5, h6⟩ | ⟨h5, h6⟩
    · omega
    · omega
  · split
    · left; exact ⟨rfl, by omega⟩
    · right; right; exact ⟨rfl, by omega, by omega⟩
end Go.Pl

namespace Go.Proofs.Wk
open Go Go.Gx Go.Pl
set_option linter.unusedVariables false
/-! ### numbers out of bytes -/
def HOK (l : List Int) (p : Int) : Prop := 0 ≤ p ∧ (p < (l.length : Int) ∨ p = 0)
theorem pick_ok {l : List Int} {p r : Int} (hl : l.length ≤ 9223372036854775807) (hp : HOK l p) : ∃ x, m_laurelkit_Heap_pick l p r = some x ∧ (0 ≤ x.r0 ∧ x.r0 ≤ 32767) ∧ HOK l x.h0_1 := by
  obtain ⟨h0, h1⟩ := hp
  unfold m_laurelkit_Heap_pick
  have e1 : addc p 1 = some (p + 1) := addc_eq (by omega)
  by_cases hlt : p < (l.length : Int)
  · rw [if_pos hlt, ix_eq 0 h0 hlt, e1]
    simp only [Option.bind_some]
    by_cases hge : (l.length : Int) ≤ p + 1
    · rw [if_pos hge]
      refine ⟨_, rfl, Go.Fw.and_bound _ _ rfl, ?_⟩
      exact ⟨Int.le_refl _, .inr rfl⟩
    · rw [if_neg hge]
      refine ⟨_, rfl, Go.Fw.and_bound _ _ rfl, ?_⟩
      exact ⟨by simp only; omega, .inl (by simp only; omega)⟩
  · rw [if_neg hlt, e1]
    simp only [Option.bind_some]
    by_cases hge : (l.length : Int) ≤ p + 1
    · rw [if_pos hge]
      refine ⟨_, rfl, Go.Fw.and_bound _ _ rfl, ?_⟩
      exact ⟨Int.le_refl _, .inr rfl⟩
    · rw [if_neg hge]
      refine ⟨_, rfl, Go.Fw.and_bound _ _ rfl, ?_⟩
      exact ⟨by simp only; omega, .inl (by simp only; omega)⟩
theorem upto_ok {l : List Int} {p r n : Int} (hl : l.length ≤ 9223372036854775807) (hp : HOK l p) (hn : -1000000 ≤ n ∧ n ≤ 1000000) : ∃ x, m_laurelkit_Heap_Upto l p r n = some x ∧ (0 ≤ x.r0 ∧ x.r0 ≤ max 0 n) ∧ HOK l x.h0_1 := by
  obtain ⟨x, hx, hb, hk⟩ := pick_ok (r := r) hl hp
  unfold m_laurelkit_Heap_Upto
  rw [hx]
  simp only [Option.bind_some]
  rw [addc_eq (by omega)]
  simp only [Option.bind_some]
  rw [remc_eq (by omega)]
  simp only [Option.bind_some]
  refine ⟨_, rfl, ?_, hk⟩
  have h1 := Int.tmod_nonneg (max 1 (n + 1)) hb.1
  have h2 := Int.tmod_lt_of_pos x.r0 (show 0 < max 1 (n + 1) by omega)
  simp only
  omega
theorem from_ok {l : List Int} {p r lo hi : Int} (hl : l.length ≤ 9223372036854775807) (hp : HOK l p) (hn : (-400000 ≤ lo ∧ lo ≤ 400000) ∧ -400000 ≤ hi ∧ hi ≤ 400000) : ∃ x, m_laurelkit_Heap_From l p r lo hi = some x ∧ (lo ≤ x.r0 ∧ x.r0 ≤ max lo hi) ∧ HOK l x.h0_1 := by
  unfold m_laurelkit_Heap_From
  rw [subc_eq (by omega)]
  simp only [Option.bind_some]
  obtain ⟨x, hx, hb, hk⟩ := upto_ok (r := r) (n := hi - lo) hl hp (by omega)
  rw [hx]
  simp only [Option.bind_some]
  rw [addc_eq (by omega)]
  simp only [Option.bind_some]
  exact ⟨_, rfl, by simp only; omega, hk⟩
theorem once_ok {l : List Int} {p r n : Int} (hl : l.length ≤ 9223372036854775807) (hp : HOK l p) (hn : -400000 ≤ n ∧ n ≤ 400000) : ∃ x, m_laurelkit_Heap_Once l p r n = some x ∧ HOK l x.h0_1 := by
  unfold m_laurelkit_Heap_Once
  rw [subc_eq (by omega)]
  simp only [Option.bind_some]
  obtain ⟨x, hx, hb, hk⟩ := upto_ok (r := r) (n := n - 1) hl hp (by omega)
  rw [hx]
  simp only [Option.bind_some]
  exact ⟨_, rfl, hk⟩
/-! ### sands out of bytes -/
theorem made_L0 {l : List Int} (hl : l.length ≤ 9223372036854775807) {t : m_laurelkit_Heap_From_R} (ht : 0 ≤ t.r0 ∧ t.r0 ≤ 4) {a p r : Int} (ha : 0 ≤ a ∧ a ≤ 20) (hp : HOK l p) :
    ∃ o, iterM FU (m_laurellaw01_Made_L0 t l) ⟨a, 0, p, r, []⟩ = some o ∧ (∃ e, TabOK o.s7_table e ∧ e ≤ 140) ∧ (o.s7_table.length : Int) = t.r0 ∧ HOK l o.b0_1 := by
  refine iterM_inv (fun s => (0 ≤ s.t23 ∧ s.t23 ≤ t.r0) ∧ (s.s7_table.length : Int) = s.t23 ∧ TabOK s.s7_table s.at8 ∧ (0 ≤ s.at8 ∧ s.at8 ≤ 20 + 30 * s.t23) ∧ HOK l s.b0_1) (fun s => (t.r0 - s.t23).toNat) _ (fun s hs => ?_) FU _ (FU_lt (by simp only; omega)) ⟨⟨Int.le_refl _, ht.1⟩, rfl, TabOK.nil, by simp only; omega, hp⟩
  obtain ⟨h1, h2, h3, h4, h5⟩ := hs
  unfold m_laurellaw01_Made_L0
  by_cases hc : s.t23 < t.r0
  · left
    obtain ⟨x, hx, hxb, hxk⟩ := upto_ok (r := s.b0_2) (n := 60) hl h5 (by omega)
    obtain ⟨y, hy, hyb, hyk⟩ := from_ok (r := x.h0_2) (lo := 1) (hi := 30) hl hxk (by omega)
    have e1 : appc 16 s.s7_table [(⟨s.at8, x.r0⟩ : Water)] = some (s.s7_table ++ [⟨s.at8, x.r0⟩]) := appc_eq (by simp; omega)
    have e2 : addc s.at8 y.r0 = some (s.at8 + y.r0) := addc_eq (by omega)
    have e3 : addc s.t23 1 = some (s.t23 + 1) := addc_eq (by omega)
    simp only [if_pos hc, hx, e1, hy, e2, e3, Option.bind_some]
    refine ⟨_, rfl, ⟨by simp only; omega, by simp; omega, h3.snoc h4.1 (by simp only; omega) (by omega), by simp only; omega, hyk⟩, by simp only; omega⟩
  · right
    rw [if_neg hc]
    exact ⟨_, rfl, ⟨s.at8, h3, by omega⟩, by simp only; omega, h5⟩
theorem made_L1 {l : List Int} (hl : l.length ≤ 9223372036854775807) {t : m_laurelkit_Heap_From_R} (ht : 0 ≤ t.r0 ∧ t.r0 ≤ 8) {p r : Int} (hp : HOK l p) :
    ∃ o, iterM FU (m_laurellaw01_Made_L1 t l) ⟨0, p, r, []⟩ = some o ∧ (∀ x, x ∈ o.s7_floors → 0 ≤ x ∧ x ≤ 50) ∧ (o.s7_floors.length : Int) = t.r0 ∧ HOK l o.b0_1 := by
  refine iterM_inv (fun s => (0 ≤ s.t42 ∧ s.t42 ≤ t.r0) ∧ (s.s7_floors.length : Int) = s.t42 ∧ (∀ x, x ∈ s.s7_floors → 0 ≤ x ∧ x ≤ 50) ∧ HOK l s.b0_1) (fun s => (t.r0 - s.t42).toNat) _ (fun s hs => ?_) FU _ (FU_lt (by simp only; omega)) ⟨⟨Int.le_refl _, ht.1⟩, rfl, (fun x hx => by cases hx), hp⟩
  obtain ⟨h1, h2, h3, h5⟩ := hs
  unfold m_laurellaw01_Made_L1
  by_cases hc : s.t42 < t.r0
  · left
    obtain ⟨x, hx, hxb, hxk⟩ := upto_ok (r := s.b0_2) (n := 50) hl h5 (by omega)
    have e1 : appc 8 s.s7_floors [x.r0] = some (s.s7_floors ++ [x.r0]) := appc_eq (by simp; omega)
    have e3 : addc s.t42 1 = some (s.t42 + 1) := addc_eq (by omega)
    simp only [if_pos hc, hx, e1, e3, Option.bind_some]
    refine ⟨_, rfl, ⟨by simp only; omega, by simp; omega, fun y hy => ?_, hxk⟩, by simp only; omega⟩
    rcases List.mem_append.1 hy with h | h
    · exact h3 y h
    · simp only [List.mem_singleton] at h
      subst h; omega
  · right
    rw [if_neg hc]
    exact ⟨_, rfl, h3, by simp only; omega, h5⟩
theorem made_L2 {l : List Int} (hl : l.length ≤ 9223372036854775807) {t : m_laurelkit_Heap_Upto_R} {sl : Int} (hsl : 0 ≤ sl ∧ sl ≤ 16) (ht : 0 ≤ t.r0 ∧ t.r0 ≤ sl) {o1 : m_laurellaw01_Made_C1} (ho : 1 ≤ o1.s7_floors.length ∧ o1.s7_floors.length ≤ 8) {p r : Int} (hp : HOK l p) :
    ∃ o, iterM FU (m_laurellaw01_Made_L2 t o1 l) ⟨0, p, r, []⟩ = some o ∧ (∀ x, x ∈ o.s7_sills → sillOK (o1.s7_floors.length : Int) x) ∧ (o.s7_sills.length : Int) ≤ t.r0 ∧ HOK l o.b0_1 := by
  refine iterM_inv (fun s => (0 ≤ s.t55 ∧ s.t55 ≤ t.r0) ∧ (s.s7_sills.length : Int) ≤ s.t55 ∧ (∀ x, x ∈ s.s7_sills → sillOK (o1.s7_floors.length : Int) x) ∧ HOK l s.b0_1) (fun s => (t.r0 - s.t55).toNat) _ (fun s hs => ?_) FU _ (FU_lt (by simp only; omega)) ⟨⟨Int.le_refl _, ht.1⟩, by simp, (fun x hx => by cases hx), hp⟩
  obtain ⟨h1, h2, h3, h5⟩ := hs
  unfold m_laurellaw01_Made_L2
  by_cases hc : s.t55 < t.r0
  · left
    have e62 : subc (o1.s7_floors.length : Int) 1 = some ((o1.s7_floors.length : Int) - 1) := subc_eq (by omega)
    have e66 : subc (min s.t55 ((o1.s7_floors.length : Int) - 1)) 1 = some (min s.t55 ((o1.s7_floors.length : Int) - 1) - 1) := subc_eq (by omega)
    obtain ⟨x, hx, hxb, hxk⟩ := from_ok (r := s.b0_2) (lo := -1) (hi := min s.t55 ((o1.s7_floors.length : Int) - 1) - 1) hl h5 (by omega)
    obtain ⟨y, hy, hyb, hyk⟩ := upto_ok (r := x.h0_2) (n := 50) hl hxk (by omega)
    have e110 : addc s.t55 1 = some (s.t55 + 1) := addc_eq (by omega)
    simp only [if_pos hc, e62, e66, hx, hy, e110, Option.bind_some]
    -- the ends
    obtain ⟨c4, hc4, hca, hcb, hck⟩ : ∃ c4 : m_laurellaw01_Made_C4, (if (o1.s7_floors.length : Int) ≤ s.t55 then (m_laurelkit_Heap_From l y.h0_1 y.h0_2 (-1) ((o1.s7_floors.length : Int) - 1)).bind fun t82 => (m_laurelkit_Heap_Upto l t82.h0_1 t82.h0_2 ((o1.s7_floors.length : Int) - 1)).bind fun t88 => some (⟨t82.r0, t88.r0, t88.h0_1, t88.h0_2⟩ : m_laurellaw01_Made_C4) else some (⟨x.r0, min s.t55 ((o1.s7_floors.length : Int) - 1), y.h0_1, y.h0_2⟩ : m_laurellaw01_Made_C4)) = some c4 ∧ (-1 ≤ c4.x11_a ∧ c4.x11_a < o1.s7_floors.length) ∧ (-1 ≤ c4.x11_b ∧ c4.x11_b < o1.s7_floors.length) ∧ HOK l c4.b0_1 := by
      by_cases hf : (o1.s7_floors.length : Int) ≤ s.t55
      · obtain ⟨u, hu, hub, huk⟩ := from_ok (r := y.h0_2) (lo := -1) (hi := (o1.s7_floors.length : Int) - 1) hl hyk (by omega)
        obtain ⟨v, hv, hvb, hvk⟩ := upto_ok (r := u.h0_2) (n := (o1.s7_floors.length : Int) - 1) hl huk (by omega)
        simp only [if_pos hf, hu, hv, Option.bind_some]
        exact ⟨_, rfl, by simp only; omega, by simp only; omega, hvk⟩
      · simp only [if_neg hf]
        exact ⟨_, rfl, by simp only; omega, by simp only; omega, hyk⟩
    rw [hc4]
    simp only [Option.bind_some]
    obtain ⟨z, hz, hzk⟩ := once_ok (r := c4.b0_2) (n := 3) hl hck (by omega)
    rw [hz]
    simp only [Option.bind_some]
    obtain ⟨c5, hc5, hda, hdb, hdk⟩ : ∃ c5 : m_laurellaw01_Made_C5, (if z.r0 = true then some (⟨c4.x11_b, c4.x11_a, z.h0_1, z.h0_2⟩ : m_laurellaw01_Made_C5) else some (⟨c4.x11_a, c4.x11_b, z.h0_1, z.h0_2⟩ : m_laurellaw01_Made_C5)) = some c5 ∧ (-1 ≤ c5.x11_a ∧ c5.x11_a < o1.s7_floors.length) ∧ (-1 ≤ c5.x11_b ∧ c5.x11_b < o1.s7_floors.length) ∧ HOK l c5.b0_1 := by
      cases z.r0 with
      | true => exact ⟨_, rfl, hcb, hca, hzk⟩
      | false => exact ⟨_, rfl, hca, hcb, hzk⟩
    rw [hc5]
    simp only [Option.bind_some]
    by_cases hab : c5.x11_a = c5.x11_b
    · rw [if_pos hab]
      simp only [Option.bind_some]
      exact ⟨_, rfl, ⟨by simp only; omega, by simp only; omega, h3, hdk⟩, by simp only; omega⟩
    · rw [if_neg hab, appc_eq (by simp; omega)]
      simp only [Option.bind_some]
      refine ⟨_, rfl, ⟨by simp only; omega, by simp; omega, fun q hq => ?_, hdk⟩, by simp only; omega⟩
      rcases List.mem_append.1 hq with h | h
      · exact h3 q h
      · simp only [List.mem_singleton] at h
        subst h
        exact ⟨hda, hdb, hab, by simp only; omega⟩
  · right
    rw [if_neg hc]
    exact ⟨_, rfl, h3, by simp only; omega, h5⟩
theorem made_ok {l : List Int} (hl : l.length ≤ 9223372036854775807) {p r pl sl : Int} (hp : HOK l p) (hpl : 1 ≤ pl ∧ pl ≤ 8) (hsl : 0 ≤ sl ∧ sl ≤ 16) :
    ∃ o, m_laurellaw01_Made l p r pl sl = some o ∧ MadeOK pl sl o.r0 ∧ HOK l o.b0_1 := by
  unfold m_laurellaw01_Made
  obtain ⟨a, ha, hab, hak⟩ := upto_ok (r := r) (n := 8) hl hp (by omega)
  have e14 : negc a.r0 = some (-a.r0) := negc_eq (by omega)
  obtain ⟨b, hb, hbb, hbk⟩ := upto_ok (r := a.h0_2) (n := 8) hl hak (by omega)
  obtain ⟨c, hc, hcb, hck⟩ := upto_ok (r := b.h0_2) (n := 20) hl hbk (by omega)
  obtain ⟨d, hd, hdb, hdk⟩ := from_ok (r := c.h0_2) (lo := 2) (hi := 4) hl hck (by omega)
  simp only [ha, e14, hb, hc, hd, Option.bind_some]
  obtain ⟨o, ho, ⟨e, hte, hee⟩, hol, hok⟩ := made_L0 hl (t := d) (by omega) (a := c.r0) (r := d.h0_2) (by omega) hdk
  simp only [ho, Option.bind_some]
  obtain ⟨f, hf, hfb, hfk⟩ := from_ok (r := o.b0_2) (lo := 1) (hi := pl) hl hok (by omega)
  simp only [hf, Option.bind_some]
  obtain ⟨o1, ho1, hof, hofl, hok1⟩ := made_L1 hl (t := f) (by omega) (r := f.h0_2) hfk
  simp only [ho1, Option.bind_some]
  obtain ⟨g, hg, hgb, hgk⟩ := upto_ok (r := o1.b0_2) (n := sl) hl hok1 (by omega)
  simp only [hg, Option.bind_some]
  obtain ⟨o2, ho2, hos, hosl, hok2⟩ := made_L2 hl hsl (t := g) (by omega) (o1 := o1) (by omega) (r := g.h0_2) hgk
  simp only [ho2, Option.bind_some]
  exact ⟨_, rfl, ⟨by simp only; omega, ⟨e, hte, hee⟩, by simp only; omega, by simp only; omega, by simp only; omega, hof, by simp only; omega, hos⟩, hok2⟩
end Go.Proofs.Wk

namespace Go.Proofs.Wk
open Go Go.Gx Go.Pl
set_option linter.unusedVariables false
/-! ### copies -/
theorem dup_water {l : List Water} (h : l.length ≤ 1000) : m_laurelkit_Dup_tideWater l = some l := by
  unfold m_laurelkit_Dup_tideWater
  rw [makec_eq ⟨by omega, by omega, by omega, by omega⟩]
  simp only [Option.bind_some]
  rw [appc_eq (by simp; omega)]
  simp
theorem dup_int {l : List Int} (h : l.length ≤ 1000) : m_laurelkit_Dup_int l = some l := by
  unfold m_laurelkit_Dup_int
  rw [makec_eq ⟨by omega, by omega, by omega, by omega⟩]
  simp only [Option.bind_some]
  rw [appc_eq (by simp; omega)]
  simp
theorem dup_sill {l : List Sill} (h : l.length ≤ 1000) : m_laurelkit_Dup_tideSill l = some l := by
  unfold m_laurelkit_Dup_tideSill
  rw [makec_eq ⟨by omega, by omega, by omega, by omega⟩]
  simp only [Option.bind_some]
  rw [appc_eq (by simp; omega)]
  simp
/-- sands whose lists are short -/
structure Short (s : Sands) : Prop where
  t : s.table.length ≤ 100
  f : s.floors.length ≤ 100
  s : s.sills.length ≤ 100
theorem own_eq {s : Sands} (h : Short s) : m_laurellaw01_Own s = some s := by
  have h1 := h.t
  have h2 := h.f
  have h3 := h.s
  unfold m_laurellaw01_Own
  rw [dup_water (by omega), dup_int (by omega), dup_sill (by omega)]
  rfl
theorem take_snoc {α : Type} {l : List α} {k : Nat} (d : α) (h : k < l.length) : l.take k ++ [l.getD k d] = l.take (k + 1) := by
  rw [List.take_succ_eq_append_getElem h, List.getD_eq_getElem?_getD]
  simp [h]
theorem theirs_eq {s : Sands} (h : Short s) : m_laurellaw01_theirs s = some s := by
  have h1 := h.t
  have h2 := h.f
  have h3 := h.s
  unfold m_laurellaw01_theirs
  rw [dup_int (by omega)]
  simp only [Option.bind_some]
  have e1 : iterM FU (m_laurellaw01_theirs_L0 s) ⟨0, []⟩ = some s.table := by
    refine iterM_run (fun k => (⟨(k : Int), s.table.take k⟩ : m_laurellaw01_theirs_S0)) s.table.length (fun k hk => ?_) ?_ FU (FU_lt (by omega))
    · unfold m_laurellaw01_theirs_L0
      simp only
      rw [if_pos (by omega), ix_nat default hk, Option.bind_some, appc_eq (by simp; omega), Option.bind_some, addc_eq (by omega), Option.bind_some, take_snoc default hk]
      simp
    · unfold m_laurellaw01_theirs_L0
      simp
  have e2 : iterM FU (m_laurellaw01_theirs_L1 s) ⟨0, []⟩ = some s.sills := by
    refine iterM_run (fun k => (⟨(k : Int), s.sills.take k⟩ : m_laurellaw01_theirs_S1)) s.sills.length (fun k hk => ?_) ?_ FU (FU_lt (by omega))
    · unfold m_laurellaw01_theirs_L1
      simp only
      rw [if_pos (by omega), ix_nat default hk, Option.bind_some, appc_eq (by simp; omega), Option.bind_some, addc_eq (by omega), Option.bind_some, take_snoc default hk]
      simp
    · unfold m_laurellaw01_theirs_L1
      simp
  rw [e1, e2]
  rfl
/-! ### comparisons -/
theorem equal_water (a : List Water) (ha : a.length ≤ 1000) : m_slices_Equal_tideWatertideWater a a = some true := by
  unfold m_slices_Equal_tideWatertideWater
  rw [if_pos rfl, iterM_any0 a.length (fun _ => false) false (fun k hk => ?_) (by unfold m_slices_Equal_tideWatertideWater_L0; simp) (FU_lt (by omega))]
  · simp
  · unfold m_slices_Equal_tideWatertideWater_L0
    rw [if_pos (by omega), ix_nat default hk, Option.bind_some, Option.bind_some, if_pos rfl, addc_eq (by omega)]
    simp
theorem equal_int (a : List Int) (ha : a.length ≤ 1000) : m_slices_Equal_intint a a = some true := by
  unfold m_slices_Equal_intint
  rw [if_pos rfl, iterM_any0 a.length (fun _ => false) false (fun k hk => ?_) (by unfold m_slices_Equal_intint_L0; simp) (FU_lt (by omega))]
  · simp
  · unfold m_slices_Equal_intint_L0
    rw [if_pos (by omega), ix_nat default hk, Option.bind_some, Option.bind_some, if_pos rfl, addc_eq (by omega)]
    simp
theorem equal_sill (a : List Sill) (ha : a.length ≤ 1000) : m_slices_Equal_tideSilltideSill a a = some true := by
  unfold m_slices_Equal_tideSilltideSill
  rw [if_pos rfl, iterM_any0 a.length (fun _ => false) false (fun k hk => ?_) (by unfold m_slices_Equal_tideSilltideSill_L0; simp) (FU_lt (by omega))]
  · simp
  · unfold m_slices_Equal_tideSilltideSill_L0
    rw [if_pos (by omega), ix_nat default hk, Option.bind_some, Option.bind_some, if_pos rfl, addc_eq (by omega)]
    simp
theorem same_eq {s : Sands} (h : Short s) : m_laurellaw01_same s s = some true := by
  have h1 := h.t
  have h2 := h.f
  have h3 := h.s
  unfold m_laurellaw01_same m_laurelkit_Eq_tideWater m_laurelkit_Eq_int m_laurelkit_Eq_tideSill
  rw [equal_water _ (by omega), equal_int _ (by omega), equal_sill _ (by omega)]
  simp
/-! ### the reference's errors -/
theorem off_eq {n lo hi : Int} : m_laurelref01_off n lo hi = some (!inr n lo hi) := by
  unfold m_laurelref01_off inr
  by_cases h : n < lo
  · have h2 : decide (lo ≤ n) = false := decide_eq_false (by omega)
    simp [h, h2]
  · have h2 : decide (lo ≤ n) = true := decide_eq_true (by omega)
    have h3 : (!decide (n ≤ hi)) = decide (hi < n) := by
      by_cases h4 : n ≤ hi
      · simp [h4]
      · have h5 : hi < n := by omega
        simp [h4, h5]
    simp [h, h2, h3]
theorem or_some {a b : Bool} : ((if a = true then some true else some b) : Option Bool) = some (a || b) := by cases a <;> rfl
theorem ite_bool {α : Type} {b : Bool} {x y : α} : (if b = true then some x else some y) = some (if b = true then x else y) := by cases b <;> rfl
theorem ite_dec {α : Type} {p : Prop} [Decidable p] {x y : α} : (if p then some x else some y) = some (if decide p = true then x else y) := by by_cases h : p <;> simp [h]
theorem check_L0 {s : Sands} (h : Short s) : iterM FU (m_laurelref01_Check_L0 s) 0 = some (if s.table.all bigW then .inl () else .inr 3) := by
  have h1 := h.t
  rw [iterM_any0 s.table.length (fun k => !bigW (s.table.getD k default)) 3 (fun k hk => ?_) (by unfold m_laurelref01_Check_L0; simp) (FU_lt (by omega))]
  · rw [any_range (p := fun x => !bigW x) (d := default)]
    have := all_not_any (p := fun x => bigW x) (l := s.table)
    cases h2 : s.table.any (fun x => !bigW x) <;> simp_all
  · unfold m_laurelref01_Check_L0
    rw [if_pos (by omega), ix_nat default hk]
    simp only [Option.bind_some, off_eq, or_some]
    rw [addc_eq (by omega)]
    simp only [Option.bind_some, bigW, Bool.not_and, ite_bool]
theorem check_L1 {s : Sands} (h : Short s) : iterM FU (m_laurelref01_Check_L1 s) 0 = some (if s.floors.all hgt then .inl () else .inr 3) := by
  have h1 := h.f
  rw [iterM_any0 s.floors.length (fun k => !hgt (s.floors.getD k default)) 3 (fun k hk => ?_) (by unfold m_laurelref01_Check_L1; simp) (FU_lt (by omega))]
  · rw [any_range (p := fun x => !hgt x) (d := default)]
    have := all_not_any (p := fun x => hgt x) (l := s.floors)
    cases h2 : s.floors.any (fun x => !hgt x) <;> simp_all
  · unfold m_laurelref01_Check_L1
    rw [if_pos (by omega), ix_nat default hk]
    simp only [Option.bind_some, off_eq]
    rw [addc_eq (by omega)]
    simp only [Option.bind_some, hgt, ite_bool]
    rfl
theorem check_L2 {s : Sands} (h : Short s) : iterM FU (m_laurelref01_Check_L2 s) 0 = some (if s.sills.all (fun x => hgt x.h) then .inl () else .inr 3) := by
  have h1 := h.s
  rw [iterM_any0 s.sills.length (fun k => !hgt (s.sills.getD k default).h) 3 (fun k hk => ?_) (by unfold m_laurelref01_Check_L2; simp) (FU_lt (by omega))]
  · rw [any_range (p := fun x : Sill => !hgt x.h) (d := default)]
    have := all_not_any (p := fun x : Sill => hgt x.h) (l := s.sills)
    cases h2 : s.sills.any (fun x => !hgt x.h) <;> simp_all
  · unfold m_laurelref01_Check_L2
    rw [if_pos (by omega), ix_nat default hk]
    simp only [Option.bind_some, off_eq]
    rw [addc_eq (by omega)]
    simp only [Option.bind_some, hgt, ite_bool]
    rfl
theorem check_L3 {s : Sands} (h : Short s) : iterM FU (m_laurelref01_Check_L3 s) 1 = some (if (List.range (s.table.length - 1)).all (fun i => decide ((s.table.getD i default).min < (s.table.getD (i + 1) default).min)) then .inl () else .inr 4) ∨ s.table.length = 0 := by
  have h1 := h.t
  by_cases h0 : s.table.length = 0
  · exact .inr h0
  left
  have := iterM_any (f := m_laurelref01_Check_L3 s) 1 (s.table.length - 1) (fun k => decide ((s.table.getD (k + 1) default).min ≤ (s.table.getD k default).min)) (fun _ => 4) (fun k hk => ?_) (by unfold m_laurelref01_Check_L3; rw [if_neg (by omega)]) (N := FU) (FU_lt (by omega))
  · rw [this]
    cases hf : (List.range (s.table.length - 1)).find? (fun k => decide ((s.table.getD (k + 1) default).min ≤ (s.table.getD k default).min)) with
    | none =>
      have h2 : (List.range (s.table.length - 1)).all (fun i => decide ((s.table.getD i default).min < (s.table.getD (i + 1) default).min)) = true := by
        rw [List.all_eq_true]
        intro x hx
        have := List.find?_eq_none.1 hf x hx
        simp only [decide_eq_true_eq] at this ⊢
        omega
      rw [h2]; rfl
    | some k =>
      have h3 := List.find?_some hf
      have h4 := List.mem_of_find?_eq_some hf
      have h2 : (List.range (s.table.length - 1)).all (fun i => decide ((s.table.getD i default).min < (s.table.getD (i + 1) default).min)) = false := by
        rw [List.all_eq_false]
        refine ⟨k, h4, ?_⟩
        simp only [decide_eq_true_eq] at h3 ⊢
        omega
      rw [h2]; rfl
  · unfold m_laurelref01_Check_L3
    rw [if_pos (by omega), show (1 : Int) + (k : Int) = ((k + 1 : Nat) : Int) by omega, ix_nat default (by omega), subc_eq (by omega)]
    simp only [Option.bind_some]
    rw [show ((k + 1 : Nat) : Int) - 1 = (k : Int) by omega, ix_nat default (by omega), addc_eq (by omega)]
    simp only [Option.bind_some]
    rw [ite_dec, show ((k + 1 : Nat) : Int) + 1 = (1 : Int) + (k : Int) + 1 by omega]
theorem check_L4 {s : Sands} (h : Short s) : iterM FU (m_laurelref01_Check_L4 s) 0 = some (if s.sills.all (fun x => inr x.a (-1) ((s.floors.length : Int) - 1) && inr x.b (-1) ((s.floors.length : Int) - 1)) then .inl () else .inr 1) := by
  have h1 := h.s
  have h2 := h.f
  rw [iterM_any0 s.sills.length (fun k => !((fun x : Sill => inr x.a (-1) ((s.floors.length : Int) - 1) && inr x.b (-1) ((s.floors.length : Int) - 1)) (s.sills.getD k default))) 1 (fun k hk => ?_) (by unfold m_laurelref01_Check_L4; simp) (FU_lt (by omega))]
  · rw [any_range (p := fun x : Sill => !((fun x : Sill => inr x.a (-1) ((s.floors.length : Int) - 1) && inr x.b (-1) ((s.floors.length : Int) - 1)) x)) (d := default)]
    have := all_not_any (p := fun x : Sill => inr x.a (-1) ((s.floors.length : Int) - 1) && inr x.b (-1) ((s.floors.length : Int) - 1)) (l := s.sills)
    rw [← this]
    generalize s.sills.any _ = b
    cases b <;> rfl
  · unfold m_laurelref01_Check_L4
    rw [if_pos (by omega), ix_nat default hk, subc_eq (by omega)]
    simp only [Option.bind_some, off_eq, or_some]
    rw [addc_eq (by omega)]
    simp only [Option.bind_some, Bool.not_and, ite_bool]
theorem check_L5 {s : Sands} (h : Short s) : iterM FU (m_laurelref01_Check_L5 s) 0 = some (if s.sills.all (fun x => !decide (x.a = x.b)) then .inl () else .inr 8) := by
  have h1 := h.s
  rw [iterM_any0 s.sills.length (fun k => !((fun x : Sill => !decide (x.a = x.b)) (s.sills.getD k default))) 8 (fun k hk => ?_) (by unfold m_laurelref01_Check_L5; simp) (FU_lt (by omega))]
  · rw [any_range (p := fun x : Sill => !((fun x : Sill => !decide (x.a = x.b)) x)) (d := default)]
    have := all_not_any (p := fun x : Sill => !decide (x.a = x.b)) (l := s.sills)
    rw [← this]
    generalize s.sills.any _ = b
    cases b <;> rfl
  · unfold m_laurelref01_Check_L5
    rw [if_pos (by omega), ix_nat default hk, addc_eq (by omega)]
    simp only [Option.bind_some]
    rw [ite_dec, Bool.not_not]
theorem isEnd_inr {s : Sands} {p : Int} : isEnd s p = inr p (-1) ((s.floors.length : Int) - 1) ∨ s.floors.length = 0 := by
  by_cases h0 : s.floors.length = 0
  · exact .inr h0
  left
  rw [Bool.eq_iff_iff, isEnd_iff, inr_iff]
  omega
theorem refcheck_eq {s : Sands} (h : Short s) : m_laurelref01_Check s = some (check s) := by
  unfold m_laurelref01_Check check
  simp only [off_eq, Option.bind_some, or_some]
  cases h1 : (!inr (s.table.length : Int) 2 12 || (!inr (s.floors.length : Int) 1 8 || decide (16 < (s.sills.length : Int)))) with
  | true => simp only [Bool.or_assoc, h1, if_true]
  | false =>
    simp only [Bool.or_assoc, h1, Bool.false_eq_true, if_false]
    simp only [Bool.or_eq_false_iff, Bool.not_eq_false', inr_iff] at h1
    rw [check_L0 h]
    cases h2 : s.table.all bigW with
    | false => simp
    | true =>
      simp only [if_true, Option.bind_some, oc_inl, Bool.not_true, Bool.false_eq_true, if_false]
      rw [check_L1 h, check_L2 h]
      cases h3 : (!inr s.wind.lo (-50) 50 || !inr s.wind.hi (-50) 50) with
      | true => simp [← Bool.or_assoc, h3]
      | false =>
        simp only [Bool.false_eq_true, if_false, ← Bool.or_assoc, h3, Bool.false_or]
        cases h4 : s.floors.all hgt with
        | false => simp
        | true =>
          simp only [if_true, Option.bind_some, oc_inl, Bool.not_true, Bool.false_eq_true, if_false]
          cases h5 : s.sills.all (fun x => hgt x.h) with
          | false => simp
          | true =>
            simp only [if_true, Option.bind_some, oc_inl, Bool.not_true, Bool.false_eq_true, if_false]
            rcases check_L3 h with h6 | h6
            · rw [h6]
              unfold ordered
              cases h7 : (List.range (s.table.length - 1)).all (fun i => decide ((s.table.getD i default).min < (s.table.getD (i + 1) default).min)) with
              | false => simp
              | true =>
                simp only [if_true, Option.bind_some, oc_inl, Bool.true_and]
                by_cases h8 : s.wind.hi < s.wind.lo
                · have h9 : decide (s.wind.lo ≤ s.wind.hi) = false := decide_eq_false (by omega)
                  rw [if_pos h8]; simp [h9]
                · have h9 : decide (s.wind.lo ≤ s.wind.hi) = true := decide_eq_true (by omega)
                  rw [if_neg h8, h9]
                  simp only [Bool.not_true, Bool.false_eq_true, if_false]
                  rw [check_L4 h, check_L5 h]
                  have hend : (fun x : Sill => isEnd s x.a && isEnd s x.b) = (fun x : Sill => inr x.a (-1) ((s.floors.length : Int) - 1) && inr x.b (-1) ((s.floors.length : Int) - 1)) := by
                    funext x
                    rcases isEnd_inr (s := s) (p := x.a) with e1 | e1
                    · rcases isEnd_inr (s := s) (p := x.b) with e2 | e2
                      · rw [e1, e2]
                      · omega
                    · omega
                  rw [hend]
                  cases s.sills.all (fun x : Sill => inr x.a (-1) ((s.floors.length : Int) - 1) && inr x.b (-1) ((s.floors.length : Int) - 1)) with
                  | false => simp
                  | true =>
                    cases s.sills.all (fun x => !decide (x.a = x.b)) <;> simp
            · omega
end Go.Proofs.Wk

namespace Go.Proofs.Wk
open Go Go.Gx Go.Pl
set_option linter.unusedVariables false
theorem Good.short {s : Sands} (h : Good s) : Short s := ⟨by have := h.tl; omega, by have := h.fl; omega, by have := h.sl; omega⟩
theorem reffirst_eq {s : Sands} (h : 0 < s.table.length) : m_laurelref01_First s = some (firstM s) := by
  unfold m_laurelref01_First
  rw [show (0 : Int) = ((0 : Nat) : Int) from rfl, ix_nat default h]
  rfl
theorem reflast_eq {s : Sands} (hs : Short s) (h : 0 < s.table.length) : m_laurelref01_Last s = some (lastM s) := by
  have h1 := hs.t
  unfold m_laurelref01_Last
  rw [subc_eq (by omega), Option.bind_some, show (s.table.length : Int) - 1 = ((s.table.length - 1 : Nat) : Int) by omega, ix_nat default (by omega)]
  rfl
theorem minute_eq {s : Sands} (hs : Short s) (h : 0 < s.table.length) {m : Int} : m_laurelref01_Minute s m = some (if dayF s m = true then 0 else 3) := by
  unfold m_laurelref01_Minute
  rw [reffirst_eq h, reflast_eq hs h]
  simp only [Option.bind_some, off_eq]
  have : dayF s m = inr m (firstM s) (lastM s) := rfl
  rw [this]
  cases inr m (firstM s) (lastM s) <;> rfl
/-- the line, rounded down -/
theorem line_floor {a b : Water} {m : Int} (hab : a.min < m ∧ m < b.min) (ha : 0 ≤ a.h ∧ a.h ≤ 999) (hb : 0 ≤ b.h ∧ b.h ≤ 999) : lineAt a b m = a.h + (b.h - a.h) * (m - a.min) / (b.min - a.min) := by
  unfold lineAt
  have hn : 0 < b.min - a.min := by omega
  have h1 : (-999) * (m - a.min) ≤ (b.h - a.h) * (m - a.min) := Int.mul_le_mul_of_nonneg_right (by omega) (by omega)
  have h2 : 0 ≤ a.h * (b.min - a.min) := Int.mul_nonneg ha.1 (by omega)
  rw [Int.tdiv_eq_ediv_of_nonneg (by omega)]
  have h3 : a.h * (b.min - a.min) + (b.h - a.h) * (m - a.min) + 1000 * (b.min - a.min) = (b.h - a.h) * (m - a.min) + (a.h + 1000) * (b.min - a.min) := by
    rw [Int.add_mul]; omega
  rw [h3, Int.add_mul_ediv_right _ _ (by omega)]
  omega
theorem refheight_L2 {a b : Water} {m : Int} (hab : a.min < m ∧ m < b.min) (hm : 0 ≤ a.min ∧ b.min ≤ 1440) (ha : 0 ≤ a.h ∧ a.h ≤ 999) (hb : 0 ≤ b.h ∧ b.h ≤ 999) : iterM FU (m_laurelref01_Height_L2 ⟨a, b⟩ m) (min a.h b.h) = some (lineAt a b m) := by
  have hl := line_tight hab ha hb
  have hf := line_floor hab ha hb
  generalize hN : b.min - a.min = N at *
  generalize hT : m - a.min = t at *
  have ht : 0 < t ∧ t < N := by omega
  have hNN : N ≤ 1440 := by omega
  have hr1 : (b.h - a.h) * t ≤ 999 * 1440 := Int.le_trans (Int.mul_le_mul_of_nonneg_right (show b.h - a.h ≤ 999 by omega) (by omega)) (Int.mul_le_mul_of_nonneg_left (by omega) (by omega))
  have hr2 : -(999 * 1440) ≤ (b.h - a.h) * t := by
    have h1 : (-999) * t ≤ (b.h - a.h) * t := Int.mul_le_mul_of_nonneg_right (by omega) (by omega)
    omega
  generalize hr : (b.h - a.h) * t = r at *
  have hd := Int.mul_ediv_add_emod r N
  have hd1 := Int.emod_nonneg r (show N ≠ 0 by omega)
  have hd2 := Int.emod_lt_of_pos r (show 0 < N by omega)
  obtain ⟨o, h1, h2⟩ := iterM_inv (f := m_laurelref01_Height_L2 ⟨a, b⟩ m) (fun n => 0 ≤ n ∧ n ≤ 999 ∧ (n - a.h) * N ≤ r) (fun n => (1000 - n).toNat) (fun o => o = lineAt a b m) (fun n hn => by
    obtain ⟨hn0, hn1, hn2⟩ := hn
    have hb1 : (n + 1 - a.h) * N ≤ 1000 * 1440 := Int.le_trans (Int.mul_le_mul_of_nonneg_right (show n + 1 - a.h ≤ 1000 by omega) (by omega)) (Int.mul_le_mul_of_nonneg_left (by omega) (by omega))
    have hb2 : (-1000) * 1440 ≤ (n + 1 - a.h) * N := by
      have h1 : (-1000) * N ≤ (n + 1 - a.h) * N := Int.mul_le_mul_of_nonneg_right (by omega) (by omega)
      omega
    have e1 : addc n 1 = some (n + 1) := addc_eq (by omega)
    have e2 : subc (n + 1) a.h = some (n + 1 - a.h) := subc_eq (by omega)
    have e3 : subc b.min a.min = some N := by rw [subc_eq (by omega), hN]
    have e4 : mulc (n + 1 - a.h) N = some ((n + 1 - a.h) * N) := mulc_eq (by omega)
    have e5 : subc b.h a.h = some (b.h - a.h) := subc_eq (by omega)
    have e6 : subc m a.min = some t := by rw [subc_eq (by omega), hT]
    have e7 : mulc (b.h - a.h) t = some r := by rw [mulc_eq (by rw [hr]; omega), hr]
    unfold m_laurelref01_Height_L2
    simp only [e1, e2, e3, e4, e5, e6, e7, Option.bind_some]
    by_cases hc : (n + 1 - a.h) * N ≤ r
    · left
      rw [if_pos hc]
      refine ⟨n + 1, rfl, ⟨by omega, ?_, hc⟩, by omega⟩
      -- n + 1 is not above the line
      have h3 : n + 1 - a.h ≤ r / N := (Int.le_ediv_iff_mul_le (by omega)).2 hc
      omega
    · right
      rw [if_neg hc]
      refine ⟨n, rfl, ?_⟩
      have h3 : n - a.h ≤ r / N := (Int.le_ediv_iff_mul_le (by omega)).2 hn2
      have h4 : r / N < n + 1 - a.h := (Int.ediv_lt_iff_lt_mul (by omega)).2 (by omega)
      omega) FU (min a.h b.h) (FU_lt (by omega)) ⟨by omega, by omega, by
        by_cases hab2 : a.h ≤ b.h
        · rw [Int.min_eq_left hab2]
          have : 0 ≤ (b.h - a.h) * t := Int.mul_nonneg (by omega) (by omega)
          rw [show a.h - a.h = 0 by omega, Int.zero_mul]
          omega
        · rw [Int.min_eq_right (by omega)]
          have h5 : (a.h - b.h) * t ≤ (a.h - b.h) * N := Int.mul_le_mul_of_nonneg_left (by omega) (by omega)
          have h6 : (b.h - a.h) * t = -((a.h - b.h) * t) := by rw [← Int.neg_mul]; congr 1; omega
          have h7 : (b.h - a.h) * N = -((a.h - b.h) * N) := by rw [← Int.neg_mul]; congr 1; omega
          omega⟩
  rw [h1, h2]
theorem refheight_eq {s : Sands} (hG : Good s) {m : Int} (hd : dayF s m = true) : m_laurelref01_Height s m = some (heightF s m) := by
  have hs := Good.short hG
  have h1 := hs.t
  have htl := hG.tl
  obtain ⟨j, ej, hj, hm, hl, hj0⟩ := day_idx hG hd
  have mono := fun {i k : Nat} (hik : i < k) (hk : k < s.table.length) => min_mono hG hik hk
  unfold m_laurelref01_Height
  have hL0 := iterM_any (f := m_laurelref01_Height_L0 s m) 0 s.table.length (fun k => decide ((s.table.getD k default).min = m)) (fun k => (s.table.getD k default).h) (fun k hk => by
    unfold m_laurelref01_Height_L0
    rw [Int.zero_add, if_pos (by omega), ix_nat default hk]
    simp only [Option.bind_some]
    rw [addc_eq (by omega)]
    simp only [Option.bind_some]
    rw [ite_dec]) (by unfold m_laurelref01_Height_L0; rw [if_neg (by omega)]) (N := FU) (FU_lt (by omega))
  rw [hL0]
  by_cases he : (s.table.getD j default).min = m
  · -- a minute of the table
    have hf : (List.range s.table.length).find? (fun k => decide ((s.table.getD k default).min = m)) = some j := by
      rw [List.find?_range_eq_some]
      refine ⟨by simpa using he, by simpa using hj, fun i hi => ?_⟩
      have := hl i hi
      simp only [Bool.not_eq_true', decide_eq_false_iff_not]
      omega
    rw [hf]
    simp only [Option.bind_some, oc_inr]
    rw [height_eq hj hl he]
  · have hj1 : j ≠ 0 := fun h => he (hj0 h)
    have hf : (List.range s.table.length).find? (fun k => decide ((s.table.getD k default).min = m)) = none := by
      rw [List.find?_eq_none]
      intro k hk
      have hk' : k < s.table.length := by simpa using hk
      simp only [decide_eq_true_eq]
      by_cases hkj : k < j
      · have := hl k hkj; omega
      · by_cases hkj2 : k = j
        · subst hkj2; exact he
        · have := mono (show j < k by omega) hk'; omega
    rw [hf]
    simp only [Option.bind_some, oc_inl]
    have h2 := hl (j - 1) (by omega)
    have ha := hG.tab (j - 1) (by omega)
    have hb := hG.tab j hj
    have hL1 : iterM FU (m_laurelref01_Height_L1 s m) 0 = some ((j - 1 : Nat) : Int) := by
      refine iterM_run (fun k => (k : Int)) (j - 1) (fun k hk => ?_) ?_ FU (FU_lt (by omega))
      · unfold m_laurelref01_Height_L1
        rw [addc_eq (by omega), Option.bind_some, show (k : Int) + 1 = ((k + 1 : Nat) : Int) by omega, ix_nat default (by omega), Option.bind_some, if_pos (hl (k + 1) (by omega)), Option.bind_some]
      · unfold m_laurelref01_Height_L1
        rw [addc_eq (by omega), Option.bind_some, show ((j - 1 : Nat) : Int) + 1 = ((j : Nat) : Int) by omega, ix_nat default hj, Option.bind_some, if_neg (by omega)]
    rw [hL1]
    simp only [Option.bind_some]
    rw [ix_nat default (by omega), addc_eq (by omega)]
    simp only [Option.bind_some]
    rw [show ((j - 1 : Nat) : Int) + 1 = ((j : Nat) : Int) by omega, ix_nat default hj]
    simp only [Option.bind_some]
    rw [refheight_L2 ⟨h2, by omega⟩ ⟨by omega, by omega⟩ ha.2 hb.2, height_line hG hj hl (by omega) hj1]
    rfl
theorem x_Check_eq {s : Sands} (hs : Short s) : x_Check s = some (check s) := by
  have h1 := hs.t
  have h2 := hs.f
  have h3 := hs.s
  unfold x_Check
  rw [if_pos ⟨by omega, by omega, by omega⟩]
theorem x_Height_eq {s : Sands} {m : Int} (hs : Short s) : x_Height s m = some (HeightR s m) := by
  have h1 := hs.t
  have h2 := hs.f
  have h3 := hs.s
  unfold x_Height
  rw [if_pos ⟨by omega, by omega, by omega⟩]
theorem x_Level_eq {s : Sands} {m : Int} (hs : Short s) : x_Level s m = some (LevelR s m) := by
  have h1 := hs.t
  have h2 := hs.f
  have h3 := hs.s
  unfold x_Level
  rw [if_pos ⟨by omega, by omega, by omega⟩]
theorem x_awake_eq : x_awake = some true := rfl

end Go.Proofs.Wk

namespace Go.Proofs.Wk
open Go Go.Gx Go.Pl
set_option linter.unusedVariables false
/-! ### sands that pass -/
theorem check_of_good {s : Sands} (h : Good s) : check s = 0 := by
  have h1 := h.tl
  have h2 := h.fl
  have h3 := h.sl
  have e1 : inr s.table.length 2 12 = true := inr_iff.2 (by omega)
  have e2 : inr s.floors.length 1 8 = true := inr_iff.2 (by omega)
  have e3 : decide (16 < (s.sills.length : Int)) = false := by simp; omega
  have e4 : s.table.all bigW = true := all_of_getD (d := default) (fun j hj => by
    have := h.tab j hj
    simp only [bigW, Bool.and_eq_true, inr_iff]; omega)
  have e5 : inr s.wind.lo (-50) 50 = true := inr_iff.2 (by have := h.lo; omega)
  have e6 : inr s.wind.hi (-50) 50 = true := inr_iff.2 (by have := h.hi; omega)
  have e7 : s.floors.all hgt = true := all_of_getD (d := 0) (fun j hj => by
    have := h.flo j hj
    rw [hgt_iff]; omega)
  have e8 : s.sills.all (fun x => hgt x.h) = true := all_of_getD (d := default) (fun j hj => by
    have := h.sh j hj
    rw [hgt_iff]; omega)
  have e9 : ordered s = true := by
    rw [ordered_true h.inc]
    simp [h.wind]
  have e10 : s.sills.all (fun x => isEnd s x.a && isEnd s x.b) = true := all_of_getD (d := default) (fun j hj => by
    have ha := h.sa j hj
    have hb := h.sb j hj
    simp only [Bool.and_eq_true, isEnd_iff]
    omega)
  have e11 : s.sills.all (fun x => !decide (x.a = x.b)) = true := all_of_getD (d := default) (fun j hj => by
    have := h.ne j hj
    simpa using this)
  unfold check
  rw [e1, e2, e3, e4, e5, e6, e7, e8, e9, e10, e11]
  rfl
/-- the gates hang on floors and sills alone -/
theorem fix_fs {s t : Sands} (hf : s.floors = t.floors) (hs : s.sills = t.sills) : ∀ (k : Nat) (g : List Int), fixF s k g = fixF t k g
  | 0, _ => rfl
  | k + 1, g => by
    have e : roundF s g = roundF t g := by
      cases s; cases t; simp only at hf hs; subst hf hs; rfl
    unfold fixF
    rw [e, fix_fs hf hs k]
theorem gates_fs {s t : Sands} (hf : s.floors = t.floors) (hs : s.sills = t.sills) : gatesOf s = gatesOf t := fix_fs hf hs 8001 _
/-! ### what the line is -/
theorem line_eq {s : Sands} (hG : Good s) {m : Int} (hd : dayF s m = true) : m_laurellaw01_line s m = some (heightF s m) := by
  have htl := hG.tl
  obtain ⟨j, ej, hj, hm, hl, hj0⟩ := day_idx hG hd
  have hds : 0 ≤ m ∧ m ≤ 1440 := by
    have h1 := day_span hG
    have h2 := (inr_iff.1 hd)
    omega
  unfold m_laurellaw01_line
  have key : iterM FU (m_laurellaw01_line_L0 s m) 0 = some (.inr (heightF s m)) := by
    refine iterM_run (fun k => (k : Int)) j (fun k hk => ?_) ?_ FU (FU_lt (by omega))
    · have h1 := hl k hk
      unfold m_laurellaw01_line_L0
      rw [if_pos (by omega), ix_nat default (by omega)]
      simp only [Option.bind_some]
      rw [if_neg (by omega), if_neg (by omega), addc_eq (by omega)]
      simp only [Option.bind_some]
      rw [show ((k + 1 : Nat) : Int) = (k : Int) + 1 by omega]
    · unfold m_laurellaw01_line_L0
      rw [if_pos (by omega), ix_nat default hj]
      simp only [Option.bind_some]
      by_cases he : (s.table.getD j default).min = m
      · rw [if_pos he, height_eq hj hl he]
      · have hj1 : j ≠ 0 := fun h => he (hj0 h)
        have h2 := hl (j - 1) (by omega)
        have ha := hG.tab (j - 1) (by omega)
        have hb := hG.tab j hj
        rw [if_neg he, if_pos (by omega), subc_eq (by omega)]
        simp only [Option.bind_some]
        rw [show ((j : Nat) : Int) - 1 = ((j - 1 : Nat) : Int) by omega, ix_nat default (by omega)]
        simp only [Option.bind_some]
        have hlt := line_tight ⟨h2, show m < (s.table.getD j default).min by omega⟩ ha.2 hb.2
        rw [height_line hG hj hl (by omega) hj1]
        unfold lineAt at hlt ⊢
        generalize s.table.getD (j - 1) default = v at *
        generalize s.table.getD j default = u at *
        have e37 : subc u.min v.min = some (u.min - v.min) := subc_eq (by omega)
        have e46 : subc u.h v.h = some (u.h - v.h) := subc_eq (by omega)
        have e50 : subc m v.min = some (m - v.min) := subc_eq (by omega)
        simp only [e37, e46, e50, Option.bind_some]
        generalize hN : u.min - v.min = N at *
        generalize hT : m - v.min = t at *
        have hNN : 0 < N ∧ N ≤ 1440 := by omega
        have htt : 0 ≤ t ∧ t ≤ 1440 := by omega
        have b1 : 0 ≤ v.h * N := Int.mul_nonneg (by omega) (by omega)
        have b2 : v.h * N ≤ 999 * 1440 := Int.le_trans (Int.mul_le_mul_of_nonneg_right (show v.h ≤ 999 by omega) (by omega)) (Int.mul_le_mul_of_nonneg_left (by omega) (by omega))
        have b3 : (u.h - v.h) * t ≤ 999 * 1440 := Int.le_trans (Int.mul_le_mul_of_nonneg_right (show u.h - v.h ≤ 999 by omega) (by omega)) (Int.mul_le_mul_of_nonneg_left (by omega) (by omega))
        have b4 : -(999 * 1440) ≤ (u.h - v.h) * t := by
          have h1 : (-999) * t ≤ (u.h - v.h) * t := Int.mul_le_mul_of_nonneg_right (by omega) (by omega)
          omega
        have e41 : mulc v.h N = some (v.h * N) := mulc_eq (by omega)
        have e51 : mulc (u.h - v.h) t = some ((u.h - v.h) * t) := mulc_eq (by omega)
        have e52 : addc (v.h * N) ((u.h - v.h) * t) = some (v.h * N + (u.h - v.h) * t) := addc_eq (by omega)
        have e54 : mulc 1000 N = some (1000 * N) := mulc_eq (by omega)
        have e55 : addc (v.h * N + (u.h - v.h) * t) (1000 * N) = some (v.h * N + (u.h - v.h) * t + 1000 * N) := addc_eq (by omega)
        have e57 : quoc (v.h * N + (u.h - v.h) * t + 1000 * N) N = some ((v.h * N + (u.h - v.h) * t + 1000 * N).tdiv N) := quoc_eq (by omega) (by omega)
        have e58 : subc ((v.h * N + (u.h - v.h) * t + 1000 * N).tdiv N) 1000 = some ((v.h * N + (u.h - v.h) * t + 1000 * N).tdiv N - 1000) := subc_eq (by omega)
        simp only [e41, e51, e52, e54, e55, e57, e58, Option.bind_some]
  rw [key]
  rfl
theorem lawfirst_eq {s : Sands} (h : 0 < s.table.length) : m_laurellaw01_first s = some (firstM s) := reffirst_eq h
theorem lawlast_eq {s : Sands} (hs : Short s) (h : 0 < s.table.length) : m_laurellaw01_last s = some (lastM s) := reflast_eq hs h
theorem equal_state (a : List Int) (ha : a.length ≤ 1000) : m_laurelkit_Eq_tideState a a = some true := by
  unfold m_laurelkit_Eq_tideState m_slices_Equal_tideStatetideState
  rw [if_pos rfl, iterM_any0 a.length (fun _ => false) false (fun k hk => ?_) (by unfold m_slices_Equal_tideStatetideState_L0; simp) (FU_lt (by omega))]
  · simp
  · unfold m_slices_Equal_tideStatetideState_L0
    rw [if_pos (by omega), ix_nat default hk, Option.bind_some, Option.bind_some, if_pos rfl, addc_eq (by omega)]
    simp
theorem x_All_eq {s : Sands} {m : Int} (hs : Short s) : x_All s m = some (AllR s m) := by
  have h1 := hs.t
  have h2 := hs.f
  have h3 := hs.s
  unfold x_All
  rw [if_pos ⟨by omega, by omega, by omega⟩]
theorem x_Turn_eq {s : Sands} {p m : Int} (hs : Short s) : x_Turn s p m = some (TurnR s p m) := by
  have h1 := hs.t
  have h2 := hs.f
  have h3 := hs.s
  unfold x_Turn
  rw [if_pos ⟨by omega, by omega, by omega⟩]
theorem x_At_eq {s : Sands} {m p : Int} (hs : Short s) : x_At s m p = some (AtR s m p) := by
  have h1 := hs.t
  have h2 := hs.f
  have h3 := hs.s
  unfold x_At
  rw [if_pos ⟨by omega, by omega, by omega⟩]
theorem x_Gate_eq {s : Sands} {p : Int} (hs : Short s) : x_Gate s p = some (GateR s p) := by
  have h1 := hs.t
  have h2 := hs.f
  have h3 := hs.s
  unfold x_Gate
  rw [if_pos ⟨by omega, by omega, by omega⟩]
theorem MadeOK.good {pl sl : Int} {s : Sands} (h : MadeOK pl sl s) (hp : pl ≤ 8) (hs : sl ≤ 16) : Good s := good_of_check (h.check hp hs)
/-- a minute of the day, out of any number -/
theorem minute_in {s : Sands} (hG : Good s) {k : Int} (hk : 0 ≤ k ∧ k ≤ 255) :
    ∃ t, remc (IntKind.i64.wrap k) (lastM s - firstM s + 1) = some t ∧ firstM s ≤ firstM s + t ∧ firstM s + t ≤ lastM s ∧ 0 ≤ t := by
  have hds := day_span hG
  rw [Go.Fw.wrap_i64 (by omega), remc_eq (by omega)]
  have h1 := Int.tmod_nonneg (lastM s - firstM s + 1) (show (0 : Int) ≤ k by omega)
  have h2 := Int.tmod_lt_of_pos k (show 0 < lastM s - firstM s + 1 by omega)
  exact ⟨_, rfl, by omega, by omega, h1⟩
theorem place_in {s : Sands} (hG : Good s) {k : Int} (hk : 0 ≤ k ∧ k ≤ 255) : ∃ t, remc (IntKind.i64.wrap k) (s.floors.length : Int) = some t ∧ 0 ≤ t ∧ t < s.floors.length := by
  have hfl := hG.fl
  rw [Go.Fw.wrap_i64 (by omega), remc_eq (by omega)]
  have h1 := Int.tmod_nonneg (s.floors.length : Int) (show (0 : Int) ≤ k by omega)
  have h2 := Int.tmod_lt_of_pos k (show 0 < (s.floors.length : Int) by omega)
  exact ⟨_, rfl, h1, h2⟩
end Go.Proofs.Wk

namespace Go.Proofs.Wk
open Go Go.Gx Go.Pl
set_option linter.unusedVariables false
/-! ### runs of minutes -/
/-- the runs told so far, and the open one -/
structure SI (p : Int → Bool) (a : Int) (k : Nat) (x : SpanSt) : Prop where
  acc : ∀ y, y ∈ x.acc → a ≤ y.lo ∧ y.lo ≤ y.hi ∧ y.hi + 1 < a + k ∧ (∀ m, y.lo ≤ m → m ≤ y.hi → p m = true) ∧ p (y.hi + 1) = false ∧ (y.lo = a ∨ p (y.lo - 1) = false)
  op : x.op = true → a ≤ x.fr ∧ x.fr < a + k ∧ (∀ m, x.fr ≤ m → m < a + k → p m = true) ∧ (x.fr = a ∨ p (x.fr - 1) = false)
  cov : ∀ m, a ≤ m → m < a + k → p m = true → (∃ y, y ∈ x.acc ∧ y.lo ≤ m ∧ m ≤ y.hi) ∨ (x.op = true ∧ x.fr ≤ m)
  shut : x.op = false → k = 0 ∨ p (a + k - 1) = false
theorem si_n {p : Int → Bool} {a : Int} : ∀ k, SI p a k (spansN p a k)
  | 0 => ⟨fun y hy => by simp [spansN] at hy, fun h => by simp [spansN] at h, fun m h1 h2 => by omega, fun _ => .inl rfl⟩
  | k + 1 => by
    have ih := si_n (p := p) (a := a) k
    rw [spansN_succ]
    generalize hx : spansN p a k = x at ih
    unfold spanStep
    cases hp : p (a + k) with
    | true =>
      cases ho : x.op with
      | false =>
        refine ⟨fun y hy => ?_, fun _ => ?_, fun m h1 h2 h3 => ?_, fun h => by simp at h⟩
        · have := ih.acc y hy; exact ⟨this.1, this.2.1, by omega, this.2.2.2⟩
        · refine ⟨by simp only; omega, by simp only; omega, fun m h1 h2 => ?_, ?_⟩
          · have : m = a + k := by simp only at h1; omega
            rw [this, hp]
          · rcases ih.shut ho with h | h
            · subst h; simp
            · right; exact h
        · by_cases hm : m < a + k
          · rcases ih.cov m h1 hm h3 with h | h
            · exact .inl h
            · rw [ho] at h; exact absurd h.1 (by decide)
          · exact .inr ⟨rfl, by simp only; omega⟩
      | true =>
        refine ⟨fun y hy => ?_, fun _ => ?_, fun m h1 h2 h3 => ?_, fun h => by simp only at h; rw [ho] at h; simp at h⟩
        · have := ih.acc y hy; exact ⟨this.1, this.2.1, by omega, this.2.2.2⟩
        · have := ih.op ho
          refine ⟨this.1, by have := this.2.1; simp only; omega, fun m h1 h2 => ?_, this.2.2.2⟩
          by_cases hm : m < a + k
          · exact this.2.2.1 m h1 hm
          · have : m = a + k := by omega
            rw [this, hp]
        · by_cases hm : m < a + k
          · exact ih.cov m h1 hm h3
          · exact .inr ⟨ho, by have := (ih.op ho).2.1; simp only; omega⟩
    | false =>
      unfold shutF
      cases ho : x.op with
      | false =>
        refine ⟨fun y hy => ?_, fun h => by simp at h, fun m h1 h2 h3 => ?_, fun _ => .inr (by rw [← hp]; congr 1; omega)⟩
        · have := ih.acc y hy; exact ⟨this.1, this.2.1, by omega, this.2.2.2⟩
        · by_cases hm : m < a + k
          · rcases ih.cov m h1 hm h3 with h | h
            · exact .inl h
            · rw [ho] at h; exact absurd h.1 (by decide)
          · have : m = a + k := by omega
            rw [this, hp] at h3; exact absurd h3 (by decide)
      | true =>
        have hop := ih.op ho
        refine ⟨fun y hy => ?_, fun h => by simp at h, fun m h1 h2 h3 => ?_, fun _ => .inr (by rw [← hp]; congr 1; omega)⟩
        · simp only [List.mem_append, List.mem_singleton] at hy
          rcases hy with hy | rfl
          · have := ih.acc y hy; exact ⟨this.1, this.2.1, by omega, this.2.2.2⟩
          · refine ⟨hop.1, by have := hop.2.1; simp only; omega, by simp only; omega, fun m h1 h2 => hop.2.2.1 m h1 (by simp only at h2; omega), ?_, hop.2.2.2⟩
            simp only
            rw [← hp]; congr 1; omega
        · by_cases hm : m < a + k
          · rcases ih.cov m h1 hm h3 with ⟨y, hy, h⟩ | h
            · exact .inl ⟨y, List.mem_append_left _ hy, h⟩
            · exact .inl ⟨_, List.mem_append_right _ List.mem_cons_self, h.2, by simp only; omega⟩
          · have : m = a + k := by omega
            rw [this, hp] at h3; exact absurd h3 (by decide)
/-- the runs of a day are the longest ones, and all of them -/
theorem spans_runs {s : Sands} (hG : Good s) {p : Int → Bool} :
    (∀ y, y ∈ spansF s p → firstM s ≤ y.lo ∧ y.lo ≤ y.hi ∧ y.hi ≤ lastM s ∧ (∀ m, y.lo ≤ m → m ≤ y.hi → p m = true) ∧ (y.hi = lastM s ∨ p (y.hi + 1) = false) ∧ (y.lo = firstM s ∨ p (y.lo - 1) = false)) ∧
    ∀ m, dayF s m = true → p m = true → ∃ y, y ∈ spansF s p ∧ y.lo ≤ m ∧ m ≤ y.hi := by
  have hds := day_span hG
  have hn : ((dayN s : Nat) : Int) = lastM s - firstM s + 1 := by unfold dayN; omega
  have ih := si_n (p := p) (a := firstM s) (dayN s)
  unfold spansF
  generalize spansN p (firstM s) (dayN s) = x at ih
  have key : ∀ y, y ∈ x.acc → firstM s ≤ y.lo ∧ y.lo ≤ y.hi ∧ y.hi ≤ lastM s ∧ (∀ m, y.lo ≤ m → m ≤ y.hi → p m = true) ∧ (y.hi = lastM s ∨ p (y.hi + 1) = false) ∧ (y.lo = firstM s ∨ p (y.lo - 1) = false) := fun y hy => by
    obtain ⟨h1, h2, h3, h4, h5, h6⟩ := ih.acc y hy
    exact ⟨h1, h2, by omega, h4, .inr h5, h6⟩
  unfold shutF
  cases ho : x.op with
  | false =>
    refine ⟨key, fun m hd hp => ?_⟩
    simp only [dayF, inr_iff] at hd
    rcases ih.cov m hd.1 (by omega) hp with h | h
    · exact h
    · rw [ho] at h; exact absurd h.1 (by decide)
  | true =>
    have hop := ih.op ho
    refine ⟨fun y hy => ?_, fun m hd hp => ?_⟩
    · simp only [List.mem_append, List.mem_singleton] at hy
      rcases hy with hy | rfl
      · exact key y hy
      · exact ⟨hop.1, by simp only; omega, by simp only; omega, fun m h1 h2 => hop.2.2.1 m h1 (by simp only at h2; omega), .inl (by simp only; omega), hop.2.2.2⟩
    · simp only [dayF, inr_iff] at hd
      rcases ih.cov m hd.1 (by omega) hp with ⟨y, hy, h⟩ | h
      · exact ⟨y, List.mem_append_left _ hy, h⟩
      · exact ⟨_, List.mem_append_right _ List.mem_cons_self, h.2, by simp only; omega⟩
theorem idxf_holds {α : Type} {p : α → Bool} {l : List α} {d : α} (h : 0 ≤ idxf p l) : p (l.getD (idxf p l).toNat d) = true := by
  unfold idxf at h ⊢
  cases hf : l.findIdx? p with
  | none => rw [hf] at h; exact absurd h (by decide)
  | some i =>
    rw [List.findIdx?_eq_some_iff_getElem] at hf
    obtain ⟨h1, h2, _⟩ := hf
    simpa [List.getD_eq_getElem?_getD, h1] using h2
/-- until when one may stay -/
theorem turn_spec {s : Sands} (hG : Good s) {p m : Int} (hp : isPlace s p = true) (hd : dayF s m = true) (h0 : stateF s m p = 0) :
    ∃ T, TurnR s p m = (T, 0) ∧ m ≤ T ∧ T ≤ lastM s ∧ (∀ k, m ≤ k → k ≤ T → stateF s k p = 0) ∧ (T = lastM s ∨ stateF s (T + 1) p ≠ 0) := by
  obtain ⟨hr, hc⟩ := spans_runs hG (p := isState s p 0)
  obtain ⟨y, hy, hy1, hy2⟩ := hc m hd (by simp [isState, h0])
  have hE : spansE s p 0 = 0 := by
    unfold spansE
    rw [check_of_good hG, hp]
    rfl
  have hi : 0 ≤ idxf (fun x : Span => inr m x.lo x.hi) (spansF s (isState s p 0)) := by
    have := idxf_nonneg (p := fun x : Span => inr m x.lo x.hi) (l := spansF s (isState s p 0))
    have ha : (spansF s (isState s p 0)).any (fun x : Span => inr m x.lo x.hi) = true := List.any_eq_true.2 ⟨y, hy, inr_iff.2 ⟨hy1, hy2⟩⟩
    rw [ha] at this
    exact of_decide_eq_true this
  have hrg := idxf_range (p := fun x : Span => inr m x.lo x.hi) (l := spansF s (isState s p 0))
  unfold TurnR
  rw [hE, hd, if_neg (by simp), if_neg (by simp), if_neg (by omega)]
  have hin := idxf_holds (d := default) (p := fun x : Span => inr m x.lo x.hi) (l := spansF s (isState s p 0)) hi
  generalize idxf (fun x : Span => inr m x.lo x.hi) (spansF s (isState s p 0)) = i at hi hrg hin
  have hm := mem_getD (d := (default : Span)) (l := spansF s (isState s p 0)) (j := i.toNat) (by omega)
  obtain ⟨_, _, h3, h4, h5, _⟩ := hr _ hm
  have hin2 := inr_iff.1 hin
  refine ⟨_, rfl, hin2.2, h3, fun k h1 h2 => ?_, ?_⟩
  · have := h4 k (by omega) h2
    exact of_decide_eq_true this
  · rcases h5 with h5 | h5
    · exact .inl h5
    · exact .inr (of_decide_eq_false h5)
/-! ### the table of ways is whole -/
def joins (x : Sill) (p q : Int) : Prop := x.a = p ∧ x.b = q ∨ x.b = p ∧ x.a = q
theorem hasKey_app {W r : List (Int × List Int)} {q : Int} (h : hasKey W q = true) : hasKey (W ++ r) q = true := by
  unfold hasKey at h ⊢
  rw [List.any_append, h]
  rfl
theorem tryAdd_has {may : Int → Int → Bool} {way : List Int} {W : List (Int × List Int)} {k : Nat} {q : Int} (hm : may k q = true) : hasKey (tryAdd may way W k q) q = true := by
  unfold tryAdd
  by_cases h : hasKey W q = true
  · rw [if_pos h]; exact h
  · rw [if_neg h, if_pos hm]
    unfold hasKey
    simp
theorem procN_has {s : Sands} {may : Int → Int → Bool} (hG : Good s) {W : List (Int × List Int)} {c : Nat} {q : Int} {k : Nat} (hk : k < s.sills.length) (hj : joins (s.sills.getD k default) (W.getD c default).1 q) (hm : may k q = true) : ∀ n, k < n → hasKey (procN s may W c n) q = true
  | 0, h => by omega
  | n + 1, h => by
    rw [procN_succ]
    by_cases hn : k < n
    · obtain ⟨r, hr⟩ := wStep_mono (may := may) (p := (W.getD c default).1) (way := (W.getD c default).2) (W := procN s may W c n) (k := n) (x := s.sills.getD n default)
      rw [hr]
      exact hasKey_app (procN_has hG hk hj hm n hn)
    · obtain rfl : k = n := by omega
      have hne := hG.ne k hk
      unfold wStep
      rcases hj with ⟨h1, h2⟩ | ⟨h1, h2⟩
      · rw [if_pos h1, h2]; exact tryAdd_has hm
      · rw [if_neg (by rw [← h1]; exact hne), if_pos h1, h2]; exact tryAdd_has hm
theorem ways_closed {s : Sands} {may : Int → Int → Bool} (hG : Good s) : ∀ (c j : Nat), j < c → j < (waysN s may c).length → ∀ k, k < s.sills.length → ∀ q, joins (s.sills.getD k default) ((waysN s may c).getD j default).1 q → may k q = true → hasKey (waysN s may c) q = true
  | 0, j, h, _, _, _, _, _, _ => by omega
  | c + 1, j, h, hl, k, hk, q, hj, hm => by
    have e : waysN s may (c + 1) = if c < (waysN s may c).length then procN s may (waysN s may c) c s.sills.length else waysN s may c := rfl
    by_cases hc : c < (waysN s may c).length
    · rw [e, if_pos hc] at hj hl ⊢
      obtain ⟨_, r, hr⟩ := procN_inv (may := may) hG (waysN_inv hG c) hc (Nat.le_refl _)
      by_cases hjc : j < c
      · have hg : (procN s may (waysN s may c) c s.sills.length).getD j default = (waysN s may c).getD j default := by
          rw [hr, List.getD_eq_getElem?_getD, List.getElem?_append_left (by omega), List.getD_eq_getElem?_getD]
        rw [hg] at hj
        rw [hr]
        exact hasKey_app (ways_closed hG c j hjc (by omega) k hk q hj hm)
      · obtain rfl : j = c := by omega
        have hg : (procN s may (waysN s may j) j s.sills.length).getD j default = (waysN s may j).getD j default := by
          rw [hr, List.getD_eq_getElem?_getD, List.getElem?_append_left (by omega), List.getD_eq_getElem?_getD]
        rw [hg] at hj
        exact procN_has hG hk hj hm _ hk
    · rw [e, if_neg hc] at hj hl ⊢
      exact ways_closed hG c j (by omega) hl k hk q hj hm
/-- who is in the table brings in whom he may -/
theorem waysF_closed {s : Sands} {may : Int → Int → Bool} (hG : Good s) {p q : Int} (hp : hasKey (waysF s may) p = true) {k : Nat} (hk : k < s.sills.length) (hj : joins (s.sills.getD k default) p q) (hm : may k q = true) : hasKey (waysF s may) q = true := by
  have hl := (waysN_inv (may := may) hG 9).len
  have hfl := hG.fl
  unfold waysF at hp ⊢
  have hp' := hasKey_iff.1 hp
  obtain ⟨e, he, rfl⟩ := List.mem_map.1 hp'
  obtain ⟨j, hj', rfl⟩ := List.mem_iff_getElem.1 he
  refine ways_closed hG 9 j (by omega) hj' k hk q ?_ hm
  have : (waysN s may 9).getD j default = (waysN s may 9)[j] := by simp [List.getD_eq_getElem?_getD, hj']
  rw [this]
  exact hj
theorem sea_in {s : Sands} {may : Int → Int → Bool} (hG : Good s) : hasKey (waysF s may) (-1) = true := by
  obtain ⟨r, hr⟩ := (waysN_inv (may := may) hG 9).sea
  unfold waysF
  rw [hr]
  simp [hasKey]
/-- what is in the table was allowed -/
theorem ways_keys {s : Sands} {may : Int → Int → Bool} {Q : Int → Prop} (hQ : ∀ k q, may k q = true → Q q) : ∀ c, ∀ e ∈ waysN s may c, e.1 = -1 ∨ Q e.1
  | 0, e, he => by simp [waysN] at he; subst he; exact .inl rfl
  | c + 1, e, he => by
    have ih := ways_keys (s := s) hQ c
    have e1 : waysN s may (c + 1) = if c < (waysN s may c).length then procN s may (waysN s may c) c s.sills.length else waysN s may c := rfl
    rw [e1] at he
    split at he
    · have key : ∀ n, ∀ e ∈ procN s may (waysN s may c) c n, e.1 = -1 ∨ Q e.1 := by
        intro n
        induction n with
        | zero => exact ih
        | succ n ihn =>
          have ht : ∀ q, ∀ e ∈ tryAdd may ((waysN s may c).getD c default).2 (procN s may (waysN s may c) c n) n q, e.1 = -1 ∨ Q e.1 := by
            intro q e he
            unfold tryAdd at he
            split at he
            · exact ihn e he
            · split at he
              · rename_i hm
                rcases List.mem_append.1 he with he | he
                · exact ihn e he
                · simp at he; subst he; exact .inr (hQ _ _ hm)
              · exact ihn e he
          intro e he
          rw [procN_succ] at he
          unfold wStep at he
          split at he
          · exact ht _ e he
          · split at he
            · exact ht _ e he
            · exact ihn e he
      exact key _ e he
    · exact ih e he
end Go.Proofs.Wk

namespace Go.Proofs.Wk
open Go Go.Gx Go.Pl
set_option linter.unusedVariables false
theorem pile_eq' (l : List Int) : m_laurelkit_Pile l = some ⟨0, 0⟩ := rfl
theorem x_Hold_eq {s : Sands} {p : Int} {a b : List Int} (hs : Short s) (ha : a.length ≤ 1000000) (hb : b.length ≤ 1000000) : x_Hold s p a b = some (HoldR s p a b) := by
  have h1 := hs.t
  have h2 := hs.f
  have h3 := hs.s
  unfold x_Hold
  rw [if_pos ⟨by omega, by omega, by omega, ha, hb⟩]
/-- one place's bank, held: what it comes to -/
theorem hold_one {s : Sands} (hG : Good s) {p q : Int} (hp : isPlace s p = true) (hq : isPlace s q = true) :
    HoldR s p [] [q] = if hasKey (waysF s (mayFree [] [q])) p = true then (0, 8) else (s.floors.getD q.toNat 0, 0) := by
  have hc := check_of_good hG
  have e1 : ([q] : List Int).all (isPlace s) = true := by simp [hq]
  have e2 : twiceF ([] : List Int) = false := rfl
  have e3 : twiceF [q] = false := by simp [twiceF, seenN]
  have hE : holdE s p [] [q] = if hasKey (waysF s (mayFree [] [q])) p = true then 8 else 0 := by
    unfold holdE
    rw [if_neg (by rw [hc]; decide), if_neg (by rw [hp, e1]; simp), e2, e3, if_neg (by simp)]
    by_cases h : hasKey (waysF s (mayFree [] [q])) p = true
    · rw [if_pos h, if_pos h]
    · rw [if_neg h, if_neg h]; rfl
  have hq2 := isPlace_iff.1 hq
  have hfl := hG.flo q.toNat (by omega)
  unfold HoldR
  rw [hE]
  by_cases h : hasKey (waysF s (mayFree [] [q])) p = true
  · rw [if_pos h, if_pos (by decide), if_pos h]
  · rw [if_neg h, if_neg (by decide), if_neg h]
    congr 1
    show min (holdS s []) (s.floors.getD q.toNat 0) = _
    unfold holdS
    simp only [List.foldl_nil]
    omega
/-- not in the table that leaves q out: whatever reaches there reaches q -/
theorem reach_over {s : Sands} (hG : Good s) {q : Int} {h r : Int} (hr : Go.Pl.Reach s h r) : hasKey (waysF s (mayFree [] [q])) r = true ∨ Go.Pl.Reach s h q := by
  induction hr with
  | sea => exact .inl (sea_in hG)
  | @step p0 q0 x hp hx hj hq h1 h2 ih =>
    rcases ih with ih | ih
    · by_cases he : q0 = q
      · subst he; exact .inr (.step hp hx hj hq h1 h2)
      · left
        obtain ⟨k, hk, rfl⟩ := List.mem_iff_getElem.1 hx
        have hg : s.sills.getD k default = s.sills[k] := by simp [List.getD_eq_getElem?_getD, hk]
        refine waysF_closed hG ih hk (by rw [hg]; exact hj) ?_
        simp [mayFree, hasI, he]
    · exact .inr ih
theorem own_out {s : Sands} {q : Int} (hq : q ≠ -1) : hasKey (waysF s (mayFree [] [q])) q ≠ true := by
  intro h
  obtain ⟨e, he, rfl⟩ := List.mem_map.1 (hasKey_iff.1 h)
  rcases ways_keys (s := s) (may := mayFree [] [e.1]) (Q := fun x => x ≠ e.1) (fun k x hm => by
    simp [mayFree, hasI] at hm
    exact hm) 9 e he with h1 | h1
  · exact hq h1
  · exact h1 rfl
theorem gateR_good {s : Sands} (hG : Good s) {p : Int} (hp : isPlace s p = true) : GateR s p = if (gatesOf s).getD p.toNat 0 = 1000 then (0, 6) else ((gatesOf s).getD p.toNat 0, 0) := by
  have hE : gatedE s p = if (gatesOf s).getD p.toNat 0 = 1000 then 6 else 0 := by
    unfold gatedE
    rw [check_of_good hG, hp]
    simp
  unfold GateR
  rw [hE]
  by_cases h : (gatesOf s).getD p.toNat 0 = 1000
  · rw [if_pos h, if_pos (by decide), if_pos h]
  · rw [if_neg h, if_neg (by decide), if_neg h]
theorem atR_good {s : Sands} (hG : Good s) {p m : Int} (hp : isPlace s p = true) (hd : dayF s m = true) : AtR s m p = (stateF s m p, 0) := by
  unfold AtR
  rw [check_of_good hG, hp, hd]
  simp
theorem state_gate {s : Sands} (hG : Good s) {a b m : Int} (hab : b ≤ a ∨ a = 1000) (ha : a ≤ 1000) : stateG s a m ≤ stateG s b m := by
  have hw := hG.wind
  unfold stateG
  have : (levelF s m).lo ≤ (levelF s m).hi := by simp only [levelF]; omega
  generalize levelF s m = l at this
  by_cases h1 : a = 1000 ∨ l.hi ≤ a
  · rw [if_pos h1]
    split
    · omega
    · split <;> omega
  · rw [if_neg h1, if_neg (show ¬ (b = 1000 ∨ l.hi ≤ b) by omega)]
    split
    · rw [if_pos (by omega)]; omega
    · split <;> omega
theorem state_nonneg {s : Sands} {m p : Int} : 0 ≤ stateF s m p := by
  unfold stateF stateG
  split
  · omega
  · split <;> omega
/-- TideBehind, of one pair of places -/
theorem behind_L1 {o : m_laurellaw01_Made_R} (hM : MadeOK 6 8 o.r0) {p q m : Int} (hp : isPlace o.r0 p = true) (hq : isPlace o.r0 q = true) (hm : dayF o.r0 m = true) :
    m_laurellaw01_TideBehind_L1 o p m q = some (.inl (q + 1)) := by
  unfold m_laurellaw01_TideBehind_L1
  have hG := MadeOK.good hM (by omega) (by omega)
  generalize o.r0 = s at hM hp hq hm hG
  have hS := Good.short hG
  have hp2 := isPlace_iff.1 hp
  have hq2 := isPlace_iff.1 hq
  have hfl := hG.fl
  have hadd : addc q 1 = some (q + 1) := addc_eq (by omega)
  have hgok := gates_ok (s := s)
  rw [if_pos hq2.2, x_Hold_eq hS (by simp) (by simp), hold_one hG hp hq]
  by_cases hk : hasKey (waysF s (mayFree [] [q])) p = true
  · have hne : p ≠ q := fun he => by
      subst he
      exact own_out (s := s) (q := p) (by omega) hk
    rw [if_pos hk, Option.bind_some, if_pos (show ((0 : Int), (8 : Int)).2 = 8 from rfl), Option.bind_some, if_pos (by simp [hne]), Option.bind_some]
    unfold oc
    simp only
    rw [hadd, Option.bind_some]
  · rw [if_neg hk, Option.bind_some, if_neg (show ¬ ((s.floors.getD q.toNat 0, (0 : Int)).2 = 8) from fun h => absurd (show (0 : Int) = 8 from h) (by decide)), Option.bind_some, if_neg (by decide), x_Gate_eq hS, x_Gate_eq hS, Option.bind_some, Option.bind_some,
      if_pos (show (s.floors.getD q.toNat 0, (0 : Int)).2 = 0 from rfl), ix_eq 0 hq2.1 hq2.2, Option.bind_some, if_pos (show (s.floors.getD q.toNat 0, (0 : Int)).1 = s.floors.getD q.toNat 0 from rfl), gateR_good hG hp, gateR_good hG hq]
    -- the gates
    have hg : (gatesOf s).getD p.toNat 0 = 1000 ∨ (gatesOf s).getD q.toNat 0 ≤ (gatesOf s).getD p.toNat 0 := by
      have h1 := hgok.hi p.toNat
      have h0 := hgok.lo p.toNat
      by_cases h : (gatesOf s).getD p.toNat 0 = 1000
      · exact .inl h
      · right
        have hr := gates_snd hG p.toNat (by omega) (by omega)
        rw [show ((p.toNat : Nat) : Int) = p by omega] at hr
        rcases reach_over hG (q := q) hr with hr | hr
        · exact absurd hr hk
        · rcases gates_le hG h0 hr with h2 | h2
          · omega
          · exact h2.2
    have hqi := hgok.hi q.toNat
    have hpi := hgok.hi p.toNat
    have hst : ∀ m, stateF s m q ≤ stateF s m p → True := fun _ _ => trivial
    have hmono : ∀ m, stateF s m p = 0 ∨ (gatesOf s).getD p.toNat 0 ≠ 1000 := fun m => by
      by_cases h : (gatesOf s).getD p.toNat 0 = 1000
      · left; unfold stateF stateG; rw [h]; simp
      · exact .inr h
    have hle : ∀ m, stateF s m p ≤ stateF s m q := fun m => state_gate hG (by omega) hpi
    have e1 : ∀ a b : Int × Int, (a.2 ≠ 0 ∨ (b.2 = 0 ∧ b.1 ≤ a.1)) → (if a.2 = 0 then (if b.2 = 0 then some (decide (a.1 < b.1)) else some true) else some false) = some false := by
      intro a b h
      rcases h with h | ⟨h1, h2⟩
      · rw [if_neg h]
      · by_cases ha : a.2 = 0
        · rw [if_pos ha, if_pos h1]
          simp only [Option.some.injEq, decide_eq_false_iff_not]
          omega
        · rw [if_neg ha]
    rw [e1 _ _ (by
      by_cases h : (gatesOf s).getD p.toNat 0 = 1000
      · rw [if_pos h]; left; show (6 : Int) ≠ 0; decide
      · rw [if_neg h, if_neg (by omega)]
        right; exact ⟨rfl, by show (gatesOf s).getD q.toNat 0 ≤ (gatesOf s).getD p.toNat 0; omega⟩), Option.bind_some, if_neg (by decide), x_At_eq hS, x_At_eq hS, atR_good hG hp hm, atR_good hG hq hm, Option.bind_some, Option.bind_some, if_pos rfl, if_pos rfl]
    have e2 : decide ((stateF s m q, (0 : Int)).1 < (stateF s m p, (0 : Int)).1) = false := by
      have := hle m
      simp only [decide_eq_false_iff_not]
      omega
    rw [e2, Option.bind_some, if_neg (by decide)]
    by_cases h0 : stateF s m q = 0
    · have h0p : stateF s m p = 0 := by
        have h1 := hle m
        have h2 := state_nonneg (s := s) (m := m) (p := p)
        omega
      obtain ⟨T, hT, hT1, hT2, hT3, hT4⟩ := turn_spec hG hp hm h0p
      obtain ⟨U, hU, hU1, hU2, hU3, hU4⟩ := turn_spec hG hq hm h0
      have hUT : U ≤ T := by
        refine Classical.byContradiction fun hc => ?_
        rcases hT4 with h | h
        · omega
        · have h1 := hU3 (T + 1) (by omega) (by omega)
          have h2 := hle (T + 1)
          have h3 := state_nonneg (s := s) (m := T + 1) (p := p)
          omega
      rw [if_pos h0, x_Turn_eq hS, x_Turn_eq hS, hT, hU, Option.bind_some, Option.bind_some, if_pos rfl, if_pos rfl]
      have e3 : decide ((T, (0 : Int)).1 < (U, (0 : Int)).1) = false := by
        simp only [decide_eq_false_iff_not]
        omega
      rw [e3, Option.bind_some, if_neg (by decide), Option.bind_some]
      unfold oc
      simp only
      rw [hadd, Option.bind_some]
    · rw [if_neg h0, Option.bind_some]
      unfold oc
      simp only
      rw [hadd, Option.bind_some]
theorem behind_L0 {o : m_laurellaw01_Made_R} (hM : MadeOK 6 8 o.r0) {p m : Int} (hp : isPlace o.r0 p = true) (hm : dayF o.r0 m = true) :
    m_laurellaw01_TideBehind_L0 o m p = some (.inl (p + 1)) := by
  have hG := MadeOK.good hM (by omega) (by omega)
  have hp2 := isPlace_iff.1 hp
  have hfl := hG.fl
  unfold m_laurellaw01_TideBehind_L0
  have key := iterM_any0 (f := m_laurellaw01_TideBehind_L1 o p m) o.r0.floors.length (fun _ => false) false (fun k hk => by
    rw [behind_L1 hM hp (isPlace_iff.2 ⟨by omega, by omega⟩) hm]; rfl) (by
    unfold m_laurellaw01_TideBehind_L1
    rw [if_neg (by omega)]) (N := FU) (FU_lt (by omega))
  have : (List.range o.r0.floors.length).any (fun _ => false) = false := by simp
  rw [if_pos hp2.2, key, this, if_neg (by decide), Option.bind_some]
  unfold oc
  simp only
  rw [addc_eq (by omega), Option.bind_some]
/-- TideBehind is true of all bytes -/
theorem behind_true {l : List Int} {when_ : Int} (hl : l.length ≤ 9223372036854775807) (hn : 0 ≤ when_ ∧ when_ ≤ 255) : m_laurellaw01_TideBehind l when_ = some true := by
  unfold m_laurellaw01_TideBehind
  obtain ⟨o, ho, hM, _⟩ := made_ok (r := 0) hl (p := 0) ⟨Int.le_refl _, .inr rfl⟩ (pl := 6) (sl := 8) (by omega) (by omega)
  have hG := MadeOK.good hM (by omega) (by omega)
  have htl := hG.tl
  have hfl := hG.fl
  have hds := day_span hG
  rw [pile_eq', Option.bind_some, ho, Option.bind_some]
  obtain ⟨t, ht, ht1, ht2, ht3⟩ := minute_in hG (k := when_) (by omega)
  rw [lawfirst_eq (by omega), Option.bind_some, lawlast_eq (Good.short hG) (by omega), Option.bind_some, Option.bind_some, subc_eq (by omega), Option.bind_some, addc_eq (by omega), Option.bind_some, ht, Option.bind_some, addc_eq (by omega), Option.bind_some]
  have key := iterM_any0 (f := m_laurellaw01_TideBehind_L0 o (firstM o.r0 + t)) o.r0.floors.length (fun _ => false) false (fun k hk => by
    rw [behind_L0 hM (isPlace_iff.2 ⟨by omega, by omega⟩) (by simp only [dayF, inr_iff]; omega)]; rfl) (by
    unfold m_laurellaw01_TideBehind_L0
    rw [if_neg (by omega)]) (N := FU) (FU_lt (by omega))
  have : (List.range o.r0.floors.length).any (fun _ => false) = false := by simp
  rw [key, this, if_neg (by decide), Option.bind_some]
  unfold oc
  simp only
  rw [x_awake_eq, Option.bind_some]
end Go.Proofs.Wk

namespace Go.Gx
open Go Go.Fw Go.RowKit
/-! ### arguments, as they come in -/
section
variable {H : Type} {enc : TypeId × Value → H} {P : Program} {w : World} {base : Nat} {sp : Nat → Bool} {held : Bool}
/-- what of this type comes in is, cell by cell, a value of this row -/
def Opens (enc : TypeId × Value → H) (P : Program) (w : World) (base : Nat) (sp : Nat → Bool) (held : Bool) {α : Type} (R : Row α) (wf : α → Prop) (t : TypeId) : Prop :=
  ∀ fuel cs x, DataW.trod enc P w base sp held fuel t cs = some x → ∃ a, cs = R.cells a ∧ wf a
def i64P (n : Int) : Prop := -9223372036854775808 ≤ n ∧ n ≤ 9223372036854775807
theorem wf_i64P {n : Int} (h : (Lit.int .i64 n).wf = true) : i64P n := by
  simp [Lit.wf, IntKind.min, IntKind.max, IntKind.signed, IntKind.bits] at h
  unfold i64P; omega
def u8P (n : Int) : Prop := 0 ≤ n ∧ n ≤ 255
theorem wf_u8P {n : Int} (h : (Lit.int .u8 n).wf = true) : u8P n := by
  simp [Lit.wf, IntKind.min, IntKind.max, IntKind.signed, IntKind.bits] at h
  unfold u8P; omega
theorem opens_i64 {t : TypeId} (ht : P.underlying t = some (.int .i64)) : Opens enc P w base sp held RI i64P t := fun fuel cs x h => by
  obtain ⟨n, rfl, _, hw⟩ := DataW.trod_int ht h
  exact ⟨n, rfl, wf_i64P hw⟩
theorem opens_u8 {t : TypeId} (ht : P.underlying t = some (.int .u8)) : Opens enc P w base sp held RU8 u8P t := fun fuel cs x h => by
  obtain ⟨n, rfl, _, hw⟩ := DataW.trod_int ht h
  exact ⟨n, rfl, wf_u8P hw⟩
theorem opens_bool {t : TypeId} (ht : P.underlying t = some .bool) : Opens enc P w base sp held RB (fun _ => True) t := fun fuel cs x h => by
  obtain ⟨b, rfl, _⟩ := DataW.trod_bool ht h
  exact ⟨b, rfl, trivial⟩
/-- a field of a struct, by its cells -/
theorem fieldAt {fs : Array Field} {t : TypeId} {fuel : Nat} {cs : List Value} {x : DataW H × List MemPlace} (ht : P.underlying t = some (.struct fs)) (h : DataW.trod enc P w base sp held fuel t cs = some x) {α : Type} {R : Row α} {wf : α → Prop} (i : Nat) {T o k : Nat}
    (hf : (fs[i]?).map (fun fd => (fd.type, fd.offset)) = some (T, o)) (hk : P.cellsOf T = k) (hR : Opens enc P w base sp held R wf T) : ∃ a, (cs.drop o).take k = R.cells a ∧ wf a := by
  obtain ⟨xs, n, rfl, _, hlen, hxl, hx⟩ := DataW.trod_struct ht h
  obtain ⟨fd, hfd, he⟩ : ∃ fd, fs[i]? = some fd ∧ (fd.type, fd.offset) = (T, o) := by
    cases hh : fs[i]? with
    | none => simp [hh] at hf
    | some fd => exact ⟨fd, rfl, by simpa [hh] using hf⟩
  simp only [Prod.mk.injEq] at he
  obtain ⟨rfl, rfl⟩ := he
  have h1 := hx i fd hfd
  rw [hk] at h1
  have hi : i < xs.length := by rw [hxl]; exact (Array.getElem?_eq_some_iff.1 hfd).1
  rw [List.getElem?_eq_getElem hi] at h1
  exact hR _ _ _ h1
theorem structLen {fs : Array Field} {t : TypeId} {fuel : Nat} {cs : List Value} {x : DataW H × List MemPlace} (ht : P.underlying t = some (.struct fs)) (h : DataW.trod enc P w base sp held fuel t cs = some x) : cs.length = P.cellsOf t := by
  obtain ⟨xs, n, _, _, hlen, _⟩ := DataW.trod_struct ht h
  exact hlen
/-- a slice that came in -/
structure SlIn {α : Type} (R : Row α) (wf : α → Prop) (w : World) (v : Value) (A : Option Addr) (n c : Nat) (l : List α) : Prop where
  val : v = .slice A n c
  len : l.length = n
  ok : AOK n A
  le : n ≤ c
  max : c ≤ maxLen
  seg : segOK w (aB A, aO A, R.enc l)
  wf : ∀ x, x ∈ l → wf x
theorem choose_list {α : Type} {p : Nat → α → Prop} : ∀ (n : Nat), (∀ i, i < n → ∃ a, p i a) → ∃ l : List α, l.length = n ∧ ∀ i (h : i < l.length), p i l[i]
  | 0, _ => ⟨[], rfl, fun i h => by simp at h⟩
  | n + 1, h => by
    obtain ⟨l, hl, hp⟩ := choose_list n (fun i hi => h i (by omega))
    obtain ⟨a, ha⟩ := h n (by omega)
    refine ⟨l ++ [a], by simp [hl], fun i hi => ?_⟩
    by_cases hil : i < l.length
    · rw [List.getElem_append_left hil]; exact hp i hil
    · have : i = l.length := by simp at hi; omega
      subst this
      rw [List.getElem_append_right (by omega)]
      simp only [Nat.sub_self, List.getElem_cons_zero]
      rw [hl]; exact ha
theorem openSl {α : Type} {R : Row α} {wf : α → Prop} {t e : TypeId} (ht : P.underlying t = some (.slice e)) (hc : P.cellsOf e = R.sz) (hR : Opens enc P w base sp held R wf e) (h0 : Nat.blt 0 R.sz = true)
    {fuel : Nat} {cs : List Value} {x : DataW H × List MemPlace} (h : DataW.trod enc P w base sp held fuel t cs = some x) : ∃ (v : Value) (A : Option Addr) (n c : Nat) (l : List α), cs = [v] ∧ SlIn R wf w v A n c l := by
  have hsz : 0 < R.sz := by simpa using h0
  rcases Go.Deep.open_slice ht h with ⟨rfl, _⟩ | ⟨a, len, cap, m, n, D, Pl, rfl, hb, hl, hm, hmm, _, hi⟩
  · exact ⟨_, none, 0, 0, [], rfl, rfl, rfl, AOK.nil, Nat.le_refl _, Nat.zero_le _, segOK.nil, by simp⟩
  · have hlm : len ≤ m := by rw [hmm]; split <;> omega
    have hcell : ∀ i, i < len → ∃ x : α, (∀ f (hf : f < (R.cells x).length), w.cell? (a.add (i * R.sz + f)) = some (R.cells x)[f]) ∧ wf x := fun i hil => by
      obtain ⟨cs', h1, h2⟩ := hi i (by omega)
      obtain ⟨x, rfl, hw⟩ := hR _ _ _ h2
      obtain ⟨_, _, hat⟩ := World.cells?_some h1
      refine ⟨x, fun f hf => ?_, hw⟩
      have := hat f (by rw [hc, ← R.len x]; exact hf)
      rw [hc] at this
      rw [List.getElem?_eq_getElem hf] at this
      have e : (a.add (i * R.sz)).add f = a.add (i * R.sz + f) := by
        unfold Addr.add
        by_cases h1 : i * R.sz = 0
        · simp [h1]
        · by_cases h2 : f = 0
          · simp [h2]
          · simp [h1, h2, Nat.add_assoc]
      rw [e] at this
      exact this
    obtain ⟨l, hll, hlp⟩ := choose_list len hcell
    have hspot : 0 < len → a.spot = none := fun h0 => by
      obtain ⟨x, hx, _⟩ := hcell 0 h0
      have := World.cell?_spot (hx 0 (by rw [R.len]; exact hsz))
      simpa [Addr.add] using this
    refine ⟨_, some a, len, cap, l, rfl, rfl, hll, fun h0 => ?_, hl, hm, fun j hj => ?_, fun x hx => ?_⟩
    · obtain ⟨b, o, s⟩ := a
      have := hspot h0
      simp only at this
      subst this
      exact ⟨b, o, rfl⟩
    · have hj' : j < l.length * R.sz := by rw [← R.enc_len]; exact hj
      have hpos : 0 < len := by
        rcases Nat.eq_zero_or_pos len with h | h
        · rw [hll, h, Nat.zero_mul] at hj'; omega
        · exact h
      obtain ⟨b, o, s⟩ := a
      have hs := hspot hpos
      simp only at hs
      subst hs
      have hq : j / R.sz < l.length := Nat.div_lt_of_lt_mul (by rw [Nat.mul_comm]; exact hj')
      have hr : j % R.sz < R.sz := Nat.mod_lt _ hsz
      have hd : j / R.sz * R.sz + j % R.sz = j := by rw [Nat.mul_comm]; exact Nat.div_add_mod j R.sz
      have h1 := (hlp (j / R.sz) hq).1 (j % R.sz) (by rw [R.len]; exact hr)
      rw [hd] at h1
      have h2 := R.enc_get l (j / R.sz) (j % R.sz) l[j / R.sz] (List.getElem?_eq_getElem hq) hr
      rw [hd] at h2
      have h3 : (⟨b, o, none⟩ : Addr).add j = ⟨b, o + j, none⟩ := addr_add b o j
      rw [h3] at h1
      simp only [aB, aO, Option.map_some, Option.getD_some]
      rw [h1, ← List.getElem?_eq_getElem, ← h2, List.getElem?_eq_getElem hj]
    · obtain ⟨i, hi', rfl⟩ := List.getElem_of_mem hx
      exact (hlp i hi').2
theorem fieldSl {fs : Array Field} {t : TypeId} {fuel : Nat} {cs : List Value} {x : DataW H × List MemPlace} (ht : P.underlying t = some (.struct fs)) (h : DataW.trod enc P w base sp held fuel t cs = some x) {α : Type} {R : Row α} {wf : α → Prop} (i : Nat) {T o e : Nat}
    (hf : (fs[i]?).map (fun fd => (fd.type, fd.offset)) = some (T, o)) (hk : P.cellsOf T = 1) (hT : P.underlying T = some (.slice e)) (hc : P.cellsOf e = R.sz) (hR : Opens enc P w base sp held R wf e) (h0 : Nat.blt 0 R.sz = true) :
    ∃ (v : Value) (A : Option Addr) (n c : Nat) (l : List α), (cs.drop o).take 1 = [v] ∧ SlIn R wf w v A n c l := by
  obtain ⟨xs, m, rfl, _, hlen, hxl, hx⟩ := DataW.trod_struct ht h
  obtain ⟨fd, hfd, he⟩ : ∃ fd, fs[i]? = some fd ∧ (fd.type, fd.offset) = (T, o) := by
    cases hh : fs[i]? with
    | none => simp [hh] at hf
    | some fd => exact ⟨fd, rfl, by simpa [hh] using hf⟩
  simp only [Prod.mk.injEq] at he
  obtain ⟨rfl, rfl⟩ := he
  have h1 := hx i fd hfd
  rw [hk] at h1
  have hi : i < xs.length := by rw [hxl]; exact (Array.getElem?_eq_some_iff.1 hfd).1
  rw [List.getElem?_eq_getElem hi] at h1
  exact openSl hT hc hR h0 h1
theorem HV.begin {ro : List Sg} (h : ∀ s, s ∈ ro → segOK w s) : HV w (keys [] []) [] [] ro w :=
  ⟨rfl, rfl, rfl, Nat.le_refl _, fun _ _ _ => rfl, by simp [vbl], by simp [vbl], by simp [vbl], h, by simp [vbl]⟩
theorem segCons {s : Sg} {ro : List Sg} (h : segOK w s) (hr : ∀ t, t ∈ ro → segOK w t) : ∀ t, t ∈ s :: ro → segOK w t := fun t ht => by
  rcases List.mem_cons.1 ht with rfl | ht
  · exact h
  · exact hr t ht
theorem segNil : ∀ t, t ∈ ([] : List Sg) → segOK w t := fun t ht => by cases ht
theorem HV.below {w' : World} (h : HV w (keys [] []) [] [] [] w') : Below w.heap.size w w' := by
  have : Ext [] w w' := HS.toExt h
  exact this.below
end
end Go.Gx

namespace Go.Proofs.Wk
open Go Go.Fw Go.Gx Go.Pl Go.RowKit
section
variable {H : Type} {enc : TypeId × Value → H} {w : World} {base : Nat} {sp : Nat → Bool} {held : Bool}
theorem list2 {α : Type} {cs : List α} {a b : α} (hl : cs.length = 2) (h0 : (cs.drop 0).take 1 = [a]) (h1 : (cs.drop 1).take 1 = [b]) : cs = [a, b] := by
  match cs, hl with
  | [x, y], _ => simp at h0 h1; simp [h0, h1]
theorem list3 {α : Type} {cs : List α} {a b c : α} (hl : cs.length = 3) (h0 : (cs.drop 0).take 1 = [a]) (h1 : (cs.drop 1).take 1 = [b]) (h2 : (cs.drop 2).take 1 = [c]) : cs = [a, b, c] := by
  match cs, hl with
  | [x, y, z], _ => simp at h0 h1 h2; simp [h0, h1, h2]
theorem list5 {α : Type} {cs : List α} {a b c d e : α} (hl : cs.length = 5) (h0 : (cs.drop 0).take 1 = [a]) (h1 : (cs.drop 1).take 2 = [b, c]) (h2 : (cs.drop 3).take 1 = [d]) (h3 : (cs.drop 4).take 1 = [e]) : cs = [a, b, c, d, e] := by
  match cs, hl with
  | [x, y, z, u, v], _ => simp at h0 h1 h2 h3; simp [h0, h1, h2, h3]
theorem opI : Opens enc Try.prog w base sp held RI i64P 3 := opens_i64 Try.underlying3
theorem opB : Opens enc Try.prog w base sp held RB (fun _ => True) 4 := opens_bool Try.underlying4
set_option maxRecDepth 100000 in
theorem opWater : Opens enc Try.prog w base sp held RW (fun x => i64P x.min ∧ i64P x.h) 68 := fun fuel cs x h => by
  obtain ⟨a, ha, wa⟩ := fieldAt Try.underlying68 h 0 (T := 3) (o := 0) (k := 1) rfl (by kernel_rfl) opI
  obtain ⟨b, hb, wb⟩ := fieldAt Try.underlying68 h 1 (T := 3) (o := 1) (k := 1) rfl (by kernel_rfl) opI
  have hl := structLen Try.underlying68 h
  rw [show Try.prog.cellsOf 68 = 2 by kernel_rfl] at hl
  exact ⟨⟨a, b⟩, list2 hl ha hb, wa, wb⟩
set_option maxRecDepth 100000 in
theorem opSill : Opens enc Try.prog w base sp held RS (fun x => i64P x.a ∧ i64P x.b ∧ i64P x.h) 51 := fun fuel cs x h => by
  obtain ⟨a, ha, wa⟩ := fieldAt Try.underlying51 h 0 (T := 3) (o := 0) (k := 1) rfl (by kernel_rfl) opI
  obtain ⟨b, hb, wb⟩ := fieldAt Try.underlying51 h 1 (T := 3) (o := 1) (k := 1) rfl (by kernel_rfl) opI
  obtain ⟨c, hc, wc⟩ := fieldAt Try.underlying51 h 2 (T := 3) (o := 2) (k := 1) rfl (by kernel_rfl) opI
  have hl := structLen Try.underlying51 h
  rw [show Try.prog.cellsOf 51 = 3 by kernel_rfl] at hl
  exact ⟨⟨a, b, c⟩, list3 hl ha hb hc, wa, wb, wc⟩
set_option maxRecDepth 100000 in
theorem opSpan : Opens enc Try.prog w base sp held RP (fun x => i64P x.lo ∧ i64P x.hi) 25 := fun fuel cs x h => by
  obtain ⟨a, ha, wa⟩ := fieldAt Try.underlying25 h 0 (T := 3) (o := 0) (k := 1) rfl (by kernel_rfl) opI
  obtain ⟨b, hb, wb⟩ := fieldAt Try.underlying25 h 1 (T := 3) (o := 1) (k := 1) rfl (by kernel_rfl) opI
  have hl := structLen Try.underlying25 h
  rw [show Try.prog.cellsOf 25 = 2 by kernel_rfl] at hl
  exact ⟨⟨a, b⟩, list2 hl ha hb, wa, wb⟩
set_option maxRecDepth 100000 in
theorem opLook : Opens enc Try.prog w base sp held RL (fun x => i64P x.min ∧ i64P x.place) 89 := fun fuel cs x h => by
  obtain ⟨a, ha, wa⟩ := fieldAt Try.underlying89 h 0 (T := 3) (o := 0) (k := 1) rfl (by kernel_rfl) opI
  obtain ⟨b, hb, wb⟩ := fieldAt Try.underlying89 h 1 (T := 3) (o := 1) (k := 1) rfl (by kernel_rfl) opI
  obtain ⟨c, hc, _⟩ := fieldAt Try.underlying89 h 2 (T := 4) (o := 2) (k := 1) rfl (by kernel_rfl) opB
  have hl := structLen Try.underlying89 h
  rw [show Try.prog.cellsOf 89 = 3 by kernel_rfl] at hl
  exact ⟨⟨a, b, c⟩, list3 hl ha hb hc, wa, wb⟩
/-- numbers that are numbers of the machine -/
structure WfS (s : Sands) : Prop where
  t : ∀ x, x ∈ s.table → i64P x.min ∧ i64P x.h
  lo : i64P s.wind.lo
  hi : i64P s.wind.hi
  f : ∀ x, x ∈ s.floors → i64P x
  s : ∀ x, x ∈ s.sills → i64P x.a ∧ i64P x.b ∧ i64P x.h
set_option maxRecDepth 100000 in
theorem opSands {fuel : Nat} {cs : List Value} {x : DataW H × List MemPlace} (h : DataW.trod enc Try.prog w base sp held fuel 29 cs = some x) :
    ∃ (s : Sands) (A1 A2 A3 : Option Addr) (n1 c1 n2 c2 n3 c3 : Nat) (v1 v2 v3 : Value), cs = [.slice A1 n1 c1, .int .i64 s.wind.lo, .int .i64 s.wind.hi, .slice A2 n2 c2, .slice A3 n3 c3] ∧
      SlIn RW (fun x => i64P x.min ∧ i64P x.h) w v1 A1 n1 c1 s.table ∧ SlIn RI i64P w v2 A2 n2 c2 s.floors ∧ SlIn RS (fun x => i64P x.a ∧ i64P x.b ∧ i64P x.h) w v3 A3 n3 c3 s.sills ∧ WfS s := by
  obtain ⟨v1, A1, n1, c1, l1, e1, h1⟩ := fieldSl Try.underlying29 h 0 (T := 23) (o := 0) (e := 68) rfl (by kernel_rfl) Try.underlying23 (by kernel_rfl) opWater rfl
  obtain ⟨p, ep, wp⟩ := fieldAt Try.underlying29 h 1 (T := 25) (o := 1) (k := 2) rfl (by kernel_rfl) opSpan
  obtain ⟨v2, A2, n2, c2, l2, e2, h2⟩ := fieldSl Try.underlying29 h 2 (T := 26) (o := 3) (e := 3) rfl (by kernel_rfl) Try.underlying26 (by kernel_rfl) opI rfl
  obtain ⟨v3, A3, n3, c3, l3, e3, h3⟩ := fieldSl Try.underlying29 h 3 (T := 27) (o := 4) (e := 51) rfl (by kernel_rfl) Try.underlying27 (by kernel_rfl) opSill rfl
  have hl := structLen Try.underlying29 h
  rw [show Try.prog.cellsOf 29 = 5 by kernel_rfl] at hl
  have hv1 := h1.val
  have hv2 := h2.val
  have hv3 := h3.val
  subst hv1 hv2 hv3
  exact ⟨⟨l1, p, l2, l3⟩, A1, A2, A3, n1, c1, n2, c2, n3, c3, _, _, _, list5 hl e1 ep e2 e3, h1, h2, h3, h1.wf, wp.1, wp.2, h2.wf, h3.wf⟩
end
end Go.Proofs.Wk
namespace Go.Proofs.Wk
open Go Go.Gx
theorem opU8 {H : Type} {enc : TypeId × Value → H} {w : World} {base : Nat} {sp : Nat → Bool} {held : Bool} : Opens enc Try.prog w base sp held RU8 u8P 5 := opens_u8 Try.underlying5
end Go.Proofs.Wk

