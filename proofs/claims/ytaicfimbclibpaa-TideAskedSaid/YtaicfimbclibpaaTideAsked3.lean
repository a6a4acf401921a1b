/- What the functions that the law TideAsked reaches come to, and why it holds: part 3. -/
import Derived.KernelRfl
import Derived.Test.YtaicfimbclibpaaTideAsked2
namespace Go.Proofs
open Go Go.Fw Go.Pl
set_option maxRecDepth 100000 in
theorem c_day (L : LS) (bd : Nat) (g : List Int) (m : Int) (w : World) (hL : L.OK w) (hG : Good L.S) (hgl : g.length = 8) (hd : segOK w (bd, 0, L.cells ++ ints g)) : Ret Try.prog 103 [ptr bd 0, .int .i64 m] w (.bool (dayF L.S m)) := by
  have hlt := hL.tl
  have hlf := hL.fl
  have hls := hL.sl
  have hfl8 := hG.fl
  have htl12 := hG.tl
  refine g_enter (args := [ptr bd 0, .int .i64 m]) Try.func103 rfl Try.ntmps103 rfl (e := [(0, _), (1, _)]) rfl (HS.start w [] ((bd, 0, L.cells ++ ints g) :: L.segs) (segsC hd hL.segs)) ?_
  refine g_seq ?_
  refine g_region ?_
  refine g_val rfl rfl rfl (fun _ _ => v_assign rfl) ?_
  refine g_nil ?_
  refine g_n_then ?_
  refine g_seq ?_
  refine g_draw none (.free 0 (.free 1 (.free 2 (.free 3 (.free 4 (.hoist 5 (.hoist 6 (.free 7 (.hoist 8 (.free 9 (.free 10 (.free 11 (.free 12 (.hoist 13 (.free 14 (.free 15 (.free 16 (.free 17 (.hoist 18 (.free 19 (.free 20 (.hoist 21 (.free 22 (.hoist 23 (.one 24 (.free 25 .done)))))))))))))))))))))))))) _ rfl (by decide +kernel) (fun w k hh => hh.draw k) (fun w hh => hh) ?_
  refine p_free rfl rfl rfl rfl (fun _ _ => v_move rfl) ?_
  refine p_free rfl rfl rfl rfl (fun _ _ => v_move rfl) ?_
  refine p_free rfl rfl rfl rfl (fun _ _ => v_nilCheck rfl) ?_
  refine p_free rfl rfl rfl rfl (fun w _ => v_fieldAddr 0 (Try.runUnderlying157 w) rfl (Try.sizeOf29 w) rfl) ?_
  refine p_free rfl rfl rfl rfl (fun w _ => v_fieldAddr 0 (Try.runUnderlying29 w) rfl (Try.sizeOf23 w) rfl) ?_
  refine p_hoist rfl rfl rfl rfl (fun w hh => v_load (Try.isAgg23 w) rfl (hh.rcell 0 0 rfl rfl)) ?_
  refine p_hoist rfl rfl rfl rfl (fun w _ => v_indexAddr 0 (Try.runUnderlying23 w) (Try.sizeOf68 w) rfl rfl rfl (by omega) (hL.t0 (by omega))) ?_
  refine p_free rfl rfl rfl rfl (fun w _ => v_fieldAddr 0 (Try.runUnderlying68 w) rfl (Try.sizeOf3 w) rfl) ?_
  refine p_hoist rfl rfl rfl rfl (fun w hh => v_load (Try.isAgg3 w) rfl (hh.fld (j := 0) encW_len 1 0 rfl (by omega) rfl rfl)) ?_
  refine p_free rfl rfl rfl rfl (fun _ _ => v_move rfl) ?_
  refine p_free rfl rfl rfl rfl (fun _ _ => v_nilCheck rfl) ?_
  refine p_free rfl rfl rfl rfl (fun w _ => v_fieldAddr 0 (Try.runUnderlying157 w) rfl (Try.sizeOf29 w) rfl) ?_
  refine p_free rfl rfl rfl rfl (fun w _ => v_fieldAddr 0 (Try.runUnderlying29 w) rfl (Try.sizeOf23 w) rfl) ?_
  refine p_hoist rfl rfl rfl rfl (fun w hh => v_load (Try.isAgg23 w) rfl (hh.rcell 0 0 rfl rfl)) ?_
  refine p_free rfl rfl rfl rfl (fun _ _ => v_move rfl) ?_
  refine p_free rfl rfl rfl rfl (fun _ _ => v_nilCheck rfl) ?_
  refine p_free rfl rfl rfl rfl (fun w _ => v_fieldAddr 0 (Try.runUnderlying157 w) rfl (Try.sizeOf29 w) rfl) ?_
  refine p_free rfl rfl rfl rfl (fun w _ => v_fieldAddr 0 (Try.runUnderlying29 w) rfl (Try.sizeOf23 w) rfl) ?_
  refine p_hoist rfl rfl rfl rfl (fun w hh => v_load (Try.isAgg23 w) rfl (hh.rcell 0 0 rfl rfl)) ?_
  refine p_free rfl rfl rfl rfl (fun w _ => v_lenS (Try.runUnderlying23 w) rfl) ?_
  refine p_free rfl rfl rfl rfl (fun _ _ => v_sub rfl rfl (wrap_i64 (by omega))) ?_
  refine p_hoist rfl rfl rfl rfl (fun w _ => v_indexAddr (L.S.table.length - 1) (Try.runUnderlying23 w) (Try.sizeOf68 w) rfl rfl (by omega) (by omega) (hL.t0 (by omega))) ?_
  refine p_free rfl rfl rfl rfl (fun w _ => v_fieldAddr 0 (Try.runUnderlying68 w) rfl (Try.sizeOf3 w) rfl) ?_
  refine p_hoist rfl rfl rfl rfl (fun w hh => v_load (Try.isAgg3 w) rfl (hh.fld (j := (L.S.table.length - 1)) encW_len 1 0 rfl (by omega) rfl rfl)) ?_
  refine p_one rfl ?_
  refine g_callv rfl rfl rfl rfl rfl rfl rfl (fun a w => Try.call90 a w) (fun w hh => c_in _ _ _ w) ?_
  refine p_next (fun w hh => hh) ?_
  refine p_free rfl rfl rfl rfl (fun _ _ => v_assign rfl) ?_
  refine p_done ?_
  refine g_n_then ?_
  refine g_ret ?_
  refine g_done rfl (fun w hh => (.tmp rfl .nil)) (fun w hh => ⟨?_, hh.toExt⟩)
  rfl

set_option maxRecDepth 100000 in
theorem c_height1 (x : Water) (m : Int) (bx : Nat) (w : World) (hb : segOK w (bx, 0, [.int .i64 m])) : Ret Try.prog 156 [.agg (encW x).toArray, ptr bx 0] w (.bool (decide (m ≤ x.min))) := by
  refine g_enter (args := [.agg (encW x).toArray, ptr bx 0]) Try.func156 rfl Try.ntmps156 rfl (e := [(0, _), (1, _)]) rfl (HS.start w [] [(bx, 0, [.int .i64 m])] (segsC hb segsN)) ?_
  refine g_seq ?_
  refine g_region ?_
  refine g_box rfl rfl (fun b1 hb1 => ?_)
  refine g_val rfl rfl rfl (fun _ _ => v_assign rfl) ?_
  refine g_nil ?_
  refine g_n_then ?_
  refine g_seq ?_
  refine g_region ?_
  refine g_val rfl rfl rfl (fun w _ => v_fieldAddr 0 (Try.runUnderlying68 w) rfl (Try.sizeOf3 w) rfl) ?_
  refine g_val rfl rfl rfl (fun w hh => v_load (Try.isAgg3 w) rfl (hh.cell 0 rfl rfl)) ?_
  refine g_val rfl rfl rfl (fun w hh => v_load (Try.isAgg3 w) rfl (hh.rcell 0 0 rfl rfl)) ?_
  refine g_val rfl rfl rfl (fun _ _ => v_geq rfl rfl) ?_
  refine g_val rfl rfl rfl (fun _ _ => v_assign rfl) ?_
  refine g_nil ?_
  refine g_n_then ?_
  refine g_ret ?_
  refine g_done rfl (fun w hh => (.tmp rfl .nil)) (fun w hh => ⟨?_, hh.toExt⟩)
  rfl

set_option maxRecDepth 100000 in
theorem c_height (L : LS) (bd : Nat) (g : List Int) (m : Int) (w : World) (hL : L.OK w) (hG : Good L.S) (hgl : g.length = 8) (hd : segOK w (bd, 0, L.cells ++ ints g)) (hday : dayF L.S m = true) : Ret Try.prog 110 [ptr bd 0, .int .i64 m] w (.int .i64 (heightF L.S m)) := by
  have hlt := hL.tl
  have hlf := hL.fl
  have hls := hL.sl
  have hfl8 := hG.fl
  have htl12 := hG.tl
  obtain ⟨j, ej, hj, hm, hl, hj0⟩ := day_idx hG hday
  have hT0 := hG.tab j hj
  have hmw : -9000 ≤ m := by have := hG.tab 0 (by omega); have h := hday; simp only [dayF, inr_iff] at h; have e : firstM L.S = (L.S.table.getD 0 default).min := rfl; omega
  refine g_enter (args := [ptr bd 0, .int .i64 m]) Try.func110 rfl Try.ntmps110 rfl (e := [(0, _), (1, _)]) rfl (HS.start w [] ((bd, 0, L.cells ++ ints g) :: L.segs) (segsC hd hL.segs)) ?_
  refine g_seq ?_
  refine g_region ?_
  refine g_box rfl rfl (fun b1 hb1 => ?_)
  refine g_val rfl rfl rfl (fun _ _ => v_assign rfl) ?_
  refine g_nil ?_
  refine g_n_then ?_
  refine g_seq ?_
  refine g_region ?_
  refine g_val rfl rfl rfl (fun _ _ => v_move rfl) ?_
  refine g_val rfl rfl rfl (fun _ _ => v_nilCheck rfl) ?_
  refine g_val rfl rfl rfl (fun w _ => v_fieldAddr 0 (Try.runUnderlying157 w) rfl (Try.sizeOf29 w) rfl) ?_
  refine g_val rfl rfl rfl (fun w _ => v_fieldAddr 0 (Try.runUnderlying29 w) rfl (Try.sizeOf23 w) rfl) ?_
  refine g_val rfl rfl rfl (fun w hh => v_load (Try.isAgg23 w) rfl (hh.rcell 0 0 rfl rfl)) ?_
  refine g_val rfl rfl rfl (fun _ _ => v_makeFunc (u := #[]) (u' := #[_]) rfl rfl) ?_
  refine g_callv rfl rfl rfl rfl rfl rfl rfl (fun a w => Try.call155 a w) (fun w hh => ej ▸ c_IndexFunc_Water 156 #[] #[ptr b1 0] (fun x => decide (m ≤ x.min)) L.S.table L.rt L.ct w (by omega) hL.t0 (hh.seg 1 rfl) (fun a w => Try.call156 a w) (fun w2 hx j hj => c_height1 _ m b1 w2 ((hh.ownSeg 0 rfl).ext hx (by simp)))) ?_
  refine g_val rfl rfl rfl (fun _ _ => v_assign rfl) ?_
  refine g_nil ?_
  refine g_n_then ?_
  refine g_seq ?_
  refine g_region ?_
  refine g_val rfl rfl rfl (fun _ _ => v_move rfl) ?_
  refine g_val rfl rfl rfl (fun _ _ => v_nilCheck rfl) ?_
  refine g_val rfl rfl rfl (fun w _ => v_fieldAddr 0 (Try.runUnderlying157 w) rfl (Try.sizeOf29 w) rfl) ?_
  refine g_val rfl rfl rfl (fun w _ => v_fieldAddr 0 (Try.runUnderlying29 w) rfl (Try.sizeOf23 w) rfl) ?_
  refine g_val rfl rfl rfl (fun w hh => v_load (Try.isAgg23 w) rfl (hh.rcell 0 0 rfl rfl)) ?_
  refine g_val rfl rfl rfl (fun _ _ => v_move rfl) ?_
  refine g_val rfl rfl rfl (fun w _ => v_indexAddr j (Try.runUnderlying23 w) (Try.sizeOf68 w) rfl rfl rfl (by omega) (hL.t0 (by omega))) ?_
  refine g_val rfl rfl rfl (fun w hh => v_loadAgg (vs := encW _) (Try.isAgg68 w) (Try.sizeOf68 w) rfl (hh.elem encW_len 1 rfl (by omega))) ?_
  refine g_alloc (fun w => Try.zeroValue68 w) rfl (fun b2 hb2 => ?_)
  refine g_storeAgg (vs := #[_, _]) (own' := (_ :: _)) 0 (fun w => Try.sizeOf68 w) rfl rfl rfl rfl rfl rfl ?_
  refine g_nil ?_
  refine g_n_then ?_
  refine g_seq ?_
  refine g_seq ?_
  refine g_region ?_
  refine g_val rfl rfl rfl (fun w _ => v_fieldAddr 0 (Try.runUnderlying68 w) rfl (Try.sizeOf3 w) rfl) ?_
  refine g_val rfl rfl rfl (fun w hh => v_load (Try.isAgg3 w) rfl (hh.cell 0 rfl rfl)) ?_
  refine g_val rfl rfl rfl (fun w hh => v_load (Try.isAgg3 w) rfl (hh.cell 1 rfl rfl)) ?_
  refine g_val rfl rfl rfl (fun _ _ => v_eql rfl rfl) ?_
  refine g_nil ?_
  refine g_n_then ?_
  refine g_cond rfl (fun h28 => ?_) (fun h28 => ?_)
  · replace h28 := of_decide_eq_true h28
    refine g_seq ?_
    refine g_region ?_
    refine g_val rfl rfl rfl (fun w _ => v_fieldAddr 1 (Try.runUnderlying68 w) rfl (Try.sizeOf3 w) rfl) ?_
    refine g_val rfl rfl rfl (fun w hh => v_load (Try.isAgg3 w) rfl (hh.cell 0 rfl rfl)) ?_
    refine g_val rfl rfl rfl (fun _ _ => v_assign rfl) ?_
    refine g_nil ?_
    refine g_n_then ?_
    refine g_ret ?_
    refine g_r_then ?_
    refine g_done rfl (fun w hh => (.tmp rfl .nil)) (fun w hh => ⟨?_, hh.toExt⟩)
    simp only [retv, heightF, ej, heightAt, Int.toNat_natCast, if_pos h28] <;> rfl
  · replace h28 := of_decide_eq_false h28
    have hj0 : j ≠ 0 := fun h => h28 (hj0 h)
    have hP := slope_bd hG hj hm hl hj0
    have hT1 := hG.tab (j - 1) (by omega)
    have hlt1 := hl (j - 1) (by omega)
    refine g_skip ?_
    refine g_n_then ?_
    refine g_seq ?_
    refine g_region ?_
    refine g_val rfl rfl rfl (fun _ _ => v_move rfl) ?_
    refine g_val rfl rfl rfl (fun _ _ => v_nilCheck rfl) ?_
    refine g_val rfl rfl rfl (fun w _ => v_fieldAddr 0 (Try.runUnderlying157 w) rfl (Try.sizeOf29 w) rfl) ?_
    refine g_val rfl rfl rfl (fun w _ => v_fieldAddr 0 (Try.runUnderlying29 w) rfl (Try.sizeOf23 w) rfl) ?_
    refine g_val rfl rfl rfl (fun w hh => v_load (Try.isAgg23 w) rfl (hh.rcell 0 0 rfl rfl)) ?_
    refine g_val rfl rfl rfl (fun _ _ => v_move rfl) ?_
    refine g_val rfl rfl rfl (fun _ _ => v_sub rfl rfl (wrap_i64 (by omega))) ?_
    refine g_val rfl rfl rfl (fun w _ => v_indexAddr (j - 1) (Try.runUnderlying23 w) (Try.sizeOf68 w) rfl rfl (by omega) (by omega) (hL.t0 (by omega))) ?_
    refine g_val rfl rfl rfl (fun w hh => v_loadAgg (vs := encW _) (Try.isAgg68 w) (Try.sizeOf68 w) rfl (hh.elem encW_len 1 rfl (by omega))) ?_
    refine g_alloc (fun w => Try.zeroValue68 w) rfl (fun b3 hb3 => ?_)
    refine g_storeAgg (vs := #[_, _]) (own' := (_ :: _)) 0 (fun w => Try.sizeOf68 w) rfl rfl rfl rfl rfl rfl ?_
    refine g_nil ?_
    refine g_n_then ?_
    refine g_seq ?_
    refine g_draw none (.free 0 (.hoist 1 (.free 2 (.hoist 3 (.free 4 (.hoist 5 (.free 6 (.hoist 7 (.free 8 (.free 9 (.free 10 (.hoist 11 (.free 12 (.hoist 13 (.free 14 (.free 15 (.free 16 .done))))))))))))))))) _ rfl (by decide +kernel) (fun w k hh => hh.draw k) (fun w hh => hh) ?_
    refine p_free rfl rfl rfl rfl (fun w _ => v_fieldAddr 1 (Try.runUnderlying68 w) rfl (Try.sizeOf3 w) rfl) ?_
    refine p_hoist rfl rfl rfl rfl (fun w hh => v_load (Try.isAgg3 w) rfl (hh.cell 1 rfl rfl)) ?_
    refine p_free rfl rfl rfl rfl (fun w _ => v_fieldAddr 1 (Try.runUnderlying68 w) rfl (Try.sizeOf3 w) rfl) ?_
    refine p_hoist rfl rfl rfl rfl (fun w hh => v_load (Try.isAgg3 w) rfl (hh.cell 0 rfl rfl)) ?_
    refine p_free rfl rfl rfl rfl (fun _ _ => v_sub rfl rfl (wrap_i64 (by omega))) ?_
    refine p_hoist rfl rfl rfl rfl (fun w hh => v_load (Try.isAgg3 w) rfl (hh.cell 2 rfl rfl)) ?_
    refine p_free rfl rfl rfl rfl (fun w _ => v_fieldAddr 0 (Try.runUnderlying68 w) rfl (Try.sizeOf3 w) rfl) ?_
    refine p_hoist rfl rfl rfl rfl (fun w hh => v_load (Try.isAgg3 w) rfl (hh.cell 0 rfl rfl)) ?_
    refine p_free rfl rfl rfl rfl (fun _ _ => v_sub rfl rfl (wrap_i64 (by omega))) ?_
    refine p_free rfl rfl rfl rfl (fun _ _ => v_mul rfl rfl (wrap_i64 (by omega))) ?_
    refine p_free rfl rfl rfl rfl (fun w _ => v_fieldAddr 0 (Try.runUnderlying68 w) rfl (Try.sizeOf3 w) rfl) ?_
    refine p_hoist rfl rfl rfl rfl (fun w hh => v_load (Try.isAgg3 w) rfl (hh.cell 1 rfl rfl)) ?_
    refine p_free rfl rfl rfl rfl (fun w _ => v_fieldAddr 0 (Try.runUnderlying68 w) rfl (Try.sizeOf3 w) rfl) ?_
    refine p_hoist rfl rfl rfl rfl (fun w hh => v_load (Try.isAgg3 w) rfl (hh.cell 0 rfl rfl)) ?_
    refine p_free rfl rfl rfl rfl (fun _ _ => v_sub rfl rfl (wrap_i64 (by omega))) ?_
    refine p_free rfl rfl rfl rfl (fun _ _ => v_assign rfl) ?_
    refine p_free rfl rfl rfl rfl (fun _ _ => v_assign rfl) ?_
    refine p_done ?_
    refine g_n_then ?_
    refine g_seq ?_
    refine g_seq ?_
    refine g_region ?_
    refine g_val rfl rfl rfl (fun _ _ => v_move rfl) ?_
    refine g_val rfl rfl rfl (fun _ _ => v_lss rfl rfl) ?_
    refine g_nil ?_
    refine g_n_then ?_
    refine g_cond rfl (fun h56 => ?_) (fun h56 => ?_)
    · replace h56 := of_decide_eq_true h56
      have hnum : -1500000 ≤ ((L.S.table.getD j default).h - (L.S.table.getD (j - 1) default).h) * (m - (L.S.table.getD (j - 1) default).min) - ((L.S.table.getD j default).min - (L.S.table.getD (j - 1) default).min - 1) ∧ ((L.S.table.getD j default).h - (L.S.table.getD (j - 1) default).h) * (m - (L.S.table.getD (j - 1) default).min) - ((L.S.table.getD j default).min - (L.S.table.getD (j - 1) default).min - 1) ≤ 1500000 := by omega
      refine g_region ?_
      refine g_val rfl rfl rfl (fun _ _ => v_move rfl) ?_
      refine g_val rfl rfl rfl (fun _ _ => v_move rfl) ?_
      refine g_val rfl rfl rfl (fun _ _ => v_sub rfl rfl (wrap_i64 (by omega))) ?_
      refine g_val rfl rfl rfl (fun _ _ => v_sub rfl rfl (wrap_i64 (by omega))) ?_
      refine g_val rfl rfl rfl (fun _ _ => v_assign rfl) ?_
      refine g_nil ?_
      refine g_n_then ?_
      refine g_seq ?_
      refine g_draw none (.free 0 (.hoist 1 (.free 2 (.free 3 (.free 4 (.free 5 (.free 6 .done))))))) _ rfl (by decide +kernel) (fun w k hh => hh.draw k) (fun w hh => hh) ?_
      refine p_free rfl rfl rfl rfl (fun w _ => v_fieldAddr 1 (Try.runUnderlying68 w) rfl (Try.sizeOf3 w) rfl) ?_
      refine p_hoist rfl rfl rfl rfl (fun w hh => v_load (Try.isAgg3 w) rfl (hh.cell 0 rfl rfl)) ?_
      refine p_free rfl rfl rfl rfl (fun _ _ => v_move rfl) ?_
      refine p_free rfl rfl rfl rfl (fun _ _ => v_move rfl) ?_
      refine p_free rfl rfl rfl rfl (fun _ _ => v_quo rfl rfl (by omega) (wrap_i64 (by have h9 := tdiv_bd (d := (L.S.table.getD j default).min - (L.S.table.getD (j - 1) default).min) hnum; omega))) ?_
      refine p_free rfl rfl rfl rfl (fun _ _ => v_add rfl rfl (wrap_i64 (by have h9 := tdiv_bd (d := (L.S.table.getD j default).min - (L.S.table.getD (j - 1) default).min) hnum; omega))) ?_
      refine p_free rfl rfl rfl rfl (fun _ _ => v_assign rfl) ?_
      refine p_done ?_
      refine g_n_then ?_
      refine g_ret ?_
      refine g_done rfl (fun w hh => (.tmp rfl .nil)) (fun w hh => ⟨?_, hh.toExt⟩)
      simp only [retv, heightF, ej, heightAt, Int.toNat_natCast, slope, *, if_true, if_false]
    · replace h56 := of_decide_eq_false h56
      have hnum : -1500000 ≤ ((L.S.table.getD j default).h - (L.S.table.getD (j - 1) default).h) * (m - (L.S.table.getD (j - 1) default).min) ∧ ((L.S.table.getD j default).h - (L.S.table.getD (j - 1) default).h) * (m - (L.S.table.getD (j - 1) default).min) ≤ 1500000 := by omega
      refine g_skip ?_
      refine g_n_then ?_
      refine g_seq ?_
      refine g_draw none (.free 0 (.hoist 1 (.free 2 (.free 3 (.free 4 (.free 5 (.free 6 .done))))))) _ rfl (by decide +kernel) (fun w k hh => hh.draw k) (fun w hh => hh) ?_
      refine p_free rfl rfl rfl rfl (fun w _ => v_fieldAddr 1 (Try.runUnderlying68 w) rfl (Try.sizeOf3 w) rfl) ?_
      refine p_hoist rfl rfl rfl rfl (fun w hh => v_load (Try.isAgg3 w) rfl (hh.cell 0 rfl rfl)) ?_
      refine p_free rfl rfl rfl rfl (fun _ _ => v_move rfl) ?_
      refine p_free rfl rfl rfl rfl (fun _ _ => v_move rfl) ?_
      refine p_free rfl rfl rfl rfl (fun _ _ => v_quo rfl rfl (by omega) (wrap_i64 (by have h9 := tdiv_bd (d := (L.S.table.getD j default).min - (L.S.table.getD (j - 1) default).min) hnum; omega))) ?_
      refine p_free rfl rfl rfl rfl (fun _ _ => v_add rfl rfl (wrap_i64 (by have h9 := tdiv_bd (d := (L.S.table.getD j default).min - (L.S.table.getD (j - 1) default).min) hnum; omega))) ?_
      refine p_free rfl rfl rfl rfl (fun _ _ => v_assign rfl) ?_
      refine p_done ?_
      refine g_n_then ?_
      refine g_ret ?_
      refine g_done rfl (fun w hh => (.tmp rfl .nil)) (fun w hh => ⟨?_, hh.toExt⟩)
      simp only [retv, heightF, ej, heightAt, Int.toNat_natCast, slope, *, if_true, if_false]

set_option maxRecDepth 100000 in
theorem c_level (L : LS) (bd : Nat) (g : List Int) (m : Int) (w : World) (hL : L.OK w) (hG : Good L.S) (hgl : g.length = 8) (hd : segOK w (bd, 0, L.cells ++ ints g)) (hday : dayF L.S m = true) : Ret Try.prog 111 [ptr bd 0, .int .i64 m] w (.agg (encP (levelF L.S m)).toArray) := by
  have hlt := hL.tl
  have hlf := hL.fl
  have hls := hL.sl
  have hfl8 := hG.fl
  have htl12 := hG.tl
  have hhb := height_bd hG hday
  have hlo := hG.lo
  have hhi := hG.hi
  refine g_enter (args := [ptr bd 0, .int .i64 m]) Try.func111 rfl Try.ntmps111 rfl (e := [(0, _), (1, _)]) rfl (HS.start w [] ((bd, 0, L.cells ++ ints g) :: L.segs) (segsC hd hL.segs)) ?_
  refine g_seq ?_
  refine g_region ?_
  refine g_alloc (fun w => Try.zeroValue25 w) rfl (fun b1 hb1 => ?_)
  refine g_nil ?_
  refine g_n_then ?_
  refine g_seq ?_
  refine g_region ?_
  refine g_val rfl rfl rfl (fun _ _ => v_move rfl) ?_
  refine g_val rfl rfl rfl (fun _ _ => v_move rfl) ?_
  refine g_callv rfl rfl rfl rfl rfl rfl rfl (fun a w => Try.call110 a w) (fun w hh => c_height L bd g _ w (hL.ext hh.toExt) hG hgl (hh.seg 0 rfl) (by assumption)) ?_
  refine g_val rfl rfl rfl (fun _ _ => v_assign rfl) ?_
  refine g_nil ?_
  refine g_n_then ?_
  refine g_seq ?_
  refine g_draw (some 17) (.free 0 (.free 1 (.free 2 (.free 3 (.free 4 (.free 5 (.hoist 6 (.free 7 (.free 8 (.free 9 (.free 10 (.free 11 (.free 12 (.free 13 (.hoist 14 (.free 15 (.free 16 (.last 17 .done)))))))))))))))))) _ rfl (by decide +kernel) (fun w k hh => hh.draw k) (fun w hh => hh) ?_
  refine p_free rfl rfl rfl rfl (fun _ _ => v_move rfl) ?_
  refine p_free rfl rfl rfl rfl (fun _ _ => v_move rfl) ?_
  refine p_free rfl rfl rfl rfl (fun _ _ => v_nilCheck rfl) ?_
  refine p_free rfl rfl rfl rfl (fun w _ => v_fieldAddr 0 (Try.runUnderlying157 w) rfl (Try.sizeOf29 w) rfl) ?_
  refine p_free rfl rfl rfl rfl (fun w _ => v_fieldAddr 1 (Try.runUnderlying29 w) rfl (Try.sizeOf25 w) rfl) ?_
  refine p_free rfl rfl rfl rfl (fun w _ => v_fieldAddr 0 (Try.runUnderlying25 w) rfl (Try.sizeOf3 w) rfl) ?_
  refine p_hoist rfl rfl rfl rfl (fun w hh => v_load (Try.isAgg3 w) rfl (hh.rcell 0 1 rfl rfl)) ?_
  refine p_free rfl rfl rfl rfl (fun _ _ => v_add rfl rfl (wrap_i64 (by omega))) ?_
  refine p_free rfl rfl rfl rfl (fun _ _ => v_move rfl) ?_
  refine p_free rfl rfl rfl rfl (fun _ _ => v_move rfl) ?_
  refine p_free rfl rfl rfl rfl (fun _ _ => v_nilCheck rfl) ?_
  refine p_free rfl rfl rfl rfl (fun w _ => v_fieldAddr 0 (Try.runUnderlying157 w) rfl (Try.sizeOf29 w) rfl) ?_
  refine p_free rfl rfl rfl rfl (fun w _ => v_fieldAddr 1 (Try.runUnderlying29 w) rfl (Try.sizeOf25 w) rfl) ?_
  refine p_free rfl rfl rfl rfl (fun w _ => v_fieldAddr 1 (Try.runUnderlying25 w) rfl (Try.sizeOf3 w) rfl) ?_
  refine p_hoist rfl rfl rfl rfl (fun w hh => v_load (Try.isAgg3 w) rfl (hh.rcell 0 2 rfl rfl)) ?_
  refine p_free rfl rfl rfl rfl (fun _ _ => v_add rfl rfl (wrap_i64 (by omega))) ?_
  refine p_free rfl rfl rfl rfl (fun _ _ => v_build (vs := [(0, _), (1, _)]) (cells := [_, _]) rfl rfl) ?_
  refine p_last rfl ?_
  refine g_storeAgg (vs := #[_, _]) (own' := (_ :: _)) 0 (fun w => Try.sizeOf25 w) rfl rfl rfl rfl rfl rfl ?_
  refine p_nextL ?_
  refine p_done ?_
  refine g_n_then ?_
  refine g_ret ?_
  refine g_done rfl (fun w hh => (.cell rfl (loadVar_agg (vs := [_, _]) (Try.isAgg25 _) (Try.sizeOf25 _) (hh.cells 0 rfl rfl)) .nil)) (fun w hh => ⟨?_, hh.toExt⟩)
  rfl

set_option maxRecDepth 100000 in
theorem c_at (L : LS) (bd : Nat) (g : List Int) (m p : Int) (w : World) (hL : L.OK w) (hG : Good L.S) (hgl : g.length = 8) (hd : segOK w (bd, 0, L.cells ++ ints g)) (hday : dayF L.S m = true) (hp : 0 ≤ p ∧ p < 8) : Ret Try.prog 104 [ptr bd 0, .int .i64 m, .int .i64 p] w (.int .i64 (stateG L.S (g.getD p.toNat 0) m)) := by
  have hlt := hL.tl
  have hlf := hL.fl
  have hls := hL.sl
  have hfl8 := hG.fl
  have htl12 := hG.tl
  refine g_enter (args := [ptr bd 0, .int .i64 m, .int .i64 p]) Try.func104 rfl Try.ntmps104 rfl (e := [(0, _), (1, _), (2, _)]) rfl (HS.start w [] ((bd, 0, L.cells ++ ints g) :: L.segs) (segsC hd hL.segs)) ?_
  refine g_seq ?_
  refine g_region ?_
  refine g_val rfl rfl rfl (fun _ _ => v_assign rfl) ?_
  refine g_nil ?_
  refine g_n_then ?_
  refine g_seq ?_
  refine g_draw none (.free 0 (.free 1 (.free 3 (.free 4 (.free 5 (.free 6 (.hoist 7 (.hoist 8 (.br (.alt 2 (.one 9 (.one 10 (.free 11 .done))) (.alt 9 (.one 2 (.one 10 (.free 11 .done))) .nil))))))))))) _ rfl (by decide +kernel) (fun w k hh => hh.draw k) (fun w hh => hh) ?_
  refine p_free rfl rfl rfl rfl (fun _ _ => v_move rfl) ?_
  refine p_free rfl rfl rfl rfl (fun _ _ => v_move rfl) ?_
  refine p_free rfl rfl rfl rfl (fun _ _ => v_move rfl) ?_
  refine p_free rfl rfl rfl rfl (fun _ _ => v_move rfl) ?_
  refine p_free rfl rfl rfl rfl (fun _ _ => v_nilCheck rfl) ?_
  refine p_free rfl rfl rfl rfl (fun w _ => v_fieldAddr 5 (Try.runUnderlying157 w) rfl (Try.sizeOf155 w) rfl) ?_
  refine p_hoist rfl rfl rfl rfl (fun w _ => v_arrI1 (Try.runUnderlying155 w) (Try.sizeOf3 w) rfl rfl (by omega) (by omega)) ?_
  refine p_hoist rfl rfl rfl rfl (fun w hh => v_load (Try.isAgg3 w) rfl (hh.rgate 0 rfl (by omega))) ?_
  refine p_br ?_
  refine p_alt rfl ?_ ?_
  · refine g_callv rfl rfl rfl rfl rfl rfl rfl (fun a w => Try.call111 a w) (fun w hh => c_level L bd g _ w (hL.ext hh.toExt) hG hgl (hh.seg 0 rfl) (by assumption)) ?_
    refine p_next (fun w hh => hh) ?_
    refine p_one rfl ?_
    refine g_alloc (fun w => Try.zeroValue25 w) rfl (fun b1 hb1 => ?_)
    refine p_next (fun w hh => hh.dropN 1 rfl) ?_
    refine p_one rfl ?_
    refine g_storeAgg (vs := #[_, _]) (own' := (_ :: _)) 0 (fun w => Try.sizeOf25 w) rfl rfl rfl rfl rfl rfl ?_
    refine p_next (fun w hh => hh.dropN 1 rfl) ?_
    refine p_free rfl rfl rfl rfl (fun _ _ => v_assign rfl) ?_
    refine p_done ?_
    refine g_n_then ?_
    refine g_seq ?_
    refine g_block ?_
    refine g_seq ?_
    refine g_region ?_
    refine g_val rfl rfl rfl (fun _ _ => v_move rfl) ?_
    refine g_val rfl rfl rfl (fun _ _ => v_eql rfl rfl) ?_
    refine g_val rfl rfl rfl (fun _ _ => v_move rfl) ?_
    refine g_case 21 rfl (fun hg21_1 => ?_) (fun hg21_1 => ?_)
    · replace hg21_1 := of_decide_eq_true hg21_1
      refine g_skipG rfl rfl rfl rfl rfl rfl ?_
      refine g_skipG rfl rfl rfl rfl rfl rfl ?_
      refine g_skipG rfl rfl rfl rfl rfl rfl ?_
      refine g_skipG rfl rfl rfl rfl rfl rfl ?_
      refine g_val rfl rfl rfl (fun _ _ => v_pickT rfl rfl) ?_
      refine g_val rfl rfl rfl (fun _ _ => v_assign rfl) ?_
      refine g_nil ?_
      refine g_n_then ?_
      refine g_condT rfl rfl ?_
      refine g_seq ?_
      refine g_region ?_
      refine g_val rfl rfl rfl (fun _ _ => v_assign rfl) ?_
      refine g_nil ?_
      refine g_n_then ?_
      refine g_ret ?_
      refine g_r_blk ?_
      refine g_r_then ?_
      refine g_done rfl (fun w hh => (.tmp rfl .nil)) (fun w hh => ⟨?_, hh.toExt⟩)
      simp only [retv, stateG]
      split <;> (try split) <;> first | rfl | omega
    · replace hg21_1 := of_decide_eq_false hg21_1
      refine g_valG rfl rfl rfl rfl rfl (fun w _ => v_fieldAddr 1 (Try.runUnderlying25 w) rfl (Try.sizeOf3 w) rfl) ?_
      refine g_valG rfl rfl rfl rfl rfl (fun w hh => v_load (Try.isAgg3 w) rfl (hh.cell 0 rfl rfl)) ?_
      refine g_valG rfl rfl rfl rfl rfl (fun _ _ => v_move rfl) ?_
      refine g_valG rfl rfl rfl rfl rfl (fun _ _ => v_leq rfl rfl) ?_
      refine g_val rfl rfl rfl (fun _ _ => v_pickF rfl rfl) ?_
      refine g_val rfl rfl rfl (fun _ _ => v_assign rfl) ?_
      refine g_nil ?_
      refine g_n_then ?_
      refine g_cond rfl (fun hc18_2 => ?_) (fun hc18_2 => ?_)
      · replace hc18_2 := of_decide_eq_true hc18_2
        refine g_seq ?_
        refine g_region ?_
        refine g_val rfl rfl rfl (fun _ _ => v_assign rfl) ?_
        refine g_nil ?_
        refine g_n_then ?_
        refine g_ret ?_
        refine g_r_blk ?_
        refine g_r_then ?_
        refine g_done rfl (fun w hh => (.tmp rfl .nil)) (fun w hh => ⟨?_, hh.toExt⟩)
        simp only [retv, stateG]
        split <;> (try split) <;> first | rfl | omega
      · replace hc18_2 := of_decide_eq_false hc18_2
        refine g_seq ?_
        refine g_region ?_
        refine g_val rfl rfl rfl (fun w _ => v_fieldAddr 0 (Try.runUnderlying25 w) rfl (Try.sizeOf3 w) rfl) ?_
        refine g_val rfl rfl rfl (fun w hh => v_load (Try.isAgg3 w) rfl (hh.cell 0 rfl rfl)) ?_
        refine g_val rfl rfl rfl (fun _ _ => v_move rfl) ?_
        refine g_val rfl rfl rfl (fun _ _ => v_gtr rfl rfl) ?_
        refine g_val rfl rfl rfl (fun _ _ => v_assign rfl) ?_
        refine g_nil ?_
        refine g_n_then ?_
        refine g_cond rfl (fun hc27_3 => ?_) (fun hc27_3 => ?_)
        · replace hc27_3 := of_decide_eq_true hc27_3
          refine g_seq ?_
          refine g_region ?_
          refine g_val rfl rfl rfl (fun _ _ => v_assign rfl) ?_
          refine g_nil ?_
          refine g_n_then ?_
          refine g_ret ?_
          refine g_r_blk ?_
          refine g_r_then ?_
          refine g_done rfl (fun w hh => (.tmp rfl .nil)) (fun w hh => ⟨?_, hh.toExt⟩)
          simp only [retv, stateG]
          split <;> (try split) <;> first | rfl | omega
        · replace hc27_3 := of_decide_eq_false hc27_3
          refine g_skip ?_
          refine g_n_blk ?_
          refine g_n_then ?_
          refine g_seq ?_
          refine g_region ?_
          refine g_val rfl rfl rfl (fun _ _ => v_assign rfl) ?_
          refine g_nil ?_
          refine g_n_then ?_
          refine g_ret ?_
          refine g_done rfl (fun w hh => (.tmp rfl .nil)) (fun w hh => ⟨?_, hh.toExt⟩)
          simp only [retv, stateG]
          split <;> (try split) <;> first | rfl | omega
  refine p_alt rfl ?_ ?_
  · refine g_alloc (fun w => Try.zeroValue25 w) rfl (fun b2 hb2 => ?_)
    refine p_next (fun w hh => hh.dropN 1 rfl) ?_
    refine p_one rfl ?_
    refine g_callv rfl rfl rfl rfl rfl rfl rfl (fun a w => Try.call111 a w) (fun w hh => c_level L bd g _ w (hL.ext hh.toExt) hG hgl (hh.seg 0 rfl) (by assumption)) ?_
    refine p_next (fun w hh => hh.dropN 1 rfl) ?_
    refine p_one rfl ?_
    refine g_storeAgg (vs := #[_, _]) (own' := (_ :: _)) 0 (fun w => Try.sizeOf25 w) rfl rfl rfl rfl rfl rfl ?_
    refine p_next (fun w hh => hh.dropN 1 rfl) ?_
    refine p_free rfl rfl rfl rfl (fun _ _ => v_assign rfl) ?_
    refine p_done ?_
    refine g_n_then ?_
    refine g_seq ?_
    refine g_block ?_
    refine g_seq ?_
    refine g_region ?_
    refine g_val rfl rfl rfl (fun _ _ => v_move rfl) ?_
    refine g_val rfl rfl rfl (fun _ _ => v_eql rfl rfl) ?_
    refine g_val rfl rfl rfl (fun _ _ => v_move rfl) ?_
    refine g_case 21 rfl (fun hg21_4 => ?_) (fun hg21_4 => ?_)
    · replace hg21_4 := of_decide_eq_true hg21_4
      refine g_skipG rfl rfl rfl rfl rfl rfl ?_
      refine g_skipG rfl rfl rfl rfl rfl rfl ?_
      refine g_skipG rfl rfl rfl rfl rfl rfl ?_
      refine g_skipG rfl rfl rfl rfl rfl rfl ?_
      refine g_val rfl rfl rfl (fun _ _ => v_pickT rfl rfl) ?_
      refine g_val rfl rfl rfl (fun _ _ => v_assign rfl) ?_
      refine g_nil ?_
      refine g_n_then ?_
      refine g_condT rfl rfl ?_
      refine g_seq ?_
      refine g_region ?_
      refine g_val rfl rfl rfl (fun _ _ => v_assign rfl) ?_
      refine g_nil ?_
      refine g_n_then ?_
      refine g_ret ?_
      refine g_r_blk ?_
      refine g_r_then ?_
      refine g_done rfl (fun w hh => (.tmp rfl .nil)) (fun w hh => ⟨?_, hh.toExt⟩)
      simp only [retv, stateG]
      split <;> (try split) <;> first | rfl | omega
    · replace hg21_4 := of_decide_eq_false hg21_4
      refine g_valG rfl rfl rfl rfl rfl (fun w _ => v_fieldAddr 1 (Try.runUnderlying25 w) rfl (Try.sizeOf3 w) rfl) ?_
      refine g_valG rfl rfl rfl rfl rfl (fun w hh => v_load (Try.isAgg3 w) rfl (hh.cell 0 rfl rfl)) ?_
      refine g_valG rfl rfl rfl rfl rfl (fun _ _ => v_move rfl) ?_
      refine g_valG rfl rfl rfl rfl rfl (fun _ _ => v_leq rfl rfl) ?_
      refine g_val rfl rfl rfl (fun _ _ => v_pickF rfl rfl) ?_
      refine g_val rfl rfl rfl (fun _ _ => v_assign rfl) ?_
      refine g_nil ?_
      refine g_n_then ?_
      refine g_cond rfl (fun hc18_5 => ?_) (fun hc18_5 => ?_)
      · replace hc18_5 := of_decide_eq_true hc18_5
        refine g_seq ?_
        refine g_region ?_
        refine g_val rfl rfl rfl (fun _ _ => v_assign rfl) ?_
        refine g_nil ?_
        refine g_n_then ?_
        refine g_ret ?_
        refine g_r_blk ?_
        refine g_r_then ?_
        refine g_done rfl (fun w hh => (.tmp rfl .nil)) (fun w hh => ⟨?_, hh.toExt⟩)
        simp only [retv, stateG]
        split <;> (try split) <;> first | rfl | omega
      · replace hc18_5 := of_decide_eq_false hc18_5
        refine g_seq ?_
        refine g_region ?_
        refine g_val rfl rfl rfl (fun w _ => v_fieldAddr 0 (Try.runUnderlying25 w) rfl (Try.sizeOf3 w) rfl) ?_
        refine g_val rfl rfl rfl (fun w hh => v_load (Try.isAgg3 w) rfl (hh.cell 0 rfl rfl)) ?_
        refine g_val rfl rfl rfl (fun _ _ => v_move rfl) ?_
        refine g_val rfl rfl rfl (fun _ _ => v_gtr rfl rfl) ?_
        refine g_val rfl rfl rfl (fun _ _ => v_assign rfl) ?_
        refine g_nil ?_
        refine g_n_then ?_
        refine g_cond rfl (fun hc27_6 => ?_) (fun hc27_6 => ?_)
        · replace hc27_6 := of_decide_eq_true hc27_6
          refine g_seq ?_
          refine g_region ?_
          refine g_val rfl rfl rfl (fun _ _ => v_assign rfl) ?_
          refine g_nil ?_
          refine g_n_then ?_
          refine g_ret ?_
          refine g_r_blk ?_
          refine g_r_then ?_
          refine g_done rfl (fun w hh => (.tmp rfl .nil)) (fun w hh => ⟨?_, hh.toExt⟩)
          simp only [retv, stateG]
          split <;> (try split) <;> first | rfl | omega
        · replace hc27_6 := of_decide_eq_false hc27_6
          refine g_skip ?_
          refine g_n_blk ?_
          refine g_n_then ?_
          refine g_seq ?_
          refine g_region ?_
          refine g_val rfl rfl rfl (fun _ _ => v_assign rfl) ?_
          refine g_nil ?_
          refine g_n_then ?_
          refine g_ret ?_
          refine g_done rfl (fun w hh => (.tmp rfl .nil)) (fun w hh => ⟨?_, hh.toExt⟩)
          simp only [retv, stateG]
          split <;> (try split) <;> first | rfl | omega
  exact p_nil

end Go.Proofs

namespace Go.Proofs
open Go Go.Fw Go.Pl
theorem c_openedR (L : LS) (w : World) (hL : L.OK w) (hc : check L.S = 0) : Calls Try.prog 102 #[L.val] w (fun en w' => ∃ bd : Nat, en = .returned (.tuple #[ptr bd 0, .int .i64 0]) ∧ True ∧ News w w' [(bd, 0, L.cells ++ ints (gatesOf L.S))]) :=
  (c_opened L w hL (good_of_check hc) hc).mono (by rintro en w' ⟨bd, rfl, hF⟩; exact ⟨bd, rfl, trivial, hF.news 0 rfl⟩)
set_option maxRecDepth 100000 in
theorem c_Height (m : Int) (L : LS) (w : World) (hL : L.OK w) : Ret Try.prog 36 [L.val, .int .i64 m] w (.tuple #[.int .i64 (HeightR L.S m).1, .int .i64 (HeightR L.S m).2]) := by
  have hlt := hL.tl
  have hlf := hL.fl
  have hls := hL.sl
  refine g_enter (args := [L.val, .int .i64 m]) Try.func36 rfl Try.ntmps36 rfl (e := [(0, _), (1, _)]) rfl (HS.start w [] L.segs hL.segs) ?_
  refine g_seq ?_
  refine g_region ?_
  refine g_box rfl rfl (fun b1 hb1 => ?_)
  refine g_val rfl rfl rfl (fun _ _ => v_assign rfl) ?_
  refine g_val rfl rfl rfl (fun _ _ => v_assign rfl) ?_
  refine g_nil ?_
  refine g_n_then ?_
  refine g_seq ?_
  refine g_region ?_
  refine g_val rfl rfl rfl (fun w hh => v_loadAgg (vs := [_, _, _, _, _]) (Try.isAgg29 w) (Try.sizeOf29 w) rfl (hh.cells 0 rfl rfl)) ?_
  by_cases hc : check L.S = 0
  · have hG := good_of_check hc
    have hfl8 := hG.fl
    have htl12 := hG.tl
    have hsl16 := hG.sl
    refine g_callR (ι := Nat) (p := fun _ => True) (S := fun bd => [(bd, 0, L.cells ++ ints (gatesOf L.S))]) (ret := fun bd => .tuple #[ptr bd 0, .int .i64 0]) rfl rfl rfl rfl rfl rfl rfl (fun a w => Try.call102 a w) (fun w hh => c_openedR L w (hL.ext hh.toExt) hc) (fun bd _ => ?_)
    refine g_val rfl rfl rfl (fun _ _ => v_move rfl) ?_
    refine g_val rfl rfl rfl (fun _ _ => v_extract rfl rfl) ?_
    refine g_val rfl rfl rfl (fun _ _ => v_extract rfl rfl) ?_
    refine g_val rfl rfl rfl (fun _ _ => v_assign rfl) ?_
    refine g_val rfl rfl rfl (fun _ _ => v_assign rfl) ?_
    refine g_nil ?_
    refine g_n_then ?_
    refine g_seq ?_
    refine g_block ?_
    refine g_seq ?_
    refine g_region ?_
    refine g_val rfl rfl rfl (fun _ _ => v_move rfl) ?_
    refine g_val rfl rfl rfl (fun _ _ => v_neq rfl rfl) ?_
    refine g_val rfl rfl rfl (fun _ _ => v_assign rfl) ?_
    refine g_nil ?_
    refine g_n_then ?_
    refine g_condF rfl rfl ?_
    refine g_seq ?_
    refine g_region ?_
    refine g_val rfl rfl rfl (fun _ _ => v_move rfl) ?_
    refine g_val rfl rfl rfl (fun _ _ => v_move rfl) ?_
    refine g_callv rfl rfl rfl rfl rfl rfl rfl (fun a w => Try.call103 a w) (fun w hh => c_day L bd (gatesOf L.S) _ w (hL.ext hh.toExt) hG gates_length (hh.seg 0 rfl)) ?_
    refine g_val rfl rfl rfl (fun _ _ => v_not rfl) ?_
    refine g_val rfl rfl rfl (fun _ _ => v_assign rfl) ?_
    refine g_nil ?_
    refine g_n_then ?_
    refine g_cond rfl (fun hc17_1 => ?_) (fun hc17_1 => ?_)
    · replace hc17_1 := of_not_true hc17_1
      refine g_seq ?_
      refine g_region ?_
      refine g_val rfl rfl rfl (fun _ _ => v_assign rfl) ?_
      refine g_val rfl rfl rfl (fun _ _ => v_assign rfl) ?_
      refine g_nil ?_
      refine g_n_then ?_
      refine g_ret ?_
      refine g_r_blk ?_
      refine g_r_then ?_
      refine g_done rfl (fun w hh => (.tmp rfl (.tmp rfl .nil))) (fun w hh => ⟨?_, hh.toExt⟩)
      simp only [retv, HeightR, *] <;> simp [*]
    · replace hc17_1 := of_not_false hc17_1
      refine g_skip ?_
      refine g_n_blk ?_
      refine g_n_then ?_
      refine g_seq ?_
      refine g_region ?_
      refine g_val rfl rfl rfl (fun _ _ => v_move rfl) ?_
      refine g_val rfl rfl rfl (fun _ _ => v_move rfl) ?_
      refine g_callv rfl rfl rfl rfl rfl rfl rfl (fun a w => Try.call110 a w) (fun w hh => c_height L bd (gatesOf L.S) _ w (hL.ext hh.toExt) hG gates_length (hh.seg 0 rfl) (by assumption)) ?_
      refine g_val rfl rfl rfl (fun _ _ => v_assign rfl) ?_
      refine g_val rfl rfl rfl (fun _ _ => v_assign rfl) ?_
      refine g_nil ?_
      refine g_n_then ?_
      refine g_ret ?_
      refine g_done rfl (fun w hh => (.tmp rfl (.tmp rfl .nil))) (fun w hh => ⟨?_, hh.toExt⟩)
      simp only [retv, HeightR, *] <;> simp [*]
  · refine g_callv rfl rfl rfl rfl rfl rfl rfl (fun a w => Try.call102 a w) (fun w hh => c_openedE L w (hL.ext hh.toExt) hc) ?_
    refine g_val rfl rfl rfl (fun _ _ => v_move rfl) ?_
    refine g_val rfl rfl rfl (fun _ _ => v_extract rfl rfl) ?_
    refine g_val rfl rfl rfl (fun _ _ => v_extract rfl rfl) ?_
    refine g_val rfl rfl rfl (fun _ _ => v_assign rfl) ?_
    refine g_val rfl rfl rfl (fun _ _ => v_assign rfl) ?_
    refine g_nil ?_
    refine g_n_then ?_
    refine g_seq ?_
    refine g_block ?_
    refine g_seq ?_
    refine g_region ?_
    refine g_val rfl rfl rfl (fun _ _ => v_move rfl) ?_
    refine g_val rfl rfl rfl (fun _ _ => v_neq rfl rfl) ?_
    refine g_val rfl rfl rfl (fun _ _ => v_assign rfl) ?_
    refine g_nil ?_
    refine g_n_then ?_
    refine g_condT rfl (neP hc) ?_
    refine g_seq ?_
    refine g_region ?_
    refine g_val rfl rfl rfl (fun _ _ => v_move rfl) ?_
    refine g_val rfl rfl rfl (fun _ _ => v_assign rfl) ?_
    refine g_val rfl rfl rfl (fun _ _ => v_assign rfl) ?_
    refine g_nil ?_
    refine g_n_then ?_
    refine g_ret ?_
    refine g_r_blk ?_
    refine g_r_then ?_
    refine g_done rfl (fun w hh => (.tmp rfl (.tmp rfl .nil))) (fun w hh => ⟨?_, hh.toExt⟩)
    simp only [retv, HeightR, *] <;> simp [*]

set_option maxRecDepth 100000 in
theorem c_Level (m : Int) (L : LS) (w : World) (hL : L.OK w) : Ret Try.prog 37 [L.val, .int .i64 m] w (.tuple #[.agg (encP (LevelR L.S m).1).toArray, .int .i64 (LevelR L.S m).2]) := by
  have hlt := hL.tl
  have hlf := hL.fl
  have hls := hL.sl
  refine g_enter (args := [L.val, .int .i64 m]) Try.func37 rfl Try.ntmps37 rfl (e := [(0, _), (1, _)]) rfl (HS.start w [] L.segs hL.segs) ?_
  refine g_seq ?_
  refine g_region ?_
  refine g_box rfl rfl (fun b1 hb1 => ?_)
  refine g_alloc (fun w => Try.zeroValue25 w) rfl (fun b2 hb2 => ?_)
  refine g_val rfl rfl rfl (fun _ _ => v_assign rfl) ?_
  refine g_nil ?_
  refine g_n_then ?_
  refine g_seq ?_
  refine g_region ?_
  refine g_val rfl rfl rfl (fun w hh => v_loadAgg (vs := [_, _, _, _, _]) (Try.isAgg29 w) (Try.sizeOf29 w) rfl (hh.cells 1 rfl rfl)) ?_
  by_cases hc : check L.S = 0
  · have hG := good_of_check hc
    have hfl8 := hG.fl
    have htl12 := hG.tl
    have hsl16 := hG.sl
    refine g_callR (ι := Nat) (p := fun _ => True) (S := fun bd => [(bd, 0, L.cells ++ ints (gatesOf L.S))]) (ret := fun bd => .tuple #[ptr bd 0, .int .i64 0]) rfl rfl rfl rfl rfl rfl rfl (fun a w => Try.call102 a w) (fun w hh => c_openedR L w (hL.ext hh.toExt) hc) (fun bd _ => ?_)
    refine g_val rfl rfl rfl (fun _ _ => v_move rfl) ?_
    refine g_val rfl rfl rfl (fun _ _ => v_extract rfl rfl) ?_
    refine g_val rfl rfl rfl (fun _ _ => v_extract rfl rfl) ?_
    refine g_val rfl rfl rfl (fun _ _ => v_assign rfl) ?_
    refine g_val rfl rfl rfl (fun _ _ => v_assign rfl) ?_
    refine g_nil ?_
    refine g_n_then ?_
    refine g_seq ?_
    refine g_block ?_
    refine g_seq ?_
    refine g_region ?_
    refine g_val rfl rfl rfl (fun _ _ => v_move rfl) ?_
    refine g_val rfl rfl rfl (fun _ _ => v_neq rfl rfl) ?_
    refine g_val rfl rfl rfl (fun _ _ => v_assign rfl) ?_
    refine g_nil ?_
    refine g_n_then ?_
    refine g_condF rfl rfl ?_
    refine g_seq ?_
    refine g_region ?_
    refine g_val rfl rfl rfl (fun _ _ => v_move rfl) ?_
    refine g_val rfl rfl rfl (fun _ _ => v_move rfl) ?_
    refine g_callv rfl rfl rfl rfl rfl rfl rfl (fun a w => Try.call103 a w) (fun w hh => c_day L bd (gatesOf L.S) _ w (hL.ext hh.toExt) hG gates_length (hh.seg 0 rfl)) ?_
    refine g_val rfl rfl rfl (fun _ _ => v_not rfl) ?_
    refine g_val rfl rfl rfl (fun _ _ => v_assign rfl) ?_
    refine g_nil ?_
    refine g_n_then ?_
    refine g_cond rfl (fun hc18_1 => ?_) (fun hc18_1 => ?_)
    · replace hc18_1 := of_not_true hc18_1
      refine g_seq ?_
      refine g_region ?_
      refine g_val rfl rfl rfl (fun _ _ => v_build (vs := []) (cells := [_, _]) rfl rfl) ?_
      refine g_storeAgg (vs := #[_, _]) (own' := (_ :: _)) 0 (fun w => Try.sizeOf25 w) rfl rfl rfl rfl rfl rfl ?_
      refine g_val rfl rfl rfl (fun _ _ => v_assign rfl) ?_
      refine g_nil ?_
      refine g_n_then ?_
      refine g_ret ?_
      refine g_r_blk ?_
      refine g_r_then ?_
      refine g_done rfl (fun w hh => (.cell rfl (loadVar_agg (vs := [_, _]) (Try.isAgg25 _) (Try.sizeOf25 _) (hh.cells 0 rfl rfl)) (.tmp rfl .nil))) (fun w hh => ⟨?_, hh.toExt⟩)
      simp only [retv, LevelR, encP, *] <;> simp [*]
    · replace hc18_1 := of_not_false hc18_1
      refine g_skip ?_
      refine g_n_blk ?_
      refine g_n_then ?_
      refine g_seq ?_
      refine g_region ?_
      refine g_val rfl rfl rfl (fun _ _ => v_move rfl) ?_
      refine g_val rfl rfl rfl (fun _ _ => v_move rfl) ?_
      refine g_callv rfl rfl rfl rfl rfl rfl rfl (fun a w => Try.call111 a w) (fun w hh => c_level L bd (gatesOf L.S) _ w (hL.ext hh.toExt) hG gates_length (hh.seg 0 rfl) (by assumption)) ?_
      refine g_storeAgg (vs := #[_, _]) (own' := (_ :: _)) 0 (fun w => Try.sizeOf25 w) rfl rfl rfl rfl rfl rfl ?_
      refine g_val rfl rfl rfl (fun _ _ => v_assign rfl) ?_
      refine g_nil ?_
      refine g_n_then ?_
      refine g_ret ?_
      refine g_done rfl (fun w hh => (.cell rfl (loadVar_agg (vs := [_, _]) (Try.isAgg25 _) (Try.sizeOf25 _) (hh.cells 0 rfl rfl)) (.tmp rfl .nil))) (fun w hh => ⟨?_, hh.toExt⟩)
      simp only [retv, LevelR, encP, *] <;> simp [*]
  · refine g_callv rfl rfl rfl rfl rfl rfl rfl (fun a w => Try.call102 a w) (fun w hh => c_openedE L w (hL.ext hh.toExt) hc) ?_
    refine g_val rfl rfl rfl (fun _ _ => v_move rfl) ?_
    refine g_val rfl rfl rfl (fun _ _ => v_extract rfl rfl) ?_
    refine g_val rfl rfl rfl (fun _ _ => v_extract rfl rfl) ?_
    refine g_val rfl rfl rfl (fun _ _ => v_assign rfl) ?_
    refine g_val rfl rfl rfl (fun _ _ => v_assign rfl) ?_
    refine g_nil ?_
    refine g_n_then ?_
    refine g_seq ?_
    refine g_block ?_
    refine g_seq ?_
    refine g_region ?_
    refine g_val rfl rfl rfl (fun _ _ => v_move rfl) ?_
    refine g_val rfl rfl rfl (fun _ _ => v_neq rfl rfl) ?_
    refine g_val rfl rfl rfl (fun _ _ => v_assign rfl) ?_
    refine g_nil ?_
    refine g_n_then ?_
    refine g_condT rfl (neP hc) ?_
    refine g_seq ?_
    refine g_region ?_
    refine g_val rfl rfl rfl (fun _ _ => v_build (vs := []) (cells := [_, _]) rfl rfl) ?_
    refine g_val rfl rfl rfl (fun _ _ => v_move rfl) ?_
    refine g_storeAgg (vs := #[_, _]) (own' := (_ :: _)) 0 (fun w => Try.sizeOf25 w) rfl rfl rfl rfl rfl rfl ?_
    refine g_val rfl rfl rfl (fun _ _ => v_assign rfl) ?_
    refine g_nil ?_
    refine g_n_then ?_
    refine g_ret ?_
    refine g_r_blk ?_
    refine g_r_then ?_
    refine g_done rfl (fun w hh => (.cell rfl (loadVar_agg (vs := [_, _]) (Try.isAgg25 _) (Try.sizeOf25 _) (hh.cells 0 rfl rfl)) (.tmp rfl .nil))) (fun w hh => ⟨?_, hh.toExt⟩)
    simp only [retv, LevelR, encP, *] <;> simp [*]

set_option maxRecDepth 100000 in
theorem c_At (m p : Int) (L : LS) (w : World) (hL : L.OK w) : Ret Try.prog 46 [L.val, .int .i64 m, .int .i64 p] w (.tuple #[.int .i64 (AtR L.S m p).1, .int .i64 (AtR L.S m p).2]) := by
  have hlt := hL.tl
  have hlf := hL.fl
  have hls := hL.sl
  refine g_enter (args := [L.val, .int .i64 m, .int .i64 p]) Try.func46 rfl Try.ntmps46 rfl (e := [(0, _), (1, _), (2, _)]) rfl (HS.start w [] L.segs hL.segs) ?_
  refine g_seq ?_
  refine g_region ?_
  refine g_box rfl rfl (fun b1 hb1 => ?_)
  refine g_val rfl rfl rfl (fun _ _ => v_assign rfl) ?_
  refine g_val rfl rfl rfl (fun _ _ => v_assign rfl) ?_
  refine g_nil ?_
  refine g_n_then ?_
  refine g_seq ?_
  refine g_region ?_
  refine g_val rfl rfl rfl (fun w hh => v_loadAgg (vs := [_, _, _, _, _]) (Try.isAgg29 w) (Try.sizeOf29 w) rfl (hh.cells 0 rfl rfl)) ?_
  by_cases hc : check L.S = 0
  · have hG := good_of_check hc
    have hfl8 := hG.fl
    have htl12 := hG.tl
    have hsl16 := hG.sl
    refine g_callR (ι := Nat) (p := fun _ => True) (S := fun bd => [(bd, 0, L.cells ++ ints (gatesOf L.S))]) (ret := fun bd => .tuple #[ptr bd 0, .int .i64 0]) rfl rfl rfl rfl rfl rfl rfl (fun a w => Try.call102 a w) (fun w hh => c_openedR L w (hL.ext hh.toExt) hc) (fun bd _ => ?_)
    refine g_val rfl rfl rfl (fun _ _ => v_move rfl) ?_
    refine g_val rfl rfl rfl (fun _ _ => v_extract rfl rfl) ?_
    refine g_val rfl rfl rfl (fun _ _ => v_extract rfl rfl) ?_
    refine g_val rfl rfl rfl (fun _ _ => v_assign rfl) ?_
    refine g_val rfl rfl rfl (fun _ _ => v_assign rfl) ?_
    refine g_nil ?_
    refine g_n_then ?_
    refine g_seq ?_
    refine g_block ?_
    refine g_seq ?_
    refine g_region ?_
    refine g_val rfl rfl rfl (fun _ _ => v_move rfl) ?_
    refine g_val rfl rfl rfl (fun _ _ => v_neq rfl rfl) ?_
    refine g_val rfl rfl rfl (fun _ _ => v_assign rfl) ?_
    refine g_nil ?_
    refine g_n_then ?_
    refine g_condF rfl rfl ?_
    refine g_seq ?_
    refine g_region ?_
    refine g_val rfl rfl rfl (fun _ _ => v_move rfl) ?_
    refine g_val rfl rfl rfl (fun _ _ => v_move rfl) ?_
    refine g_callv rfl rfl rfl rfl rfl rfl rfl (fun a w => Try.call103 a w) (fun w hh => c_day L bd (gatesOf L.S) _ w (hL.ext hh.toExt) hG gates_length (hh.seg 0 rfl)) ?_
    refine g_val rfl rfl rfl (fun _ _ => v_not rfl) ?_
    refine g_val rfl rfl rfl (fun _ _ => v_assign rfl) ?_
    refine g_nil ?_
    refine g_n_then ?_
    refine g_cond rfl (fun hc19_1 => ?_) (fun hc19_1 => ?_)
    · replace hc19_1 := of_not_true hc19_1
      refine g_seq ?_
      refine g_region ?_
      refine g_val rfl rfl rfl (fun _ _ => v_assign rfl) ?_
      refine g_val rfl rfl rfl (fun _ _ => v_assign rfl) ?_
      refine g_nil ?_
      refine g_n_then ?_
      refine g_ret ?_
      refine g_r_blk ?_
      refine g_r_then ?_
      refine g_done rfl (fun w hh => (.tmp rfl (.tmp rfl .nil))) (fun w hh => ⟨?_, hh.toExt⟩)
      simp only [retv, AtR, stateF, *] <;> simp [*]
    · replace hc19_1 := of_not_false hc19_1
      refine g_seq ?_
      refine g_region ?_
      refine g_val rfl rfl rfl (fun _ _ => v_move rfl) ?_
      refine g_val rfl rfl rfl (fun _ _ => v_nilCheck rfl) ?_
      refine g_val rfl rfl rfl (fun w _ => v_fieldAddr 0 (Try.runUnderlying157 w) rfl (Try.sizeOf29 w) rfl) ?_
      refine g_val rfl rfl rfl (fun w hh => v_loadAgg (vs := [_, _, _, _, _]) (Try.isAgg29 w) (Try.sizeOf29 w) rfl (hh.rcells 0 0 rfl rfl)) ?_
      refine g_val rfl rfl rfl (fun _ _ => v_move rfl) ?_
      refine g_callv rfl rfl rfl rfl rfl rfl rfl (fun a w => Try.call89 a w) (fun w hh => c_place _ L w (hL.ext hh.toExt)) ?_
      refine g_val rfl rfl rfl (fun _ _ => v_not rfl) ?_
      refine g_val rfl rfl rfl (fun _ _ => v_assign rfl) ?_
      refine g_nil ?_
      refine g_n_then ?_
      refine g_cond rfl (fun hc24_2 => ?_) (fun hc24_2 => ?_)
      · replace hc24_2 := of_not_true hc24_2
        have hc24_2 := hc24_2
        refine g_seq ?_
        refine g_region ?_
        refine g_val rfl rfl rfl (fun _ _ => v_assign rfl) ?_
        refine g_val rfl rfl rfl (fun _ _ => v_assign rfl) ?_
        refine g_nil ?_
        refine g_n_then ?_
        refine g_ret ?_
        refine g_r_blk ?_
        refine g_r_then ?_
        refine g_done rfl (fun w hh => (.tmp rfl (.tmp rfl .nil))) (fun w hh => ⟨?_, hh.toExt⟩)
        simp only [retv, AtR, stateF, *] <;> simp [*]
      · replace hc24_2 := of_not_false hc24_2
        have hpl := isPlace_iff.1 hc24_2
        refine g_skip ?_
        refine g_n_blk ?_
        refine g_n_then ?_
        refine g_seq ?_
        refine g_region ?_
        refine g_val rfl rfl rfl (fun _ _ => v_move rfl) ?_
        refine g_val rfl rfl rfl (fun _ _ => v_move rfl) ?_
        refine g_val rfl rfl rfl (fun _ _ => v_move rfl) ?_
        refine g_callv rfl rfl rfl rfl rfl rfl rfl (fun a w => Try.call104 a w) (fun w hh => c_at L bd (gatesOf L.S) _ _ w (hL.ext hh.toExt) hG gates_length (hh.seg 0 rfl) (by assumption) (by omega)) ?_
        refine g_val rfl rfl rfl (fun _ _ => v_assign rfl) ?_
        refine g_val rfl rfl rfl (fun _ _ => v_assign rfl) ?_
        refine g_nil ?_
        refine g_n_then ?_
        refine g_ret ?_
        refine g_done rfl (fun w hh => (.tmp rfl (.tmp rfl .nil))) (fun w hh => ⟨?_, hh.toExt⟩)
        simp only [retv, AtR, stateF, *] <;> simp [*]
  · refine g_callv rfl rfl rfl rfl rfl rfl rfl (fun a w => Try.call102 a w) (fun w hh => c_openedE L w (hL.ext hh.toExt) hc) ?_
    refine g_val rfl rfl rfl (fun _ _ => v_move rfl) ?_
    refine g_val rfl rfl rfl (fun _ _ => v_extract rfl rfl) ?_
    refine g_val rfl rfl rfl (fun _ _ => v_extract rfl rfl) ?_
    refine g_val rfl rfl rfl (fun _ _ => v_assign rfl) ?_
    refine g_val rfl rfl rfl (fun _ _ => v_assign rfl) ?_
    refine g_nil ?_
    refine g_n_then ?_
    refine g_seq ?_
    refine g_block ?_
    refine g_seq ?_
    refine g_region ?_
    refine g_val rfl rfl rfl (fun _ _ => v_move rfl) ?_
    refine g_val rfl rfl rfl (fun _ _ => v_neq rfl rfl) ?_
    refine g_val rfl rfl rfl (fun _ _ => v_assign rfl) ?_
    refine g_nil ?_
    refine g_n_then ?_
    refine g_condT rfl (neP hc) ?_
    refine g_seq ?_
    refine g_region ?_
    refine g_val rfl rfl rfl (fun _ _ => v_move rfl) ?_
    refine g_val rfl rfl rfl (fun _ _ => v_assign rfl) ?_
    refine g_val rfl rfl rfl (fun _ _ => v_assign rfl) ?_
    refine g_nil ?_
    refine g_n_then ?_
    refine g_ret ?_
    refine g_r_blk ?_
    refine g_r_then ?_
    refine g_done rfl (fun w hh => (.tmp rfl (.tmp rfl .nil))) (fun w hh => ⟨?_, hh.toExt⟩)
    simp only [retv, AtR, stateF, *] <;> simp [*]

end Go.Proofs

-- plain: looks
namespace Go.Pl
def statesN (s : Sands) (m : Int) (k : Nat) : List Int := (List.range k).map (fun p => stateF s m (p : Nat))
theorem AllR_states {s : Sands} {m : Int} (hc : check s = 0) (hd : dayF s m = true) : AllR s m = (statesN s m s.floors.length, 0) := by simp [AllR, hc, hd, statesN]
def lookE (s : Sands) : List Look → Int
  | [] => 0
  | l :: r => if dayF s l.min = false then 3 else if isPlace s l.place = false then 1 else lookE s r
def lookedE (s : Sands) (l : List Look) : Int := if check s ≠ 0 then check s else if 10 < l.length then 2 else lookE s l
def mostG (s : Sands) (g : List Int) (l : Look) : Int := if g.getD l.place.toNat 0 = 1000 then 50 else g.getD l.place.toNat 0 - heightF s l.min
def leftStep (s : Sands) (g : List Int) (o : Span) (l : Look) : Span := if l.wet = true then ⟨max o.lo (mostG s g l + 1), o.hi⟩ else ⟨o.lo, min o.hi (mostG s g l)⟩
def leftG (s : Sands) (g : List Int) (l : List Look) : Span := l.foldl (leftStep s g) s.wind
def LooksR (s : Sands) (l : List Look) : Span × Int := if lookedE s l ≠ 0 then (⟨0, 0⟩, lookedE s l) else if (leftG s (gatesOf s) l).hi < (leftG s (gatesOf s) l).lo then (⟨0, 0⟩, 7) else (leftG s (gatesOf s) l, 0)
def lookOK (s : Sands) (l : Look) : Prop := dayF s l.min = true ∧ isPlace s l.place = true
theorem lookE_of {s : Sands} : ∀ {l : List Look} {k : Nat} {v : Int}, k < l.length → (∀ i, i < k → lookOK s (l.getD i default)) → (lookE s ((l.getD k default) :: l.drop (k + 1)) = v) → lookE s l = v
  | [], _, _, h, _, _ => by simp at h
  | x :: l, 0, v, _, _, h => by simpa using h
  | x :: l, k + 1, v, hk, hi, h => by
    have h0 := hi 0 (by omega)
    have := lookE_of (s := s) (l := l) (k := k) (v := v) (by simpa using hk) (fun i h => by simpa using hi (i + 1) (by omega)) (by simpa using h)
    simp only [List.getD_cons_zero] at h0
    simp only [lookE, h0.1, h0.2]
    simpa using this
theorem lookE_ok {s : Sands} : ∀ {l : List Look}, (∀ i, i < l.length → lookOK s (l.getD i default)) → lookE s l = 0
  | [], _ => rfl
  | x :: l, h => by
    have h0 := h 0 (by simp)
    have := lookE_ok (s := s) (l := l) (fun i hi => by simpa using h (i + 1) (by simpa using hi))
    simp only [List.getD_cons_zero] at h0
    simp only [lookE, h0.1, h0.2]
    simpa using this
theorem lookE_all {s : Sands} : ∀ {l : List Look}, lookE s l = 0 → ∀ i, i < l.length → lookOK s (l.getD i default)
  | [], _, i, h => by simp at h
  | x :: l, h, i, hi => by
    unfold lookE at h
    split at h
    · exact absurd h (by decide)
    · split at h
      · exact absurd h (by decide)
      · rename_i h1 h2
        cases i with
        | zero => exact ⟨by simpa using h1, by simpa using h2⟩
        | succ i => simpa using lookE_all h i (by simpa using hi)
theorem gatedE_zero {s : Sands} {p : Int} (h : gatedE s p = 0) : check s = 0 ∧ isPlace s p = true ∧ (gatesOf s).getD p.toNat 0 ≠ 1000 := by
  unfold gatedE at h
  split at h
  · rename_i h1; exact absurd h h1
  · split at h
    · exact absurd h (by decide)
    · split at h
      · exact absurd h (by decide)
      · rename_i h1 h2 h3
        exact ⟨by simpa using h1, by simpa using h2, h3⟩
theorem lookedE_zero {s : Sands} {l : List Look} (h : lookedE s l = 0) : check s = 0 ∧ l.length ≤ 10 ∧ lookE s l = 0 := by
  unfold lookedE at h
  split at h
  · rename_i h1; exact absurd h h1
  · split at h
    · exact absurd h (by decide)
    · rename_i h1 h2
      exact ⟨by simpa using h1, by omega, h⟩
theorem most_bd {s : Sands} {g : List Int} {l : Look} (hG : Good s) (hg : OKg g) (hd : dayF s l.min = true) : -2000000 ≤ mostG s g l ∧ mostG s g l ≤ 2000000 := by
  have h1 := height_bd hG hd
  have h2 := hg.lo l.place.toNat
  have h3 := hg.hi l.place.toNat
  unfold mostG
  split <;> omega
def leftN (s : Sands) (g : List Int) (l : List Look) (k : Nat) : Span := (l.take k).foldl (leftStep s g) s.wind
theorem leftN_succ {s : Sands} {g : List Int} {l : List Look} {k : Nat} (h : k < l.length) : leftN s g l (k + 1) = leftStep s g (leftN s g l k) (l.getD k default) := take_foldl h
theorem leftN_all {s : Sands} {g : List Int} {l : List Look} : leftN s g l l.length = leftG s g l := by simp [leftN, leftG]
theorem lookedE_look {s : Sands} {l : List Look} (hc : check s = 0) (hl : ¬ 10 < l.length) : lookedE s l = lookE s l := by
  unfold lookedE
  rw [if_neg (by simp [hc]), if_neg hl]
end Go.Pl

-- plain: spans
namespace Go.Pl
structure SpanSt where
  acc : List Span
  fr : Int
  op : Bool
def shutF (x : SpanSt) (m : Int) : SpanSt := match x.op with
  | true => ⟨x.acc ++ [⟨x.fr, m - 1⟩], x.fr, false⟩
  | false => ⟨x.acc, x.fr, false⟩
def spanStep (p : Int → Bool) (x : SpanSt) (m : Int) : SpanSt := match p m with
  | false => shutF x m
  | true => match x.op with
    | false => ⟨x.acc, m, true⟩
    | true => x
def spansN (p : Int → Bool) (a : Int) (k : Nat) : SpanSt := (List.range k).foldl (fun x i => spanStep p x (a + (i : Nat))) ⟨[], 0, false⟩
theorem spansN_succ {p : Int → Bool} {a : Int} {k : Nat} : spansN p a (k + 1) = spanStep p (spansN p a k) (a + k) := by
  unfold spansN
  rw [List.range_succ, List.foldl_append]
  rfl
def dayN (s : Sands) : Nat := (lastM s - firstM s + 1).toNat
def spansF (s : Sands) (p : Int → Bool) : List Span := (shutF (spansN p (firstM s) (dayN s)) (lastM s + 1)).acc
def spansE (s : Sands) (p st : Int) : Int := if check s ≠ 0 then check s else if isPlace s p = false then 1 else if inr st 0 2 = false then 8 else 0
def isState (s : Sands) (p st : Int) (m : Int) : Bool := decide (stateF s m p = st)
def SpansR (s : Sands) (p st : Int) : List Span × Int := if spansE s p st ≠ 0 then ([], spansE s p st) else (spansF s (isState s p st), 0)
def TurnR (s : Sands) (p m : Int) : Int × Int :=
  if spansE s p 0 ≠ 0 then (0, spansE s p 0) else if dayF s m = false then (0, 3) else
  if idxf (fun x => inr m x.lo x.hi) (spansF s (isState s p 0)) < 0 then (0, 6) else (((spansF s (isState s p 0)).getD (idxf (fun x => inr m x.lo x.hi) (spansF s (isState s p 0))).toNat default).hi, 0)
theorem spansE_zero {s : Sands} {p st : Int} (h : spansE s p st = 0) : check s = 0 ∧ isPlace s p = true ∧ inr st 0 2 = true := by
  unfold spansE at h
  split at h
  · rename_i h1; exact absurd h h1
  · split at h
    · exact absurd h (by decide)
    · split at h
      · exact absurd h (by decide)
      · rename_i h1 h2 h3
        exact ⟨by simpa using h1, by simpa using h2, by simpa using h3⟩
theorem day_span {s : Sands} (hG : Good s) : 0 ≤ firstM s ∧ firstM s < lastM s ∧ lastM s ≤ 1440 := by
  have h2 := hG.tl
  have h3 := hG.tab 0 (by omega)
  have h4 := hG.tab (s.table.length - 1) (by omega)
  have h5 := min_mono hG (i := 0) (j := s.table.length - 1) (by omega) (by omega)
  unfold firstM lastM
  omega
theorem dayN_eq {s : Sands} (hG : Good s) : (dayN s : Int) = lastM s - firstM s + 1 ∧ dayN s ≤ 1441 := by
  have := day_span hG
  unfold dayN
  omega
theorem day_of {s : Sands} {m : Int} (h : firstM s ≤ m ∧ m ≤ lastM s) : dayF s m = true := inr_iff.2 h
theorem shut_len {x : SpanSt} {m : Int} : (shutF x m).acc.length ≤ x.acc.length + 1 := by
  unfold shutF; split <;> simp
theorem step_len {p : Int → Bool} {x : SpanSt} {m : Int} : (spanStep p x m).acc.length ≤ x.acc.length + 1 := by
  unfold spanStep
  split
  · exact shut_len
  · split <;> simp
theorem spansN_len {p : Int → Bool} {a : Int} : ∀ {k : Nat}, (spansN p a k).acc.length ≤ k := by
  intro k
  induction k with
  | zero => simp [spansN]
  | succ k ih => rw [spansN_succ]; have := step_len (p := p) (x := spansN p a k) (m := a + k); omega
theorem spansF_len {s : Sands} {p : Int → Bool} (hG : Good s) : (spansF s p).length ≤ 1442 := by
  have h1 := (dayN_eq hG).2
  have h2 := spansN_len (p := p) (a := firstM s) (k := dayN s)
  have h3 := shut_len (x := spansN p (firstM s) (dayN s)) (m := lastM s + 1)
  unfold spansF
  omega
theorem stepF {p : Int → Bool} {x : SpanSt} {m : Int} (h : p m = false) : spanStep p x m = shutF x m := by unfold spanStep; rw [h]
theorem stepTF {p : Int → Bool} {x : SpanSt} {m : Int} (h : p m = true) (h2 : x.op = false) : spanStep p x m = ⟨x.acc, m, true⟩ := by unfold spanStep; rw [h]; simp only; rw [h2]
theorem stepTT {p : Int → Bool} {x : SpanSt} {m : Int} (h : p m = true) (h2 : x.op = true) : spanStep p x m = x := by unfold spanStep; rw [h]; simp only; rw [h2]
end Go.Pl

namespace Go.Proofs
open Go Go.Fw Go.Pl
theorem ints_snoc {l : List Int} {v : Int} : ints l ++ [.int .i64 v] = ints (l ++ [v]) := by simp [ints]
theorem statesN_snoc {s : Sands} {m : Int} {k : Nat} : ints (statesN s m k) ++ [.int .i64 (stateG s ((gatesOf s).getD (k : Int).toNat 0) m)] = ints (statesN s m (k + 1)) := by
  rw [ints_snoc]; simp [statesN, List.range_succ, stateF]
theorem statesN_length {s : Sands} {m : Int} {k : Nat} : (statesN s m k).length = k := by simp [statesN]
structure SlOK (q : Option (Nat × Nat)) (len cap : Nat) : Prop where
  ne : 0 < len → q ≠ none
  le : len ≤ cap
theorem _root_.Go.Fw.VOK.sl {sz len cap : Nat} {xs sp : List Value} {q : Option (Nat × Nat)} (h : VOK sz len cap xs sp q) : SlOK q len cap := ⟨fun h0 hq => by have := (h.hnone hq).1; omega, h.hle⟩
theorem SlOK.nil : SlOK none 0 0 := ⟨by simp, by simp⟩
end Go.Proofs
namespace Go.Proofs
open Go Go.Fw Go.Pl
theorem flat_snoc {α : Type} {enc : α → List Value} {l : List α} {x : α} : flat enc l ++ enc x = flat enc (l ++ [x]) := by simp [flat]
theorem perm_call {α : Type} {A B V : List α} : ((B ++ A) ++ (V ++ [])).Perm (B ++ (V ++ A)) := by
  rw [List.append_nil, List.append_assoc]; exact List.Perm.append_left B List.perm_append_comm
theorem vok_len {n cap sz : Nat} {sp : List Value} {q : Option (Nat × Nat)} {α : Type} {enc : α → List Value} {l : List α} (hs : ∀ x, (enc x).length = sz) (h0 : 0 < sz) (h : VOK sz n cap (flat enc l) sp q) : l.length = n := by
  have := h.hlen
  rw [flat_length hs] at this
  exact Nat.eq_of_mul_eq_mul_right h0 this
end Go.Proofs

namespace Go.Proofs
open Go Go.Fw Go.Pl
set_option maxRecDepth 100000 in
theorem inf46 : (Try.prog.info? 46).map (fun i => (i.zero, i.size, i.bytes)) = some (some (.int .i64 0), 1, 8) := by kernel_rfl
set_option maxRecDepth 100000 in
theorem c_gatedR (p : Int) (L : LS) (w : World) (hL : L.OK w) (h : gatedE L.S p = 0) : Calls Try.prog 106 #[L.val, .int .i64 p] w (fun en w' => ∃ bd : Nat, en = .returned (.tuple #[ptr bd 0, .int .i64 0]) ∧ True ∧ News w w' [(bd, 0, L.cells ++ ints (gatesOf L.S))]) := by
  have hlt := hL.tl
  have hlf := hL.fl
  have hls := hL.sl
  refine g_enter (args := [L.val, .int .i64 p]) Try.func106 rfl Try.ntmps106 rfl (e := [(0, _), (1, _)]) rfl (HS.start w [] L.segs hL.segs) ?_
  refine g_seq ?_
  refine g_region ?_
  refine g_box rfl rfl (fun b1 hb1 => ?_)
  refine g_val rfl rfl rfl (fun _ _ => v_assign rfl) ?_
  refine g_val rfl rfl rfl (fun _ _ => v_assign rfl) ?_
  refine g_nil ?_
  refine g_n_then ?_
  refine g_seq ?_
  refine g_region ?_
  refine g_val rfl rfl rfl (fun w hh => v_loadAgg (vs := [_, _, _, _, _]) (Try.isAgg29 w) (Try.sizeOf29 w) rfl (hh.cells 0 rfl rfl)) ?_
  by_cases hc : check L.S = 0
  · have hG := good_of_check hc
    have hfl8 := hG.fl
    have htl12 := hG.tl
    have hsl16 := hG.sl
    refine g_callR (ι := Nat) (p := fun bd => w.heap.size ≤ bd) (S := fun bd => [(bd, 0, L.cells ++ ints (gatesOf L.S))]) (ret := fun bd => .tuple #[ptr bd 0, .int .i64 0]) rfl rfl rfl rfl rfl rfl rfl (fun a w => Try.call102 a w) (fun w1 hh => (c_openedR L w1 (hL.ext hh.toExt) hc).mono (by rintro en w' ⟨bd, rfl, _, hN⟩; exact ⟨bd, rfl, Nat.le_trans hh.size (hN.new _ List.mem_cons_self (by simp [LS.cells])), hN⟩)) (fun bd hbdn => ?_)
    refine g_val rfl rfl rfl (fun _ _ => v_move rfl) ?_
    refine g_val rfl rfl rfl (fun _ _ => v_extract rfl rfl) ?_
    refine g_val rfl rfl rfl (fun _ _ => v_extract rfl rfl) ?_
    refine g_val rfl rfl rfl (fun _ _ => v_assign rfl) ?_
    refine g_val rfl rfl rfl (fun _ _ => v_assign rfl) ?_
    refine g_nil ?_
    refine g_n_then ?_
    refine g_seq ?_
    refine g_block ?_
    refine g_seq ?_
    refine g_region ?_
    refine g_val rfl rfl rfl (fun _ _ => v_move rfl) ?_
    refine g_val rfl rfl rfl (fun _ _ => v_neq rfl rfl) ?_
    refine g_val rfl rfl rfl (fun _ _ => v_assign rfl) ?_
    refine g_nil ?_
    refine g_n_then ?_
    refine g_condF rfl rfl ?_
    refine g_seq ?_
    refine g_region ?_
    refine g_val rfl rfl rfl (fun _ _ => v_move rfl) ?_
    refine g_val rfl rfl rfl (fun _ _ => v_nilCheck rfl) ?_
    refine g_val rfl rfl rfl (fun w _ => v_fieldAddr 0 (Try.runUnderlying157 w) rfl (Try.sizeOf29 w) rfl) ?_
    refine g_val rfl rfl rfl (fun w hh => v_loadAgg (vs := [_, _, _, _, _]) (Try.isAgg29 w) (Try.sizeOf29 w) rfl (hh.rcells 0 0 rfl rfl)) ?_
    refine g_val rfl rfl rfl (fun _ _ => v_move rfl) ?_
    refine g_callv rfl rfl rfl rfl rfl rfl rfl (fun a w => Try.call89 a w) (fun w hh => c_place _ L w (hL.ext hh.toExt)) ?_
    refine g_val rfl rfl rfl (fun _ _ => v_not rfl) ?_
    refine g_val rfl rfl rfl (fun _ _ => v_assign rfl) ?_
    refine g_nil ?_
    refine g_n_then ?_
    refine g_cond rfl (fun hc17_1 => ?_) (fun hc17_1 => ?_)
    · replace hc17_1 := of_not_true hc17_1
      have hc17_1 := hc17_1
      refine g_seq ?_
      refine g_region ?_
      refine g_val rfl rfl rfl (fun _ _ => v_assign rfl) ?_
      refine g_val rfl rfl rfl (fun _ _ => v_assign rfl) ?_
      refine g_nil ?_
      refine g_n_then ?_
      refine g_ret ?_
      refine g_r_blk ?_
      refine g_r_then ?_
      exact absurd h (by simp only [gatedE, *, ne_eq, not_true_eq_false, not_false_eq_true, if_false, if_true, reduceIte] <;> simp)
    · replace hc17_1 := of_not_false hc17_1
      have hpl := isPlace_iff.1 hc17_1
      refine g_seq ?_
      refine g_region ?_
      refine g_val rfl rfl rfl (fun _ _ => v_move rfl) ?_
      refine g_val rfl rfl rfl (fun _ _ => v_move rfl) ?_
      refine g_val rfl rfl rfl (fun _ _ => v_nilCheck rfl) ?_
      refine g_val rfl rfl rfl (fun w _ => v_fieldAddr 5 (Try.runUnderlying157 w) rfl (Try.sizeOf155 w) rfl) ?_
      refine g_val rfl rfl rfl (fun w _ => v_arrI1 (Try.runUnderlying155 w) (Try.sizeOf3 w) rfl rfl (by omega) (by omega)) ?_
      refine g_val rfl rfl rfl (fun w hh => v_load (Try.isAgg3 w) rfl (hh.rgate 0 rfl (by rw [gates_length]; omega))) ?_
      refine g_val rfl rfl rfl (fun _ _ => v_eql rfl rfl) ?_
      refine g_val rfl rfl rfl (fun _ _ => v_assign rfl) ?_
      refine g_nil ?_
      refine g_n_then ?_
      refine g_cond rfl (fun hc25_2 => ?_) (fun hc25_2 => ?_)
      · replace hc25_2 := of_decide_eq_true hc25_2
        refine g_seq ?_
        refine g_region ?_
        refine g_val rfl rfl rfl (fun _ _ => v_assign rfl) ?_
        refine g_val rfl rfl rfl (fun _ _ => v_assign rfl) ?_
        refine g_nil ?_
        refine g_n_then ?_
        refine g_ret ?_
        refine g_r_blk ?_
        refine g_r_then ?_
        exact absurd h (by simp only [gatedE, *, ne_eq, not_true_eq_false, not_false_eq_true, if_false, if_true, reduceIte] <;> simp)
      · replace hc25_2 := of_decide_eq_false hc25_2
        refine g_skip ?_
        refine g_n_blk ?_
        refine g_n_then ?_
        refine g_seq ?_
        refine g_region ?_
        refine g_val rfl rfl rfl (fun _ _ => v_move rfl) ?_
        refine g_val rfl rfl rfl (fun _ _ => v_assign rfl) ?_
        refine g_val rfl rfl rfl (fun _ _ => v_assign rfl) ?_
        refine g_nil ?_
        refine g_n_then ?_
        refine g_ret ?_
        refine g_done rfl (fun w hh => (.tmp rfl (.tmp rfl .nil))) (fun w hh => ⟨_, rfl, trivial, (News.nil hh.toExt).cons (hh.seg 0 rfl) (fun _ => by assumption)⟩)
  · refine g_callv rfl rfl rfl rfl rfl rfl rfl (fun a w => Try.call102 a w) (fun w hh => c_openedE L w (hL.ext hh.toExt) hc) ?_
    refine g_val rfl rfl rfl (fun _ _ => v_move rfl) ?_
    refine g_val rfl rfl rfl (fun _ _ => v_extract rfl rfl) ?_
    refine g_val rfl rfl rfl (fun _ _ => v_extract rfl rfl) ?_
    refine g_val rfl rfl rfl (fun _ _ => v_assign rfl) ?_
    refine g_val rfl rfl rfl (fun _ _ => v_assign rfl) ?_
    refine g_nil ?_
    refine g_n_then ?_
    refine g_seq ?_
    refine g_block ?_
    refine g_seq ?_
    refine g_region ?_
    refine g_val rfl rfl rfl (fun _ _ => v_move rfl) ?_
    refine g_val rfl rfl rfl (fun _ _ => v_neq rfl rfl) ?_
    refine g_val rfl rfl rfl (fun _ _ => v_assign rfl) ?_
    refine g_nil ?_
    refine g_n_then ?_
    refine g_condT rfl (neP hc) ?_
    refine g_seq ?_
    refine g_region ?_
    refine g_val rfl rfl rfl (fun _ _ => v_move rfl) ?_
    refine g_val rfl rfl rfl (fun _ _ => v_assign rfl) ?_
    refine g_val rfl rfl rfl (fun _ _ => v_assign rfl) ?_
    refine g_nil ?_
    refine g_n_then ?_
    refine g_ret ?_
    refine g_r_blk ?_
    refine g_r_then ?_
    exact absurd h (by simp only [gatedE, *, ne_eq, not_true_eq_false, not_false_eq_true, if_false, if_true, reduceIte] <;> simp)

set_option maxRecDepth 100000 in
theorem c_gatedE (p : Int) (L : LS) (w : World) (hL : L.OK w) (h : gatedE L.S p ≠ 0) : Ret Try.prog 106 [L.val, .int .i64 p] w (.tuple #[.pointer none, .int .i64 (gatedE L.S p)]) := by
  have hlt := hL.tl
  have hlf := hL.fl
  have hls := hL.sl
  refine g_enter (args := [L.val, .int .i64 p]) Try.func106 rfl Try.ntmps106 rfl (e := [(0, _), (1, _)]) rfl (HS.start w [] L.segs hL.segs) ?_
  refine g_seq ?_
  refine g_region ?_
  refine g_box rfl rfl (fun b1 hb1 => ?_)
  refine g_val rfl rfl rfl (fun _ _ => v_assign rfl) ?_
  refine g_val rfl rfl rfl (fun _ _ => v_assign rfl) ?_
  refine g_nil ?_
  refine g_n_then ?_
  refine g_seq ?_
  refine g_region ?_
  refine g_val rfl rfl rfl (fun w hh => v_loadAgg (vs := [_, _, _, _, _]) (Try.isAgg29 w) (Try.sizeOf29 w) rfl (hh.cells 0 rfl rfl)) ?_
  by_cases hc : check L.S = 0
  · have hG := good_of_check hc
    have hfl8 := hG.fl
    have htl12 := hG.tl
    have hsl16 := hG.sl
    refine g_callR (ι := Nat) (p := fun bd => w.heap.size ≤ bd) (S := fun bd => [(bd, 0, L.cells ++ ints (gatesOf L.S))]) (ret := fun bd => .tuple #[ptr bd 0, .int .i64 0]) rfl rfl rfl rfl rfl rfl rfl (fun a w => Try.call102 a w) (fun w1 hh => (c_openedR L w1 (hL.ext hh.toExt) hc).mono (by rintro en w' ⟨bd, rfl, _, hN⟩; exact ⟨bd, rfl, Nat.le_trans hh.size (hN.new _ List.mem_cons_self (by simp [LS.cells])), hN⟩)) (fun bd hbdn => ?_)
    refine g_val rfl rfl rfl (fun _ _ => v_move rfl) ?_
    refine g_val rfl rfl rfl (fun _ _ => v_extract rfl rfl) ?_
    refine g_val rfl rfl rfl (fun _ _ => v_extract rfl rfl) ?_
    refine g_val rfl rfl rfl (fun _ _ => v_assign rfl) ?_
    refine g_val rfl rfl rfl (fun _ _ => v_assign rfl) ?_
    refine g_nil ?_
    refine g_n_then ?_
    refine g_seq ?_
    refine g_block ?_
    refine g_seq ?_
    refine g_region ?_
    refine g_val rfl rfl rfl (fun _ _ => v_move rfl) ?_
    refine g_val rfl rfl rfl (fun _ _ => v_neq rfl rfl) ?_
    refine g_val rfl rfl rfl (fun _ _ => v_assign rfl) ?_
    refine g_nil ?_
    refine g_n_then ?_
    refine g_condF rfl rfl ?_
    refine g_seq ?_
    refine g_region ?_
    refine g_val rfl rfl rfl (fun _ _ => v_move rfl) ?_
    refine g_val rfl rfl rfl (fun _ _ => v_nilCheck rfl) ?_
    refine g_val rfl rfl rfl (fun w _ => v_fieldAddr 0 (Try.runUnderlying157 w) rfl (Try.sizeOf29 w) rfl) ?_
    refine g_val rfl rfl rfl (fun w hh => v_loadAgg (vs := [_, _, _, _, _]) (Try.isAgg29 w) (Try.sizeOf29 w) rfl (hh.rcells 0 0 rfl rfl)) ?_
    refine g_val rfl rfl rfl (fun _ _ => v_move rfl) ?_
    refine g_callv rfl rfl rfl rfl rfl rfl rfl (fun a w => Try.call89 a w) (fun w hh => c_place _ L w (hL.ext hh.toExt)) ?_
    refine g_val rfl rfl rfl (fun _ _ => v_not rfl) ?_
    refine g_val rfl rfl rfl (fun _ _ => v_assign rfl) ?_
    refine g_nil ?_
    refine g_n_then ?_
    refine g_cond rfl (fun hc17_1 => ?_) (fun hc17_1 => ?_)
    · replace hc17_1 := of_not_true hc17_1
      have hc17_1 := hc17_1
      refine g_seq ?_
      refine g_region ?_
      refine g_val rfl rfl rfl (fun _ _ => v_assign rfl) ?_
      refine g_val rfl rfl rfl (fun _ _ => v_assign rfl) ?_
      refine g_nil ?_
      refine g_n_then ?_
      refine g_ret ?_
      refine g_r_blk ?_
      refine g_r_then ?_
      refine g_done rfl (fun w hh => (.tmp rfl (.tmp rfl .nil))) (fun w hh => ⟨?_, hh.toExt⟩)
      simp only [retv, gatedE, *] <;> simp [*]
    · replace hc17_1 := of_not_false hc17_1
      have hpl := isPlace_iff.1 hc17_1
      refine g_seq ?_
      refine g_region ?_
      refine g_val rfl rfl rfl (fun _ _ => v_move rfl) ?_
      refine g_val rfl rfl rfl (fun _ _ => v_move rfl) ?_
      refine g_val rfl rfl rfl (fun _ _ => v_nilCheck rfl) ?_
      refine g_val rfl rfl rfl (fun w _ => v_fieldAddr 5 (Try.runUnderlying157 w) rfl (Try.sizeOf155 w) rfl) ?_
      refine g_val rfl rfl rfl (fun w _ => v_arrI1 (Try.runUnderlying155 w) (Try.sizeOf3 w) rfl rfl (by omega) (by omega)) ?_
      refine g_val rfl rfl rfl (fun w hh => v_load (Try.isAgg3 w) rfl (hh.rgate 0 rfl (by rw [gates_length]; omega))) ?_
      refine g_val rfl rfl rfl (fun _ _ => v_eql rfl rfl) ?_
      refine g_val rfl rfl rfl (fun _ _ => v_assign rfl) ?_
      refine g_nil ?_
      refine g_n_then ?_
      refine g_cond rfl (fun hc25_2 => ?_) (fun hc25_2 => ?_)
      · replace hc25_2 := of_decide_eq_true hc25_2
        refine g_seq ?_
        refine g_region ?_
        refine g_val rfl rfl rfl (fun _ _ => v_assign rfl) ?_
        refine g_val rfl rfl rfl (fun _ _ => v_assign rfl) ?_
        refine g_nil ?_
        refine g_n_then ?_
        refine g_ret ?_
        refine g_r_blk ?_
        refine g_r_then ?_
        refine g_done rfl (fun w hh => (.tmp rfl (.tmp rfl .nil))) (fun w hh => ⟨?_, hh.toExt⟩)
        simp only [retv, gatedE, *] <;> simp [*]
      · replace hc25_2 := of_decide_eq_false hc25_2
        refine g_skip ?_
        refine g_n_blk ?_
        refine g_n_then ?_
        refine g_seq ?_
        refine g_region ?_
        refine g_val rfl rfl rfl (fun _ _ => v_move rfl) ?_
        refine g_val rfl rfl rfl (fun _ _ => v_assign rfl) ?_
        refine g_val rfl rfl rfl (fun _ _ => v_assign rfl) ?_
        refine g_nil ?_
        refine g_n_then ?_
        refine g_ret ?_
        exact absurd (show gatedE L.S p = 0 by simp only [gatedE, *] <;> simp [*]) h
  · refine g_callv rfl rfl rfl rfl rfl rfl rfl (fun a w => Try.call102 a w) (fun w hh => c_openedE L w (hL.ext hh.toExt) hc) ?_
    refine g_val rfl rfl rfl (fun _ _ => v_move rfl) ?_
    refine g_val rfl rfl rfl (fun _ _ => v_extract rfl rfl) ?_
    refine g_val rfl rfl rfl (fun _ _ => v_extract rfl rfl) ?_
    refine g_val rfl rfl rfl (fun _ _ => v_assign rfl) ?_
    refine g_val rfl rfl rfl (fun _ _ => v_assign rfl) ?_
    refine g_nil ?_
    refine g_n_then ?_
    refine g_seq ?_
    refine g_block ?_
    refine g_seq ?_
    refine g_region ?_
    refine g_val rfl rfl rfl (fun _ _ => v_move rfl) ?_
    refine g_val rfl rfl rfl (fun _ _ => v_neq rfl rfl) ?_
    refine g_val rfl rfl rfl (fun _ _ => v_assign rfl) ?_
    refine g_nil ?_
    refine g_n_then ?_
    refine g_condT rfl (neP hc) ?_
    refine g_seq ?_
    refine g_region ?_
    refine g_val rfl rfl rfl (fun _ _ => v_move rfl) ?_
    refine g_val rfl rfl rfl (fun _ _ => v_assign rfl) ?_
    refine g_val rfl rfl rfl (fun _ _ => v_assign rfl) ?_
    refine g_nil ?_
    refine g_n_then ?_
    refine g_ret ?_
    refine g_r_blk ?_
    refine g_r_then ?_
    refine g_done rfl (fun w hh => (.tmp rfl (.tmp rfl .nil))) (fun w hh => ⟨?_, hh.toExt⟩)
    simp only [retv, gatedE, *] <;> simp [*]

set_option maxRecDepth 100000 in
theorem c_Gate (p : Int) (L : LS) (w : World) (hL : L.OK w) : Ret Try.prog 31 [L.val, .int .i64 p] w (.tuple #[.int .i64 (GateR L.S p).1, .int .i64 (GateR L.S p).2]) := by
  have hlt := hL.tl
  have hlf := hL.fl
  have hls := hL.sl
  refine g_enter (args := [L.val, .int .i64 p]) Try.func31 rfl Try.ntmps31 rfl (e := [(0, _), (1, _)]) rfl (HS.start w [] L.segs hL.segs) ?_
  refine g_seq ?_
  refine g_region ?_
  refine g_box rfl rfl (fun b1 hb1 => ?_)
  refine g_val rfl rfl rfl (fun _ _ => v_assign rfl) ?_
  refine g_val rfl rfl rfl (fun _ _ => v_assign rfl) ?_
  refine g_nil ?_
  refine g_n_then ?_
  refine g_seq ?_
  refine g_region ?_
  refine g_val rfl rfl rfl (fun w hh => v_loadAgg (vs := [_, _, _, _, _]) (Try.isAgg29 w) (Try.sizeOf29 w) rfl (hh.cells 0 rfl rfl)) ?_
  refine g_val rfl rfl rfl (fun _ _ => v_move rfl) ?_
  by_cases hg : gatedE L.S p = 0
  · have hc := (gatedE_zero hg).1
    have hpl := isPlace_iff.1 (gatedE_zero hg).2.1
    have hG := good_of_check hc
    have hfl8 := hG.fl
    have htl12 := hG.tl
    have hsl16 := hG.sl
    refine g_callR (ι := Nat) (p := fun _ => True) (S := fun bd => [(bd, 0, L.cells ++ ints (gatesOf L.S))]) (ret := fun bd => .tuple #[ptr bd 0, .int .i64 0]) rfl rfl rfl rfl rfl rfl rfl (fun a w => Try.call106 a w) (fun w hh => c_gatedR p L w (hL.ext hh.toExt) hg) (fun bd _ => ?_)
    refine g_val rfl rfl rfl (fun _ _ => v_move rfl) ?_
    refine g_val rfl rfl rfl (fun _ _ => v_extract rfl rfl) ?_
    refine g_val rfl rfl rfl (fun _ _ => v_extract rfl rfl) ?_
    refine g_val rfl rfl rfl (fun _ _ => v_assign rfl) ?_
    refine g_val rfl rfl rfl (fun _ _ => v_assign rfl) ?_
    refine g_nil ?_
    refine g_n_then ?_
    refine g_seq ?_
    refine g_seq ?_
    refine g_region ?_
    refine g_val rfl rfl rfl (fun _ _ => v_move rfl) ?_
    refine g_val rfl rfl rfl (fun _ _ => v_neq rfl rfl) ?_
    refine g_nil ?_
    refine g_n_then ?_
    refine g_condF rfl rfl ?_
    refine g_skip ?_
    refine g_n_then ?_
    refine g_seq ?_
    refine g_region ?_
    refine g_val rfl rfl rfl (fun _ _ => v_move rfl) ?_
    refine g_val rfl rfl rfl (fun _ _ => v_move rfl) ?_
    refine g_val rfl rfl rfl (fun _ _ => v_nilCheck rfl) ?_
    refine g_val rfl rfl rfl (fun w _ => v_fieldAddr 5 (Try.runUnderlying157 w) rfl (Try.sizeOf155 w) rfl) ?_
    refine g_val rfl rfl rfl (fun w _ => v_arrI1 (Try.runUnderlying155 w) (Try.sizeOf3 w) rfl rfl (by omega) (by omega)) ?_
    refine g_val rfl rfl rfl (fun w hh => v_load (Try.isAgg3 w) rfl (hh.rgate 0 rfl (by rw [gates_length]; omega))) ?_
    refine g_val rfl rfl rfl (fun _ _ => v_assign rfl) ?_
    refine g_val rfl rfl rfl (fun _ _ => v_assign rfl) ?_
    refine g_nil ?_
    refine g_n_then ?_
    refine g_ret ?_
    refine g_done rfl (fun w hh => (.tmp rfl (.tmp rfl .nil))) (fun w hh => ⟨?_, hh.toExt⟩)
    simp only [retv, GateR, *] <;> simp [*]
  · refine g_callv rfl rfl rfl rfl rfl rfl rfl (fun a w => Try.call106 a w) (fun w hh => c_gatedE p L w (hL.ext hh.toExt) hg) ?_
    refine g_val rfl rfl rfl (fun _ _ => v_move rfl) ?_
    refine g_val rfl rfl rfl (fun _ _ => v_extract rfl rfl) ?_
    refine g_val rfl rfl rfl (fun _ _ => v_extract rfl rfl) ?_
    refine g_val rfl rfl rfl (fun _ _ => v_assign rfl) ?_
    refine g_val rfl rfl rfl (fun _ _ => v_assign rfl) ?_
    refine g_nil ?_
    refine g_n_then ?_
    refine g_seq ?_
    refine g_seq ?_
    refine g_region ?_
    refine g_val rfl rfl rfl (fun _ _ => v_move rfl) ?_
    refine g_val rfl rfl rfl (fun _ _ => v_neq rfl rfl) ?_
    refine g_nil ?_
    refine g_n_then ?_
    refine g_condT rfl (neP hg) ?_
    refine g_seq ?_
    refine g_region ?_
    refine g_val rfl rfl rfl (fun _ _ => v_move rfl) ?_
    refine g_val rfl rfl rfl (fun _ _ => v_assign rfl) ?_
    refine g_val rfl rfl rfl (fun _ _ => v_assign rfl) ?_
    refine g_nil ?_
    refine g_n_then ?_
    refine g_ret ?_
    refine g_r_then ?_
    refine g_done rfl (fun w hh => (.tmp rfl (.tmp rfl .nil))) (fun w hh => ⟨?_, hh.toExt⟩)
    simp only [retv, GateR, *] <;> simp [*]

set_option maxRecDepth 100000 in
theorem c_All (m : Int) (L : LS) (w : World) (hL : L.OK w) : Calls Try.prog 28 #[L.val, .int .i64 m] w (fun en w' => ∃ q cap, en = .returned (.tuple #[slv q (AllR L.S m).1.length cap, .int .i64 (AllR L.S m).2]) ∧ SlOK q (AllR L.S m).1.length cap ∧ News w w' [(bk q, off q, ints (AllR L.S m).1)]) := by
  have hlt := hL.tl
  have hlf := hL.fl
  have hls := hL.sl
  refine g_enter (args := [L.val, .int .i64 m]) Try.func28 rfl Try.ntmps28 rfl (e := [(0, _), (1, _)]) rfl (HS.start w [] L.segs hL.segs) ?_
  refine g_seq ?_
  refine g_region ?_
  refine g_box rfl rfl (fun b1 hb1 => ?_)
  refine g_val rfl rfl rfl (fun _ _ => v_nilSlice rfl rfl) ?_
  refine g_val rfl rfl rfl (fun _ _ => v_assign rfl) ?_
  refine g_nil ?_
  refine g_n_then ?_
  refine g_seq ?_
  refine g_region ?_
  refine g_val rfl rfl rfl (fun w hh => v_loadAgg (vs := [_, _, _, _, _]) (Try.isAgg29 w) (Try.sizeOf29 w) rfl (hh.cells 0 rfl rfl)) ?_
  by_cases hc : check L.S = 0
  · have hG := good_of_check hc
    have hfl8 := hG.fl
    have htl12 := hG.tl
    have hsl16 := hG.sl
    refine g_callR (ι := Nat) (p := fun _ => True) (S := fun bd => [(bd, 0, L.cells ++ ints (gatesOf L.S))]) (ret := fun bd => .tuple #[ptr bd 0, .int .i64 0]) rfl rfl rfl rfl rfl rfl rfl (fun a w => Try.call102 a w) (fun w hh => c_openedR L w (hL.ext hh.toExt) hc) (fun bd _ => ?_)
    refine g_val rfl rfl rfl (fun _ _ => v_move rfl) ?_
    refine g_val rfl rfl rfl (fun _ _ => v_extract rfl rfl) ?_
    refine g_val rfl rfl rfl (fun _ _ => v_extract rfl rfl) ?_
    refine g_val rfl rfl rfl (fun _ _ => v_assign rfl) ?_
    refine g_val rfl rfl rfl (fun _ _ => v_assign rfl) ?_
    refine g_nil ?_
    refine g_n_then ?_
    refine g_seq ?_
    refine g_block ?_
    refine g_seq ?_
    refine g_region ?_
    refine g_val rfl rfl rfl (fun _ _ => v_move rfl) ?_
    refine g_val rfl rfl rfl (fun _ _ => v_neq rfl rfl) ?_
    refine g_val rfl rfl rfl (fun _ _ => v_assign rfl) ?_
    refine g_nil ?_
    refine g_n_then ?_
    refine g_condF rfl rfl ?_
    refine g_seq ?_
    refine g_region ?_
    refine g_val rfl rfl rfl (fun _ _ => v_move rfl) ?_
    refine g_val rfl rfl rfl (fun _ _ => v_move rfl) ?_
    refine g_callv rfl rfl rfl rfl rfl rfl rfl (fun a w => Try.call103 a w) (fun w hh => c_day L bd (gatesOf L.S) _ w (hL.ext hh.toExt) hG gates_length (hh.seg 0 rfl)) ?_
    refine g_val rfl rfl rfl (fun _ _ => v_not rfl) ?_
    refine g_val rfl rfl rfl (fun _ _ => v_assign rfl) ?_
    refine g_nil ?_
    refine g_n_then ?_
    refine g_cond rfl (fun hc19_1 => ?_) (fun hc19_1 => ?_)
    · replace hc19_1 := of_not_true hc19_1
      refine g_seq ?_
      refine g_region ?_
      refine g_val rfl rfl rfl (fun _ _ => v_nilSlice rfl rfl) ?_
      refine g_val rfl rfl rfl (fun _ _ => v_assign rfl) ?_
      refine g_nil ?_
      refine g_n_then ?_
      refine g_ret ?_
      refine g_r_blk ?_
      refine g_r_then ?_
      refine g_done rfl (fun w hh => (.tmp rfl (.tmp rfl .nil))) (fun w hh => ?_)
      have ea : AllR L.S m = ([], 3) := by simp only [AllR, *, ne_eq, not_true_eq_false, not_false_eq_true, if_false, if_true, reduceIte]
      rw [ea]
      exact ⟨none, 0, rfl, .nil, (News.nil hh.toExt).cons segOK.nil (fun h => absurd rfl h)⟩
    · replace hc19_1 := of_not_false hc19_1
      refine g_skip ?_
      refine g_n_blk ?_
      refine g_n_then ?_
      refine g_seq ?_
      refine g_region ?_
      refine g_val rfl rfl rfl (fun _ _ => v_nilSlice rfl rfl) ?_
      refine g_nil ?_
      refine g_n_then ?_
      refine g_seq ?_
      refine g_seq ?_
      refine g_region ?_
      refine g_val rfl rfl rfl (fun w _ => v_fieldAddr 3 (Try.runUnderlying29 w) rfl (Try.sizeOf26 w) rfl) ?_
      refine g_val rfl rfl rfl (fun w hh => v_load (Try.isAgg26 w) rfl (hh.cell 0 rfl rfl)) ?_
      refine g_val rfl rfl rfl (fun w _ => v_lenS (Try.runUnderlying26 w) rfl) ?_
      refine g_val rfl rfl rfl (fun _ _ => v_move rfl) ?_
      refine g_nil ?_
      refine g_n_then ?_
      refine g_block ?_
      refine g_sub (e' := [(27, _), (8, _), (1, _), (6, _), (26, _)]) ((.cons rfl (.cons rfl (.cons rfl (.cons rfl (.cons rfl .nil)))))) ?_
      refine g_loopV (ι := Nat × List Value × Option (Nat × Nat) × Nat) (ofix := [_]) (fun (k, sp, q, cap) => [(27, .int .i64 (k : Nat)), (8, slv q k cap)]) (fun (k, sp, q, cap) => []) (fun (k, sp, q, cap) => vown 46 (ints (statesN L.S m k)) sp q ++ []) (fun (k, sp, q, cap) => k ≤ L.S.floors.length ∧ VOK 1 k cap (ints (statesN L.S m k)) sp q) (fun (k, sp, q, cap) => L.S.floors.length - k) (0, [], none, 0) (⟨Nat.zero_le _, VOK.nil⟩) ?_
      intro ⟨k, sp, q, cap⟩ hI1
      simp only at hI1
      refine g_seq ?_
      refine g_region ?_
      refine g_val rfl rfl rfl (fun _ _ => v_lss rfl rfl) ?_
      refine g_nil ?_
      refine g_n_then ?_
      refine g_seq ?_
      refine g_cond rfl (fun h28 => ?_) (fun h28 => ?_)
      · replace h28 := of_decide_eq_true h28
        refine g_skip ?_
        refine g_n_then ?_
        refine g_seq ?_
        refine g_block ?_
        refine g_seq ?_
        refine g_region ?_
        refine g_val rfl rfl rfl (fun _ _ => v_move rfl) ?_
        refine g_val rfl rfl rfl (fun _ _ => v_assign rfl) ?_
        refine g_nil ?_
        refine g_n_then ?_
        refine g_region ?_
        refine g_val rfl rfl rfl (fun _ _ => v_move rfl) ?_
        refine g_val rfl rfl rfl (fun _ _ => v_move rfl) ?_
        refine g_val rfl rfl rfl (fun _ _ => v_move rfl) ?_
        refine g_val rfl rfl rfl (fun _ _ => v_move rfl) ?_
        refine g_callv rfl rfl rfl rfl rfl rfl rfl (fun a w => Try.call104 a w) (fun w hh => c_at L bd (gatesOf L.S) _ _ w (hL.ext hh.toExt) hG gates_length (hh.seg 0 rfl) (by assumption) (by omega)) ?_
        refine g_buildSlice (vs := [(0, _)]) (cells := [_]) (fun w => Try.runUnderlying43 w) (fun w => Try.sizeOf46 w) (fun w => Try.zeroValue46 w) rfl rfl rfl rfl rfl (fun b2 hb2 => ?_)
        refine g_appendM [_, _] (news := [_]) (xs := (ints (statesN L.S m k))) (sp := sp) (q := q) Try.underlying43 inf46 rfl rfl rfl hI1.2 (by simp) (by decide) rfl (fun w hh => hh.ownSeg 0 rfl) (ones_all rfl) (by simp only [maxLen]; omega) (by omega) rfl (fun q3 cap4 sp5 hv6 => ?_)
        rw [statesN_snoc] at hv6 ⊢
        refine g_val rfl rfl rfl (fun _ _ => v_assign rfl) ?_
        refine g_nil ?_
        refine g_n_blk ?_
        refine g_n_then ?_
        refine g_region ?_
        refine g_val rfl rfl rfl (fun _ _ => v_add rfl rfl (wrap_i64 (by omega))) ?_
        refine g_val rfl rfl rfl (fun _ _ => v_move rfl) ?_
        refine g_nil ?_
        refine g_n_then ?_
        exact g_againV (pre := [_, _]) (i := ⟨k, sp, q, cap⟩) (k + 1, sp5, (some q3), cap4) [1] ((.cons rfl (.cons rfl (.cons rfl (.cons rfl (.cons rfl .nil)))))) (by decide) rfl rfl (⟨by omega, hv6⟩) (by simp only; omega)
      · replace h28 := of_decide_eq_false h28
        have ek : k = L.S.floors.length := by omega
        subst ek
        refine g_exit ?_
        refine g_x_then ?_
        refine g_x_then ?_
        refine g_x_blk ?_
        refine g_n_then ?_
        refine g_seq ?_
        refine g_region ?_
        refine g_val rfl rfl rfl (fun _ _ => v_move rfl) ?_
        refine g_val rfl rfl rfl (fun _ _ => v_assign rfl) ?_
        refine g_val rfl rfl rfl (fun _ _ => v_assign rfl) ?_
        refine g_nil ?_
        refine g_n_then ?_
        refine g_ret ?_
        have ea := AllR_states (m := m) hc (by assumption)
        refine g_done rfl (fun w hh => (.tmp rfl (.tmp rfl .nil))) (fun w hh => ?_)
        rw [ea]
        exact ⟨q, cap, by simp only [retv, statesN_length], by rw [statesN_length]; exact hI1.2.sl, hh.vec [_] hI1.2.hoff hI1.2.noneNil⟩
  · refine g_callv rfl rfl rfl rfl rfl rfl rfl (fun a w => Try.call102 a w) (fun w hh => c_openedE L w (hL.ext hh.toExt) hc) ?_
    refine g_val rfl rfl rfl (fun _ _ => v_move rfl) ?_
    refine g_val rfl rfl rfl (fun _ _ => v_extract rfl rfl) ?_
    refine g_val rfl rfl rfl (fun _ _ => v_extract rfl rfl) ?_
    refine g_val rfl rfl rfl (fun _ _ => v_assign rfl) ?_
    refine g_val rfl rfl rfl (fun _ _ => v_assign rfl) ?_
    refine g_nil ?_
    refine g_n_then ?_
    refine g_seq ?_
    refine g_block ?_
    refine g_seq ?_
    refine g_region ?_
    refine g_val rfl rfl rfl (fun _ _ => v_move rfl) ?_
    refine g_val rfl rfl rfl (fun _ _ => v_neq rfl rfl) ?_
    refine g_val rfl rfl rfl (fun _ _ => v_assign rfl) ?_
    refine g_nil ?_
    refine g_n_then ?_
    refine g_condT rfl (neP hc) ?_
    refine g_seq ?_
    refine g_region ?_
    refine g_val rfl rfl rfl (fun _ _ => v_move rfl) ?_
    refine g_val rfl rfl rfl (fun _ _ => v_nilSlice rfl rfl) ?_
    refine g_val rfl rfl rfl (fun _ _ => v_assign rfl) ?_
    refine g_nil ?_
    refine g_n_then ?_
    refine g_ret ?_
    refine g_r_blk ?_
    refine g_r_then ?_
    refine g_done rfl (fun w hh => (.tmp rfl (.tmp rfl .nil))) (fun w hh => ?_)
    have ea : AllR L.S m = ([], check L.S) := by simp only [AllR, *, ne_eq, not_true_eq_false, not_false_eq_true, if_false, if_true, reduceIte]
    rw [ea]
    exact ⟨none, 0, rfl, .nil, (News.nil hh.toExt).cons segOK.nil (fun h => absurd rfl h)⟩

end Go.Proofs

namespace Go.Proofs
open Go Go.Fw Go.Pl
set_option maxRecDepth 100000 in
theorem c_left (L : LS) (bd : Nat) (g : List Int) (lr : Option (Nat × Nat)) (lk : List Look) (lc : Nat)  (w : World) (hL : L.OK w) (hG : Good L.S) (hgl : g.length = 8) (hd : segOK w (bd, 0, L.cells ++ ints g)) (hll : lk.length ≤ 5864062014805) (hlr : 0 < lk.length → lr ≠ none) (hK : segOK w (bk lr, off lr, flat encL lk)) (hgo : OKg g) (hlk : ∀ i, i < lk.length → lookOK L.S (lk.getD i default)) : Ret Try.prog 87 [ptr bd 0, slv lr lk.length lc] w (.agg (encP (leftG L.S g lk)).toArray) := by
  have hlt := hL.tl
  have hlf := hL.fl
  have hls := hL.sl
  have hfl8 := hG.fl
  have htl12 := hG.tl
  refine g_enter (args := [ptr bd 0, slv lr lk.length lc]) Try.func87 rfl Try.ntmps87 rfl (e := [(0, _), (1, _)]) rfl (HS.start w [] ((bd, 0, L.cells ++ ints g) :: (bk lr, off lr, flat encL lk) :: L.segs) (segsC hd (segsC hK hL.segs))) ?_
  refine g_seq ?_
  refine g_region ?_
  refine g_alloc (fun w => Try.zeroValue25 w) rfl (fun b1 hb1 => ?_)
  refine g_nil ?_
  refine g_n_then ?_
  refine g_seq ?_
  refine g_region ?_
  refine g_val rfl rfl rfl (fun _ _ => v_move rfl) ?_
  refine g_val rfl rfl rfl (fun _ _ => v_nilCheck rfl) ?_
  refine g_val rfl rfl rfl (fun w _ => v_fieldAddr 0 (Try.runUnderlying157 w) rfl (Try.sizeOf29 w) rfl) ?_
  refine g_val rfl rfl rfl (fun w _ => v_fieldAddr 1 (Try.runUnderlying29 w) rfl (Try.sizeOf25 w) rfl) ?_
  refine g_val rfl rfl rfl (fun w hh => v_loadAgg (vs := [_, _]) (Try.isAgg25 w) (Try.sizeOf25 w) rfl (hh.rcells 0 1 rfl rfl)) ?_
  refine g_alloc (fun w => Try.zeroValue25 w) rfl (fun b2 hb2 => ?_)
  refine g_storeAgg (vs := #[_, _]) (own' := (_ :: _)) 0 (fun w => Try.sizeOf25 w) rfl rfl rfl rfl rfl rfl ?_
  refine g_nil ?_
  refine g_n_then ?_
  refine g_seq ?_
  refine g_seq ?_
  refine g_region ?_
  refine g_val rfl rfl rfl (fun _ _ => v_move rfl) ?_
  refine g_val rfl rfl rfl (fun w _ => v_lenS (Try.runUnderlying35 w) rfl) ?_
  refine g_val rfl rfl rfl (fun _ _ => v_move rfl) ?_
  refine g_nil ?_
  refine g_n_then ?_
  refine g_block ?_
  refine g_sub (e' := [(16, _), (0, _), (4, _), (5, _), (14, _), (15, _)]) ((.cons rfl (.cons rfl (.cons rfl (.cons rfl (.cons rfl (.cons rfl .nil))))))) ?_
  refine g_loopM (ι := Nat × Span) (fun (k, o) => [(16, .int .i64 (k : Nat))]) (fun (k, o) => [(b2, .cells #[.int .i64 o.lo, .int .i64 o.hi] 25 (0, 0))]) (fun (k, o) => k ≤ lk.length ∧ o = leftN L.S g lk k) (fun (k, o) => lk.length - k) (0, L.S.wind) (⟨Nat.zero_le _, rfl⟩) ?_
  intro ⟨k, o⟩ hI0
  simp only at hI0
  refine g_seq ?_
  refine g_region ?_
  refine g_val rfl rfl rfl (fun _ _ => v_lss rfl rfl) ?_
  refine g_nil ?_
  refine g_n_then ?_
  refine g_seq ?_
  refine g_cond rfl (fun h17 => ?_) (fun h17 => ?_)
  · replace h17 := of_decide_eq_true h17
    have hok := hlk k (by omega)
    have hday := hok.1
    have hpl := isPlace_iff.1 hok.2
    have hmb := most_bd hG hgo hday
    have hhb := height_bd hG hday
    have hgb1 := hgo.lo (lk.getD k default).place.toNat
    have hgb2 := hgo.hi (lk.getD k default).place.toNat
    refine g_skip ?_
    refine g_n_then ?_
    refine g_seq ?_
    refine g_block ?_
    refine g_seq ?_
    refine g_region ?_
    refine g_val rfl rfl rfl (fun w _ => v_indexAddr k (Try.runUnderlying35 w) (Try.sizeOf89 w) rfl rfl rfl (by omega) (hlr (by omega))) ?_
    refine g_val rfl rfl rfl (fun w hh => v_loadAgg (vs := encL _) (Try.isAgg89 w) (Try.sizeOf89 w) rfl (hh.elem (j := k) encL_len 1 rfl (by omega))) ?_
    refine g_alloc (fun w => Try.zeroValue89 w) rfl (fun b3 hb3 => ?_)
    refine g_storeAgg (vs := #[_, _, _]) (own' := (_ :: _)) 0 (fun w => Try.sizeOf89 w) rfl rfl rfl rfl rfl rfl ?_
    refine g_nil ?_
    refine g_n_then ?_
    refine g_seq ?_
    refine g_draw none (.free 0 (.free 1 (.hoist 2 (.free 3 (.free 4 (.hoist 5 (.hoist 6 (.free 7 (.free 8 (.hoist 9 (.one 10 (.free 11 (.free 12 .done))))))))))))) _ rfl (by decide +kernel) (fun w k hh => hh.draw k) (fun w hh => hh) ?_
    refine p_free rfl rfl rfl rfl (fun _ _ => v_move rfl) ?_
    refine p_free rfl rfl rfl rfl (fun w _ => v_fieldAddr 1 (Try.runUnderlying89 w) rfl (Try.sizeOf3 w) rfl) ?_
    refine p_hoist rfl rfl rfl rfl (fun w hh => v_load (Try.isAgg3 w) rfl (hh.cell 0 rfl rfl)) ?_
    refine p_free rfl rfl rfl rfl (fun _ _ => v_nilCheck rfl) ?_
    refine p_free rfl rfl rfl rfl (fun w _ => v_fieldAddr 5 (Try.runUnderlying157 w) rfl (Try.sizeOf155 w) rfl) ?_
    refine p_hoist rfl rfl rfl rfl (fun w _ => v_arrI1 (Try.runUnderlying155 w) (Try.sizeOf3 w) rfl rfl (by omega) (by omega)) ?_
    refine p_hoist rfl rfl rfl rfl (fun w hh => v_load (Try.isAgg3 w) rfl (hh.rgate 0 rfl (by omega))) ?_
    refine p_free rfl rfl rfl rfl (fun _ _ => v_move rfl) ?_
    refine p_free rfl rfl rfl rfl (fun w _ => v_fieldAddr 0 (Try.runUnderlying89 w) rfl (Try.sizeOf3 w) rfl) ?_
    refine p_hoist rfl rfl rfl rfl (fun w hh => v_load (Try.isAgg3 w) rfl (hh.cell 0 rfl rfl)) ?_
    refine p_one rfl ?_
    refine g_callv rfl rfl rfl rfl rfl rfl rfl (fun a w => Try.call110 a w) (fun w hh => c_height L bd g _ w (hL.ext hh.toExt) hG hgl (hh.seg 0 rfl) (by assumption)) ?_
    refine p_next (fun w hh => hh) ?_
    refine p_free rfl rfl rfl rfl (fun _ _ => v_sub rfl rfl (wrap_i64 (by omega))) ?_
    refine p_free rfl rfl rfl rfl (fun _ _ => v_assign rfl) ?_
    refine p_done ?_
    refine g_n_then ?_
    refine g_seq ?_
    refine g_seq ?_
    refine g_draw none (.free 0 (.free 1 (.hoist 2 (.free 3 (.free 4 (.hoist 5 (.hoist 6 (.free 7 .done)))))))) _ rfl (by decide +kernel) (fun w k hh => hh.draw k) (fun w hh => hh) ?_
    refine p_free rfl rfl rfl rfl (fun _ _ => v_move rfl) ?_
    refine p_free rfl rfl rfl rfl (fun w _ => v_fieldAddr 1 (Try.runUnderlying89 w) rfl (Try.sizeOf3 w) rfl) ?_
    refine p_hoist rfl rfl rfl rfl (fun w hh => v_load (Try.isAgg3 w) rfl (hh.cell 0 rfl rfl)) ?_
    refine p_free rfl rfl rfl rfl (fun _ _ => v_nilCheck rfl) ?_
    refine p_free rfl rfl rfl rfl (fun w _ => v_fieldAddr 5 (Try.runUnderlying157 w) rfl (Try.sizeOf155 w) rfl) ?_
    refine p_hoist rfl rfl rfl rfl (fun w _ => v_arrI1 (Try.runUnderlying155 w) (Try.sizeOf3 w) rfl rfl (by omega) (by omega)) ?_
    refine p_hoist rfl rfl rfl rfl (fun w hh => v_load (Try.isAgg3 w) rfl (hh.rgate 0 rfl (by omega))) ?_
    refine p_free rfl rfl rfl rfl (fun _ _ => v_eql rfl rfl) ?_
    refine p_done ?_
    refine g_n_then ?_
    refine g_cond rfl (fun hc39_2 => ?_) (fun hc39_2 => ?_)
    · replace hc39_2 := of_decide_eq_true hc39_2
      refine g_region ?_
      refine g_val rfl rfl rfl (fun _ _ => v_assign rfl) ?_
      refine g_nil ?_
      refine g_n_then ?_
      refine g_seq ?_
      refine g_region ?_
      refine g_val rfl rfl rfl (fun w _ => v_fieldAddr 2 (Try.runUnderlying89 w) rfl (Try.sizeOf4 w) rfl) ?_
      refine g_val rfl rfl rfl (fun w hh => v_load (Try.isAgg4 w) rfl (hh.cell 0 rfl rfl)) ?_
      refine g_nil ?_
      refine g_n_then ?_
      refine g_cond rfl (fun hc41_3 => ?_) (fun hc41_3 => ?_)
      · have hc41_3 := hc41_3
        refine g_region ?_
        refine g_val rfl rfl rfl (fun w _ => v_fieldAddr 0 (Try.runUnderlying25 w) rfl (Try.sizeOf3 w) rfl) ?_
        refine g_val rfl rfl rfl (fun w hh => v_load (Try.isAgg3 w) rfl (hh.cell 1 rfl rfl)) ?_
        refine g_val rfl rfl rfl (fun _ _ => v_move rfl) ?_
        refine g_val rfl rfl rfl (fun _ _ => v_add rfl rfl (wrap_i64 (by omega))) ?_
        refine g_val rfl rfl rfl (fun _ _ => v_max rfl rfl) ?_
        refine g_val rfl rfl rfl (fun w _ => v_fieldAddr 0 (Try.runUnderlying25 w) rfl (Try.sizeOf3 w) rfl) ?_
        refine g_storeAt (cs' := #[_, _]) (own' := (_ :: _ :: _)) 1 (fun w => Try.sizeOf3 w) rfl rfl rfl rfl rfl rfl rfl ?_
        refine g_nil ?_
        refine g_n_blk ?_
        refine g_n_then ?_
        refine g_region ?_
        refine g_val rfl rfl rfl (fun _ _ => v_add rfl rfl (wrap_i64 (by omega))) ?_
        refine g_val rfl rfl rfl (fun _ _ => v_move rfl) ?_
        refine g_nil ?_
        refine g_n_then ?_
        exact g_againM (i := ⟨k, o⟩) (k + 1, ⟨max o.lo (50 + 1), o.hi⟩) [1, 2] ((.cons rfl (.cons rfl (.cons rfl (.cons rfl (.cons rfl (.cons rfl .nil))))))) (by decide) rfl (⟨by omega, by rw [leftN_succ (by omega), ← hI0.2]; simp only [leftStep, mostG, *, if_true, if_false, reduceCtorEq, Bool.false_eq_true]⟩) (by simp only; omega)
      · have hc41_3 := hc41_3
        refine g_region ?_
        refine g_val rfl rfl rfl (fun w _ => v_fieldAddr 1 (Try.runUnderlying25 w) rfl (Try.sizeOf3 w) rfl) ?_
        refine g_val rfl rfl rfl (fun w hh => v_load (Try.isAgg3 w) rfl (hh.cell 1 rfl rfl)) ?_
        refine g_val rfl rfl rfl (fun _ _ => v_move rfl) ?_
        refine g_val rfl rfl rfl (fun _ _ => v_min rfl rfl) ?_
        refine g_val rfl rfl rfl (fun w _ => v_fieldAddr 1 (Try.runUnderlying25 w) rfl (Try.sizeOf3 w) rfl) ?_
        refine g_storeAt (cs' := #[_, _]) (own' := (_ :: _ :: _)) 1 (fun w => Try.sizeOf3 w) rfl rfl rfl rfl rfl rfl rfl ?_
        refine g_nil ?_
        refine g_n_blk ?_
        refine g_n_then ?_
        refine g_region ?_
        refine g_val rfl rfl rfl (fun _ _ => v_add rfl rfl (wrap_i64 (by omega))) ?_
        refine g_val rfl rfl rfl (fun _ _ => v_move rfl) ?_
        refine g_nil ?_
        refine g_n_then ?_
        exact g_againM (i := ⟨k, o⟩) (k + 1, ⟨o.lo, min o.hi 50⟩) [1, 2] ((.cons rfl (.cons rfl (.cons rfl (.cons rfl (.cons rfl (.cons rfl .nil))))))) (by decide) rfl (⟨by omega, by rw [leftN_succ (by omega), ← hI0.2]; simp only [leftStep, mostG, *, if_true, if_false, reduceCtorEq, Bool.false_eq_true]⟩) (by simp only; omega)
    · replace hc39_2 := of_decide_eq_false hc39_2
      refine g_skip ?_
      refine g_n_then ?_
      refine g_seq ?_
      refine g_region ?_
      refine g_val rfl rfl rfl (fun w _ => v_fieldAddr 2 (Try.runUnderlying89 w) rfl (Try.sizeOf4 w) rfl) ?_
      refine g_val rfl rfl rfl (fun w hh => v_load (Try.isAgg4 w) rfl (hh.cell 0 rfl rfl)) ?_
      refine g_nil ?_
      refine g_n_then ?_
      refine g_cond rfl (fun hc41_4 => ?_) (fun hc41_4 => ?_)
      · have hc41_4 := hc41_4
        refine g_region ?_
        refine g_val rfl rfl rfl (fun w _ => v_fieldAddr 0 (Try.runUnderlying25 w) rfl (Try.sizeOf3 w) rfl) ?_
        refine g_val rfl rfl rfl (fun w hh => v_load (Try.isAgg3 w) rfl (hh.cell 1 rfl rfl)) ?_
        refine g_val rfl rfl rfl (fun _ _ => v_move rfl) ?_
        refine g_val rfl rfl rfl (fun _ _ => v_add rfl rfl (wrap_i64 (by omega))) ?_
        refine g_val rfl rfl rfl (fun _ _ => v_max rfl rfl) ?_
        refine g_val rfl rfl rfl (fun w _ => v_fieldAddr 0 (Try.runUnderlying25 w) rfl (Try.sizeOf3 w) rfl) ?_
        refine g_storeAt (cs' := #[_, _]) (own' := (_ :: _ :: _)) 1 (fun w => Try.sizeOf3 w) rfl rfl rfl rfl rfl rfl rfl ?_
        refine g_nil ?_
        refine g_n_blk ?_
        refine g_n_then ?_
        refine g_region ?_
        refine g_val rfl rfl rfl (fun _ _ => v_add rfl rfl (wrap_i64 (by omega))) ?_
        refine g_val rfl rfl rfl (fun _ _ => v_move rfl) ?_
        refine g_nil ?_
        refine g_n_then ?_
        exact g_againM (i := ⟨k, o⟩) (k + 1, ⟨max o.lo ((g.getD (lk.getD k default).place.toNat 0 - heightF L.S (lk.getD k default).min) + 1), o.hi⟩) [1, 2] ((.cons rfl (.cons rfl (.cons rfl (.cons rfl (.cons rfl (.cons rfl .nil))))))) (by decide) rfl (⟨by omega, by rw [leftN_succ (by omega), ← hI0.2]; simp only [leftStep, mostG, *, if_true, if_false, reduceCtorEq, Bool.false_eq_true]⟩) (by simp only; omega)
      · have hc41_4 := hc41_4
        refine g_region ?_
        refine g_val rfl rfl rfl (fun w _ => v_fieldAddr 1 (Try.runUnderlying25 w) rfl (Try.sizeOf3 w) rfl) ?_
        refine g_val rfl rfl rfl (fun w hh => v_load (Try.isAgg3 w) rfl (hh.cell 1 rfl rfl)) ?_
        refine g_val rfl rfl rfl (fun _ _ => v_move rfl) ?_
        refine g_val rfl rfl rfl (fun _ _ => v_min rfl rfl) ?_
        refine g_val rfl rfl rfl (fun w _ => v_fieldAddr 1 (Try.runUnderlying25 w) rfl (Try.sizeOf3 w) rfl) ?_
        refine g_storeAt (cs' := #[_, _]) (own' := (_ :: _ :: _)) 1 (fun w => Try.sizeOf3 w) rfl rfl rfl rfl rfl rfl rfl ?_
        refine g_nil ?_
        refine g_n_blk ?_
        refine g_n_then ?_
        refine g_region ?_
        refine g_val rfl rfl rfl (fun _ _ => v_add rfl rfl (wrap_i64 (by omega))) ?_
        refine g_val rfl rfl rfl (fun _ _ => v_move rfl) ?_
        refine g_nil ?_
        refine g_n_then ?_
        exact g_againM (i := ⟨k, o⟩) (k + 1, ⟨o.lo, min o.hi (g.getD (lk.getD k default).place.toNat 0 - heightF L.S (lk.getD k default).min)⟩) [1, 2] ((.cons rfl (.cons rfl (.cons rfl (.cons rfl (.cons rfl (.cons rfl .nil))))))) (by decide) rfl (⟨by omega, by rw [leftN_succ (by omega), ← hI0.2]; simp only [leftStep, mostG, *, if_true, if_false, reduceCtorEq, Bool.false_eq_true]⟩) (by simp only; omega)
  · replace h17 := of_decide_eq_false h17
    refine g_exit ?_
    refine g_x_then ?_
    refine g_x_then ?_
    refine g_x_blk ?_
    refine g_n_then ?_
    refine g_seq ?_
    refine g_region ?_
    refine g_val rfl rfl rfl (fun w hh => v_loadAgg (vs := [_, _]) (Try.isAgg25 w) (Try.sizeOf25 w) rfl (hh.cells 0 rfl rfl)) ?_
    refine g_storeAgg (vs := #[_, _]) (own' := (_ :: _ :: _)) 1 (fun w => Try.sizeOf25 w) rfl rfl rfl rfl rfl rfl ?_
    refine g_nil ?_
    refine g_n_then ?_
    refine g_ret ?_
    have ek : k = lk.length := by omega
    subst ek
    refine g_done rfl (fun w hh => (.cell rfl (loadVar_agg (vs := [_, _]) (Try.isAgg25 _) (Try.sizeOf25 _) (hh.cells 1 rfl rfl)) .nil)) (fun w hh => ⟨?_, hh.toExt⟩)
    rw [hI0.2, leftN_all]; rfl

set_option maxRecDepth 100000 in
theorem c_lookedR (lr : Option (Nat × Nat)) (lk : List Look) (lc : Nat) (L : LS) (w : World) (hL : L.OK w) (hll : lk.length ≤ 5864062014805) (hlr : 0 < lk.length → lr ≠ none) (hK : segOK w (bk lr, off lr, flat encL lk)) (h : lookedE L.S lk = 0) : Calls Try.prog 86 #[L.val, slv lr lk.length lc] w (fun en w' => ∃ bd : Nat, en = .returned (.tuple #[ptr bd 0, .int .i64 0]) ∧ True ∧ News w w' [(bd, 0, L.cells ++ ints (gatesOf L.S))]) := by
  have hlt := hL.tl
  have hlf := hL.fl
  have hls := hL.sl
  refine g_enter (args := [L.val, slv lr lk.length lc]) Try.func86 rfl Try.ntmps86 rfl (e := [(0, _), (1, _)]) rfl (HS.start w [] ((bk lr, off lr, flat encL lk) :: L.segs) (segsC hK hL.segs)) ?_
  refine g_seq ?_
  refine g_region ?_
  refine g_box rfl rfl (fun b1 hb1 => ?_)
  refine g_val rfl rfl rfl (fun _ _ => v_assign rfl) ?_
  refine g_val rfl rfl rfl (fun _ _ => v_assign rfl) ?_
  refine g_nil ?_
  refine g_n_then ?_
  refine g_seq ?_
  refine g_region ?_
  refine g_val rfl rfl rfl (fun w hh => v_loadAgg (vs := [_, _, _, _, _]) (Try.isAgg29 w) (Try.sizeOf29 w) rfl (hh.cells 0 rfl rfl)) ?_
  by_cases hc : check L.S = 0
  · have hG := good_of_check hc
    have hfl8 := hG.fl
    have htl12 := hG.tl
    have hsl16 := hG.sl
    refine g_callR (ι := Nat) (p := fun bd => w.heap.size ≤ bd) (S := fun bd => [(bd, 0, L.cells ++ ints (gatesOf L.S))]) (ret := fun bd => .tuple #[ptr bd 0, .int .i64 0]) rfl rfl rfl rfl rfl rfl rfl (fun a w => Try.call102 a w) (fun w1 hh => (c_openedR L w1 (hL.ext hh.toExt) hc).mono (by rintro en w' ⟨bd, rfl, _, hN⟩; exact ⟨bd, rfl, Nat.le_trans hh.size (hN.new _ List.mem_cons_self (by simp [LS.cells])), hN⟩)) (fun bd hbdn => ?_)
    refine g_val rfl rfl rfl (fun _ _ => v_move rfl) ?_
    refine g_val rfl rfl rfl (fun _ _ => v_extract rfl rfl) ?_
    refine g_val rfl rfl rfl (fun _ _ => v_extract rfl rfl) ?_
    refine g_val rfl rfl rfl (fun _ _ => v_assign rfl) ?_
    refine g_val rfl rfl rfl (fun _ _ => v_assign rfl) ?_
    refine g_nil ?_
    refine g_n_then ?_
    refine g_seq ?_
    refine g_block ?_
    refine g_seq ?_
    refine g_region ?_
    refine g_val rfl rfl rfl (fun _ _ => v_move rfl) ?_
    refine g_val rfl rfl rfl (fun _ _ => v_neq rfl rfl) ?_
    refine g_val rfl rfl rfl (fun _ _ => v_assign rfl) ?_
    refine g_nil ?_
    refine g_n_then ?_
    refine g_condF rfl rfl ?_
    refine g_seq ?_
    refine g_region ?_
    refine g_val rfl rfl rfl (fun _ _ => v_move rfl) ?_
    refine g_val rfl rfl rfl (fun w _ => v_lenS (Try.runUnderlying35 w) rfl) ?_
    refine g_val rfl rfl rfl (fun _ _ => v_gtr rfl rfl) ?_
    refine g_val rfl rfl rfl (fun _ _ => v_assign rfl) ?_
    refine g_nil ?_
    refine g_n_then ?_
    refine g_cond rfl (fun hc19_1 => ?_) (fun hc19_1 => ?_)
    · replace hc19_1 := of_decide_eq_true hc19_1
      refine g_seq ?_
      refine g_region ?_
      refine g_val rfl rfl rfl (fun _ _ => v_assign rfl) ?_
      refine g_val rfl rfl rfl (fun _ _ => v_assign rfl) ?_
      refine g_nil ?_
      refine g_n_then ?_
      refine g_ret ?_
      refine g_r_blk ?_
      refine g_r_then ?_
      have eL : lookedE L.S lk = 2 := by simp only [lookedE, ne_eq, hc, not_true_eq_false, if_false]; rw [if_pos (by omega)]
      exact absurd (eL.symm.trans h) (by decide)
    · replace hc19_1 := of_decide_eq_false hc19_1
      refine g_skip ?_
      refine g_n_blk ?_
      refine g_n_then ?_
      refine g_seq ?_
      refine g_seq ?_
      refine g_region ?_
      refine g_val rfl rfl rfl (fun _ _ => v_move rfl) ?_
      refine g_val rfl rfl rfl (fun w _ => v_lenS (Try.runUnderlying35 w) rfl) ?_
      refine g_val rfl rfl rfl (fun _ _ => v_move rfl) ?_
      refine g_nil ?_
      refine g_n_then ?_
      refine g_block ?_
      refine g_sub (e' := [(25, _), (6, _), (23, _), (24, _)]) ((.cons rfl (.cons rfl (.cons rfl (.cons rfl .nil))))) ?_
      refine g_loopM (ι := Nat) (fun k => [(25, .int .i64 (k : Nat))]) (fun k => []) (fun k => k ≤ lk.length ∧ ∀ i, i < k → lookOK L.S (lk.getD i default)) (fun k => lk.length - k) 0 (⟨Nat.zero_le _, fun i hi => absurd hi (by omega)⟩) ?_
      intro k hI1
      refine g_seq ?_
      refine g_region ?_
      refine g_val rfl rfl rfl (fun _ _ => v_lss rfl rfl) ?_
      refine g_nil ?_
      refine g_n_then ?_
      refine g_seq ?_
      refine g_cond rfl (fun hc26_2 => ?_) (fun hc26_2 => ?_)
      · replace hc26_2 := of_decide_eq_true hc26_2
        refine g_skip ?_
        refine g_n_then ?_
        refine g_seq ?_
        refine g_block ?_
        refine g_seq ?_
        refine g_region ?_
        refine g_val rfl rfl rfl (fun w _ => v_indexAddr k (Try.runUnderlying35 w) (Try.sizeOf89 w) rfl rfl rfl (by omega) (hlr (by omega))) ?_
        refine g_val rfl rfl rfl (fun w hh => v_loadAgg (vs := encL _) (Try.isAgg89 w) (Try.sizeOf89 w) rfl (hh.elem (j := k) encL_len 1 rfl (by omega))) ?_
        refine g_alloc (fun w => Try.zeroValue89 w) rfl (fun b2 hb2 => ?_)
        refine g_storeAgg (vs := #[_, _, _]) (own' := (_ :: _)) 0 (fun w => Try.sizeOf89 w) rfl rfl rfl rfl rfl rfl ?_
        refine g_nil ?_
        refine g_n_then ?_
        refine g_block ?_
        refine g_seq ?_
        refine g_region ?_
        refine g_val rfl rfl rfl (fun _ _ => v_move rfl) ?_
        refine g_val rfl rfl rfl (fun w _ => v_fieldAddr 0 (Try.runUnderlying89 w) rfl (Try.sizeOf3 w) rfl) ?_
        refine g_val rfl rfl rfl (fun w hh => v_load (Try.isAgg3 w) rfl (hh.cell 0 rfl rfl)) ?_
        refine g_callv rfl rfl rfl rfl rfl rfl rfl (fun a w => Try.call103 a w) (fun w hh => c_day L bd (gatesOf L.S) _ w (hL.ext hh.toExt) hG gates_length (hh.seg 0 rfl)) ?_
        refine g_val rfl rfl rfl (fun _ _ => v_not rfl) ?_
        refine g_val rfl rfl rfl (fun _ _ => v_assign rfl) ?_
        refine g_nil ?_
        refine g_n_then ?_
        refine g_cond rfl (fun hc29_3 => ?_) (fun hc29_3 => ?_)
        · replace hc29_3 := of_not_true hc29_3
          refine g_seq ?_
          refine g_region ?_
          refine g_val rfl rfl rfl (fun _ _ => v_assign rfl) ?_
          refine g_val rfl rfl rfl (fun _ _ => v_assign rfl) ?_
          refine g_nil ?_
          refine g_n_then ?_
          refine g_ret ?_
          refine g_r_blk ?_
          refine g_r_blk ?_
          refine g_r_then ?_
          refine g_r_then ?_
          refine g_r_blk ?_
          refine g_r_then ?_
          have eL : lookedE L.S lk = 3 := (lookedE_look hc (by omega)).trans (lookE_of (k := k) (by omega) hI1.2 (by simp only [lookE, *, if_true]))
          exact absurd (eL.symm.trans h) (by decide)
        · replace hc29_3 := of_not_false hc29_3
          refine g_seq ?_
          refine g_draw none (.free 0 (.free 1 (.free 2 (.hoist 3 (.free 4 (.hoist 5 (.one 6 (.free 7 (.free 8 .done))))))))) _ rfl (by decide +kernel) (fun w k hh => hh.draw k) (fun w hh => hh) ?_
          refine p_free rfl rfl rfl rfl (fun _ _ => v_move rfl) ?_
          refine p_free rfl rfl rfl rfl (fun _ _ => v_nilCheck rfl) ?_
          refine p_free rfl rfl rfl rfl (fun w _ => v_fieldAddr 0 (Try.runUnderlying157 w) rfl (Try.sizeOf29 w) rfl) ?_
          refine p_hoist rfl rfl rfl rfl (fun w hh => v_loadAgg (vs := [_, _, _, _, _]) (Try.isAgg29 w) (Try.sizeOf29 w) rfl (hh.rcells 0 0 rfl rfl)) ?_
          refine p_free rfl rfl rfl rfl (fun w _ => v_fieldAddr 1 (Try.runUnderlying89 w) rfl (Try.sizeOf3 w) rfl) ?_
          refine p_hoist rfl rfl rfl rfl (fun w hh => v_load (Try.isAgg3 w) rfl (hh.cell 0 rfl rfl)) ?_
          refine p_one rfl ?_
          refine g_callv rfl rfl rfl rfl rfl rfl rfl (fun a w => Try.call89 a w) (fun w hh => c_place _ L w (hL.ext hh.toExt)) ?_
          refine p_next (fun w hh => hh) ?_
          refine p_free rfl rfl rfl rfl (fun _ _ => v_not rfl) ?_
          refine p_free rfl rfl rfl rfl (fun _ _ => v_assign rfl) ?_
          refine p_done ?_
          refine g_n_then ?_
          refine g_cond rfl (fun hc35_4 => ?_) (fun hc35_4 => ?_)
          · replace hc35_4 := of_not_true hc35_4
            have hc35_4 := hc35_4
            refine g_seq ?_
            refine g_region ?_
            refine g_val rfl rfl rfl (fun _ _ => v_assign rfl) ?_
            refine g_val rfl rfl rfl (fun _ _ => v_assign rfl) ?_
            refine g_nil ?_
            refine g_n_then ?_
            refine g_ret ?_
            refine g_r_blk ?_
            refine g_r_blk ?_
            refine g_r_then ?_
            refine g_r_then ?_
            refine g_r_blk ?_
            refine g_r_then ?_
            have eL : lookedE L.S lk = 1 := (lookedE_look hc (by omega)).trans (lookE_of (k := k) (by omega) hI1.2 (by simp only [lookE, *, if_true, if_false, Bool.true_eq_false]))
            exact absurd (eL.symm.trans h) (by decide)
          · replace hc35_4 := of_not_false hc35_4
            have hpl := isPlace_iff.1 hc35_4
            refine g_skip ?_
            refine g_n_blk ?_
            refine g_n_blk ?_
            refine g_n_then ?_
            refine g_region ?_
            refine g_val rfl rfl rfl (fun _ _ => v_add rfl rfl (wrap_i64 (by omega))) ?_
            refine g_val rfl rfl rfl (fun _ _ => v_move rfl) ?_
            refine g_nil ?_
            refine g_n_then ?_
            exact g_againM (i := k) (k + 1) [1] ((.cons rfl (.cons rfl (.cons rfl (.cons rfl .nil))))) (by decide) rfl (⟨by omega, fun i hi => by rcases Nat.lt_succ_iff_lt_or_eq.1 hi with h | h; exact hI1.2 i h; subst h; exact ⟨by assumption, by assumption⟩⟩) (by omega)
      · replace hc26_2 := of_decide_eq_false hc26_2
        refine g_exit ?_
        refine g_x_then ?_
        refine g_x_then ?_
        refine g_x_blk ?_
        refine g_n_then ?_
        refine g_seq ?_
        refine g_region ?_
        refine g_val rfl rfl rfl (fun _ _ => v_move rfl) ?_
        refine g_val rfl rfl rfl (fun _ _ => v_assign rfl) ?_
        refine g_val rfl rfl rfl (fun _ _ => v_assign rfl) ?_
        refine g_nil ?_
        refine g_n_then ?_
        refine g_ret ?_
        refine g_done rfl (fun w hh => (.tmp rfl (.tmp rfl .nil))) (fun w hh => ⟨_, rfl, trivial, (News.nil hh.toExt).cons (hh.seg 0 rfl) (fun _ => by assumption)⟩)
  · refine g_callv rfl rfl rfl rfl rfl rfl rfl (fun a w => Try.call102 a w) (fun w hh => c_openedE L w (hL.ext hh.toExt) hc) ?_
    refine g_val rfl rfl rfl (fun _ _ => v_move rfl) ?_
    refine g_val rfl rfl rfl (fun _ _ => v_extract rfl rfl) ?_
    refine g_val rfl rfl rfl (fun _ _ => v_extract rfl rfl) ?_
    refine g_val rfl rfl rfl (fun _ _ => v_assign rfl) ?_
    refine g_val rfl rfl rfl (fun _ _ => v_assign rfl) ?_
    refine g_nil ?_
    refine g_n_then ?_
    refine g_seq ?_
    refine g_block ?_
    refine g_seq ?_
    refine g_region ?_
    refine g_val rfl rfl rfl (fun _ _ => v_move rfl) ?_
    refine g_val rfl rfl rfl (fun _ _ => v_neq rfl rfl) ?_
    refine g_val rfl rfl rfl (fun _ _ => v_assign rfl) ?_
    refine g_nil ?_
    refine g_n_then ?_
    refine g_condT rfl (neP hc) ?_
    refine g_seq ?_
    refine g_region ?_
    refine g_val rfl rfl rfl (fun _ _ => v_move rfl) ?_
    refine g_val rfl rfl rfl (fun _ _ => v_assign rfl) ?_
    refine g_val rfl rfl rfl (fun _ _ => v_assign rfl) ?_
    refine g_nil ?_
    refine g_n_then ?_
    refine g_ret ?_
    refine g_r_blk ?_
    refine g_r_then ?_
    have eL : lookedE L.S lk = check L.S := by simp only [lookedE, ne_eq, hc, not_false_eq_true, if_true]
    exact absurd (eL.symm.trans h) hc

set_option maxRecDepth 100000 in
theorem c_lookedE (lr : Option (Nat × Nat)) (lk : List Look) (lc : Nat) (L : LS) (w : World) (hL : L.OK w) (hll : lk.length ≤ 5864062014805) (hlr : 0 < lk.length → lr ≠ none) (hK : segOK w (bk lr, off lr, flat encL lk)) (h : lookedE L.S lk ≠ 0) : Ret Try.prog 86 [L.val, slv lr lk.length lc] w (.tuple #[.pointer none, .int .i64 (lookedE L.S lk)]) := by
  have hlt := hL.tl
  have hlf := hL.fl
  have hls := hL.sl
  refine g_enter (args := [L.val, slv lr lk.length lc]) Try.func86 rfl Try.ntmps86 rfl (e := [(0, _), (1, _)]) rfl (HS.start w [] ((bk lr, off lr, flat encL lk) :: L.segs) (segsC hK hL.segs)) ?_
  refine g_seq ?_
  refine g_region ?_
  refine g_box rfl rfl (fun b1 hb1 => ?_)
  refine g_val rfl rfl rfl (fun _ _ => v_assign rfl) ?_
  refine g_val rfl rfl rfl (fun _ _ => v_assign rfl) ?_
  refine g_nil ?_
  refine g_n_then ?_
  refine g_seq ?_
  refine g_region ?_
  refine g_val rfl rfl rfl (fun w hh => v_loadAgg (vs := [_, _, _, _, _]) (Try.isAgg29 w) (Try.sizeOf29 w) rfl (hh.cells 0 rfl rfl)) ?_
  by_cases hc : check L.S = 0
  · have hG := good_of_check hc
    have hfl8 := hG.fl
    have htl12 := hG.tl
    have hsl16 := hG.sl
    refine g_callR (ι := Nat) (p := fun bd => w.heap.size ≤ bd) (S := fun bd => [(bd, 0, L.cells ++ ints (gatesOf L.S))]) (ret := fun bd => .tuple #[ptr bd 0, .int .i64 0]) rfl rfl rfl rfl rfl rfl rfl (fun a w => Try.call102 a w) (fun w1 hh => (c_openedR L w1 (hL.ext hh.toExt) hc).mono (by rintro en w' ⟨bd, rfl, _, hN⟩; exact ⟨bd, rfl, Nat.le_trans hh.size (hN.new _ List.mem_cons_self (by simp [LS.cells])), hN⟩)) (fun bd hbdn => ?_)
    refine g_val rfl rfl rfl (fun _ _ => v_move rfl) ?_
    refine g_val rfl rfl rfl (fun _ _ => v_extract rfl rfl) ?_
    refine g_val rfl rfl rfl (fun _ _ => v_extract rfl rfl) ?_
    refine g_val rfl rfl rfl (fun _ _ => v_assign rfl) ?_
    refine g_val rfl rfl rfl (fun _ _ => v_assign rfl) ?_
    refine g_nil ?_
    refine g_n_then ?_
    refine g_seq ?_
    refine g_block ?_
    refine g_seq ?_
    refine g_region ?_
    refine g_val rfl rfl rfl (fun _ _ => v_move rfl) ?_
    refine g_val rfl rfl rfl (fun _ _ => v_neq rfl rfl) ?_
    refine g_val rfl rfl rfl (fun _ _ => v_assign rfl) ?_
    refine g_nil ?_
    refine g_n_then ?_
    refine g_condF rfl rfl ?_
    refine g_seq ?_
    refine g_region ?_
    refine g_val rfl rfl rfl (fun _ _ => v_move rfl) ?_
    refine g_val rfl rfl rfl (fun w _ => v_lenS (Try.runUnderlying35 w) rfl) ?_
    refine g_val rfl rfl rfl (fun _ _ => v_gtr rfl rfl) ?_
    refine g_val rfl rfl rfl (fun _ _ => v_assign rfl) ?_
    refine g_nil ?_
    refine g_n_then ?_
    refine g_cond rfl (fun hc19_1 => ?_) (fun hc19_1 => ?_)
    · replace hc19_1 := of_decide_eq_true hc19_1
      refine g_seq ?_
      refine g_region ?_
      refine g_val rfl rfl rfl (fun _ _ => v_assign rfl) ?_
      refine g_val rfl rfl rfl (fun _ _ => v_assign rfl) ?_
      refine g_nil ?_
      refine g_n_then ?_
      refine g_ret ?_
      refine g_r_blk ?_
      refine g_r_then ?_
      have eL : lookedE L.S lk = 2 := by simp only [lookedE, ne_eq, hc, not_true_eq_false, if_false]; rw [if_pos (by omega)]
      refine g_done rfl (fun w hh => (.tmp rfl (.tmp rfl .nil))) (fun w hh => ⟨?_, hh.toExt⟩)
      rw [eL]; rfl
    · replace hc19_1 := of_decide_eq_false hc19_1
      refine g_skip ?_
      refine g_n_blk ?_
      refine g_n_then ?_
      refine g_seq ?_
      refine g_seq ?_
      refine g_region ?_
      refine g_val rfl rfl rfl (fun _ _ => v_move rfl) ?_
      refine g_val rfl rfl rfl (fun w _ => v_lenS (Try.runUnderlying35 w) rfl) ?_
      refine g_val rfl rfl rfl (fun _ _ => v_move rfl) ?_
      refine g_nil ?_
      refine g_n_then ?_
      refine g_block ?_
      refine g_sub (e' := [(25, _), (6, _), (23, _), (24, _)]) ((.cons rfl (.cons rfl (.cons rfl (.cons rfl .nil))))) ?_
      refine g_loopM (ι := Nat) (fun k => [(25, .int .i64 (k : Nat))]) (fun k => []) (fun k => k ≤ lk.length ∧ ∀ i, i < k → lookOK L.S (lk.getD i default)) (fun k => lk.length - k) 0 (⟨Nat.zero_le _, fun i hi => absurd hi (by omega)⟩) ?_
      intro k hI1
      refine g_seq ?_
      refine g_region ?_
      refine g_val rfl rfl rfl (fun _ _ => v_lss rfl rfl) ?_
      refine g_nil ?_
      refine g_n_then ?_
      refine g_seq ?_
      refine g_cond rfl (fun hc26_2 => ?_) (fun hc26_2 => ?_)
      · replace hc26_2 := of_decide_eq_true hc26_2
        refine g_skip ?_
        refine g_n_then ?_
        refine g_seq ?_
        refine g_block ?_
        refine g_seq ?_
        refine g_region ?_
        refine g_val rfl rfl rfl (fun w _ => v_indexAddr k (Try.runUnderlying35 w) (Try.sizeOf89 w) rfl rfl rfl (by omega) (hlr (by omega))) ?_
        refine g_val rfl rfl rfl (fun w hh => v_loadAgg (vs := encL _) (Try.isAgg89 w) (Try.sizeOf89 w) rfl (hh.elem (j := k) encL_len 1 rfl (by omega))) ?_
        refine g_alloc (fun w => Try.zeroValue89 w) rfl (fun b2 hb2 => ?_)
        refine g_storeAgg (vs := #[_, _, _]) (own' := (_ :: _)) 0 (fun w => Try.sizeOf89 w) rfl rfl rfl rfl rfl rfl ?_
        refine g_nil ?_
        refine g_n_then ?_
        refine g_block ?_
        refine g_seq ?_
        refine g_region ?_
        refine g_val rfl rfl rfl (fun _ _ => v_move rfl) ?_
        refine g_val rfl rfl rfl (fun w _ => v_fieldAddr 0 (Try.runUnderlying89 w) rfl (Try.sizeOf3 w) rfl) ?_
        refine g_val rfl rfl rfl (fun w hh => v_load (Try.isAgg3 w) rfl (hh.cell 0 rfl rfl)) ?_
        refine g_callv rfl rfl rfl rfl rfl rfl rfl (fun a w => Try.call103 a w) (fun w hh => c_day L bd (gatesOf L.S) _ w (hL.ext hh.toExt) hG gates_length (hh.seg 0 rfl)) ?_
        refine g_val rfl rfl rfl (fun _ _ => v_not rfl) ?_
        refine g_val rfl rfl rfl (fun _ _ => v_assign rfl) ?_
        refine g_nil ?_
        refine g_n_then ?_
        refine g_cond rfl (fun hc29_3 => ?_) (fun hc29_3 => ?_)
        · replace hc29_3 := of_not_true hc29_3
          refine g_seq ?_
          refine g_region ?_
          refine g_val rfl rfl rfl (fun _ _ => v_assign rfl) ?_
          refine g_val rfl rfl rfl (fun _ _ => v_assign rfl) ?_
          refine g_nil ?_
          refine g_n_then ?_
          refine g_ret ?_
          refine g_r_blk ?_
          refine g_r_blk ?_
          refine g_r_then ?_
          refine g_r_then ?_
          refine g_r_blk ?_
          refine g_r_then ?_
          have eL : lookedE L.S lk = 3 := (lookedE_look hc (by omega)).trans (lookE_of (k := k) (by omega) hI1.2 (by simp only [lookE, *, if_true]))
          refine g_done rfl (fun w hh => (.tmp rfl (.tmp rfl .nil))) (fun w hh => ⟨?_, hh.toExt⟩)
          rw [eL]; rfl
        · replace hc29_3 := of_not_false hc29_3
          refine g_seq ?_
          refine g_draw none (.free 0 (.free 1 (.free 2 (.hoist 3 (.free 4 (.hoist 5 (.one 6 (.free 7 (.free 8 .done))))))))) _ rfl (by decide +kernel) (fun w k hh => hh.draw k) (fun w hh => hh) ?_
          refine p_free rfl rfl rfl rfl (fun _ _ => v_move rfl) ?_
          refine p_free rfl rfl rfl rfl (fun _ _ => v_nilCheck rfl) ?_
          refine p_free rfl rfl rfl rfl (fun w _ => v_fieldAddr 0 (Try.runUnderlying157 w) rfl (Try.sizeOf29 w) rfl) ?_
          refine p_hoist rfl rfl rfl rfl (fun w hh => v_loadAgg (vs := [_, _, _, _, _]) (Try.isAgg29 w) (Try.sizeOf29 w) rfl (hh.rcells 0 0 rfl rfl)) ?_
          refine p_free rfl rfl rfl rfl (fun w _ => v_fieldAddr 1 (Try.runUnderlying89 w) rfl (Try.sizeOf3 w) rfl) ?_
          refine p_hoist rfl rfl rfl rfl (fun w hh => v_load (Try.isAgg3 w) rfl (hh.cell 0 rfl rfl)) ?_
          refine p_one rfl ?_
          refine g_callv rfl rfl rfl rfl rfl rfl rfl (fun a w => Try.call89 a w) (fun w hh => c_place _ L w (hL.ext hh.toExt)) ?_
          refine p_next (fun w hh => hh) ?_
          refine p_free rfl rfl rfl rfl (fun _ _ => v_not rfl) ?_
          refine p_free rfl rfl rfl rfl (fun _ _ => v_assign rfl) ?_
          refine p_done ?_
          refine g_n_then ?_
          refine g_cond rfl (fun hc35_4 => ?_) (fun hc35_4 => ?_)
          · replace hc35_4 := of_not_true hc35_4
            have hc35_4 := hc35_4
            refine g_seq ?_
            refine g_region ?_
            refine g_val rfl rfl rfl (fun _ _ => v_assign rfl) ?_
            refine g_val rfl rfl rfl (fun _ _ => v_assign rfl) ?_
            refine g_nil ?_
            refine g_n_then ?_
            refine g_ret ?_
            refine g_r_blk ?_
            refine g_r_blk ?_
            refine g_r_then ?_
            refine g_r_then ?_
            refine g_r_blk ?_
            refine g_r_then ?_
            have eL : lookedE L.S lk = 1 := (lookedE_look hc (by omega)).trans (lookE_of (k := k) (by omega) hI1.2 (by simp only [lookE, *, if_true, if_false, Bool.true_eq_false]))
            refine g_done rfl (fun w hh => (.tmp rfl (.tmp rfl .nil))) (fun w hh => ⟨?_, hh.toExt⟩)
            rw [eL]; rfl
          · replace hc35_4 := of_not_false hc35_4
            have hpl := isPlace_iff.1 hc35_4
            refine g_skip ?_
            refine g_n_blk ?_
            refine g_n_blk ?_
            refine g_n_then ?_
            refine g_region ?_
            refine g_val rfl rfl rfl (fun _ _ => v_add rfl rfl (wrap_i64 (by omega))) ?_
            refine g_val rfl rfl rfl (fun _ _ => v_move rfl) ?_
            refine g_nil ?_
            refine g_n_then ?_
            exact g_againM (i := k) (k + 1) [1] ((.cons rfl (.cons rfl (.cons rfl (.cons rfl .nil))))) (by decide) rfl (⟨by omega, fun i hi => by rcases Nat.lt_succ_iff_lt_or_eq.1 hi with h | h; exact hI1.2 i h; subst h; exact ⟨by assumption, by assumption⟩⟩) (by omega)
      · replace hc26_2 := of_decide_eq_false hc26_2
        refine g_exit ?_
        refine g_x_then ?_
        refine g_x_then ?_
        refine g_x_blk ?_
        refine g_n_then ?_
        refine g_seq ?_
        refine g_region ?_
        refine g_val rfl rfl rfl (fun _ _ => v_move rfl) ?_
        refine g_val rfl rfl rfl (fun _ _ => v_assign rfl) ?_
        refine g_val rfl rfl rfl (fun _ _ => v_assign rfl) ?_
        refine g_nil ?_
        refine g_n_then ?_
        refine g_ret ?_
        have ek : k = lk.length := by omega
        subst ek
        have eL : lookedE L.S lk = 0 := (lookedE_look hc (by omega)).trans (lookE_ok hI1.2)
        exact absurd eL h
  · refine g_callv rfl rfl rfl rfl rfl rfl rfl (fun a w => Try.call102 a w) (fun w hh => c_openedE L w (hL.ext hh.toExt) hc) ?_
    refine g_val rfl rfl rfl (fun _ _ => v_move rfl) ?_
    refine g_val rfl rfl rfl (fun _ _ => v_extract rfl rfl) ?_
    refine g_val rfl rfl rfl (fun _ _ => v_extract rfl rfl) ?_
    refine g_val rfl rfl rfl (fun _ _ => v_assign rfl) ?_
    refine g_val rfl rfl rfl (fun _ _ => v_assign rfl) ?_
    refine g_nil ?_
    refine g_n_then ?_
    refine g_seq ?_
    refine g_block ?_
    refine g_seq ?_
    refine g_region ?_
    refine g_val rfl rfl rfl (fun _ _ => v_move rfl) ?_
    refine g_val rfl rfl rfl (fun _ _ => v_neq rfl rfl) ?_
    refine g_val rfl rfl rfl (fun _ _ => v_assign rfl) ?_
    refine g_nil ?_
    refine g_n_then ?_
    refine g_condT rfl (neP hc) ?_
    refine g_seq ?_
    refine g_region ?_
    refine g_val rfl rfl rfl (fun _ _ => v_move rfl) ?_
    refine g_val rfl rfl rfl (fun _ _ => v_assign rfl) ?_
    refine g_val rfl rfl rfl (fun _ _ => v_assign rfl) ?_
    refine g_nil ?_
    refine g_n_then ?_
    refine g_ret ?_
    refine g_r_blk ?_
    refine g_r_then ?_
    have eL : lookedE L.S lk = check L.S := by simp only [lookedE, ne_eq, hc, not_false_eq_true, if_true]
    refine g_done rfl (fun w hh => (.tmp rfl (.tmp rfl .nil))) (fun w hh => ⟨?_, hh.toExt⟩)
    rw [eL]; rfl

set_option maxRecDepth 100000 in
theorem c_Looks (lr : Option (Nat × Nat)) (lk : List Look) (lc : Nat) (L : LS) (w : World) (hL : L.OK w) (hll : lk.length ≤ 5864062014805) (hlr : 0 < lk.length → lr ≠ none) (hK : segOK w (bk lr, off lr, flat encL lk)) : Ret Try.prog 23 [L.val, slv lr lk.length lc] w (.tuple #[.agg (encP (LooksR L.S lk).1).toArray, .int .i64 (LooksR L.S lk).2]) := by
  have hlt := hL.tl
  have hlf := hL.fl
  have hls := hL.sl
  refine g_enter (args := [L.val, slv lr lk.length lc]) Try.func23 rfl Try.ntmps23 rfl (e := [(0, _), (1, _)]) rfl (HS.start w [] ((bk lr, off lr, flat encL lk) :: L.segs) (segsC hK hL.segs)) ?_
  refine g_seq ?_
  refine g_region ?_
  refine g_box rfl rfl (fun b1 hb1 => ?_)
  refine g_alloc (fun w => Try.zeroValue25 w) rfl (fun b2 hb2 => ?_)
  refine g_val rfl rfl rfl (fun _ _ => v_assign rfl) ?_
  refine g_nil ?_
  refine g_n_then ?_
  refine g_seq ?_
  refine g_region ?_
  refine g_val rfl rfl rfl (fun w hh => v_loadAgg (vs := [_, _, _, _, _]) (Try.isAgg29 w) (Try.sizeOf29 w) rfl (hh.cells 1 rfl rfl)) ?_
  refine g_val rfl rfl rfl (fun _ _ => v_move rfl) ?_
  by_cases hg : lookedE L.S lk = 0
  · have hc := (lookedE_zero hg).1
    have hlk := lookE_all (lookedE_zero hg).2.2
    have hl10 := (lookedE_zero hg).2.1
    have hG := good_of_check hc
    have hfl8 := hG.fl
    have htl12 := hG.tl
    have hsl16 := hG.sl
    refine g_callR (ι := Nat) (p := fun _ => True) (S := fun bd => [(bd, 0, L.cells ++ ints (gatesOf L.S))]) (ret := fun bd => .tuple #[ptr bd 0, .int .i64 0]) rfl rfl rfl rfl rfl rfl rfl (fun a w => Try.call86 a w) (fun w hh => c_lookedR lr lk lc L w (hL.ext hh.toExt) hll hlr (hh.seg 0 rfl) hg) (fun bd _ => ?_)
    refine g_val rfl rfl rfl (fun _ _ => v_move rfl) ?_
    refine g_val rfl rfl rfl (fun _ _ => v_extract rfl rfl) ?_
    refine g_val rfl rfl rfl (fun _ _ => v_extract rfl rfl) ?_
    refine g_val rfl rfl rfl (fun _ _ => v_assign rfl) ?_
    refine g_val rfl rfl rfl (fun _ _ => v_assign rfl) ?_
    refine g_nil ?_
    refine g_n_then ?_
    refine g_seq ?_
    refine g_seq ?_
    refine g_region ?_
    refine g_val rfl rfl rfl (fun _ _ => v_move rfl) ?_
    refine g_val rfl rfl rfl (fun _ _ => v_neq rfl rfl) ?_
    refine g_nil ?_
    refine g_n_then ?_
    refine g_condF rfl rfl ?_
    refine g_skip ?_
    refine g_n_then ?_
    refine g_seq ?_
    refine g_region ?_
    refine g_val rfl rfl rfl (fun _ _ => v_move rfl) ?_
    refine g_val rfl rfl rfl (fun _ _ => v_move rfl) ?_
    refine g_callv rfl rfl rfl rfl rfl rfl rfl (fun a w => Try.call87 a w) (fun w hh => c_left L bd (gatesOf L.S) lr lk lc w (hL.ext hh.toExt) hG gates_length (hh.seg 0 rfl) hll hlr (hh.seg 1 rfl) gates_ok hlk) ?_
    refine g_alloc (fun w => Try.zeroValue25 w) rfl (fun b3 hb3 => ?_)
    refine g_storeAgg (vs := #[_, _]) (own' := (_ :: _)) 0 (fun w => Try.sizeOf25 w) rfl rfl rfl rfl rfl rfl ?_
    refine g_nil ?_
    refine g_n_then ?_
    refine g_seq ?_
    refine g_seq ?_
    refine g_region ?_
    refine g_val rfl rfl rfl (fun w _ => v_fieldAddr 0 (Try.runUnderlying25 w) rfl (Try.sizeOf3 w) rfl) ?_
    refine g_val rfl rfl rfl (fun w hh => v_load (Try.isAgg3 w) rfl (hh.cell 0 rfl rfl)) ?_
    refine g_val rfl rfl rfl (fun w _ => v_fieldAddr 1 (Try.runUnderlying25 w) rfl (Try.sizeOf3 w) rfl) ?_
    refine g_val rfl rfl rfl (fun w hh => v_load (Try.isAgg3 w) rfl (hh.cell 0 rfl rfl)) ?_
    refine g_val rfl rfl rfl (fun _ _ => v_gtr rfl rfl) ?_
    refine g_nil ?_
    refine g_n_then ?_
    refine g_cond rfl (fun hc26_1 => ?_) (fun hc26_1 => ?_)
    · replace hc26_1 := of_decide_eq_true hc26_1
      refine g_seq ?_
      refine g_region ?_
      refine g_val rfl rfl rfl (fun _ _ => v_build (vs := []) (cells := [_, _]) rfl rfl) ?_
      refine g_storeAgg (vs := #[_, _]) (own' := (_ :: _ :: _)) 1 (fun w => Try.sizeOf25 w) rfl rfl rfl rfl rfl rfl ?_
      refine g_val rfl rfl rfl (fun _ _ => v_assign rfl) ?_
      refine g_nil ?_
      refine g_n_then ?_
      refine g_ret ?_
      refine g_r_then ?_
      refine g_done rfl (fun w hh => (.cell rfl (loadVar_agg (vs := [_, _]) (Try.isAgg25 _) (Try.sizeOf25 _) (hh.cells 1 rfl rfl)) (.tmp rfl .nil))) (fun w hh => ⟨?_, hh.toExt⟩)
      simp only [retv, LooksR, encP, *, ne_eq, not_true_eq_false, not_false_eq_true, if_false, if_true, reduceIte, Int.not_lt] <;> first | rfl | (rw [if_pos (by omega)]) | (rw [if_neg (by omega)])
    · replace hc26_1 := of_decide_eq_false hc26_1
      refine g_skip ?_
      refine g_n_then ?_
      refine g_seq ?_
      refine g_region ?_
      refine g_val rfl rfl rfl (fun w hh => v_loadAgg (vs := [_, _]) (Try.isAgg25 w) (Try.sizeOf25 w) rfl (hh.cells 0 rfl rfl)) ?_
      refine g_storeAgg (vs := #[_, _]) (own' := (_ :: _ :: _)) 1 (fun w => Try.sizeOf25 w) rfl rfl rfl rfl rfl rfl ?_
      refine g_val rfl rfl rfl (fun _ _ => v_assign rfl) ?_
      refine g_nil ?_
      refine g_n_then ?_
      refine g_ret ?_
      refine g_done rfl (fun w hh => (.cell rfl (loadVar_agg (vs := [_, _]) (Try.isAgg25 _) (Try.sizeOf25 _) (hh.cells 1 rfl rfl)) (.tmp rfl .nil))) (fun w hh => ⟨?_, hh.toExt⟩)
      simp only [retv, LooksR, encP, *, ne_eq, not_true_eq_false, not_false_eq_true, if_false, if_true, reduceIte, Int.not_lt] <;> first | rfl | (rw [if_pos (by omega)]) | (rw [if_neg (by omega)])
  · refine g_callv rfl rfl rfl rfl rfl rfl rfl (fun a w => Try.call86 a w) (fun w hh => c_lookedE lr lk lc L w (hL.ext hh.toExt) hll hlr (hh.seg 0 rfl) hg) ?_
    refine g_val rfl rfl rfl (fun _ _ => v_move rfl) ?_
    refine g_val rfl rfl rfl (fun _ _ => v_extract rfl rfl) ?_
    refine g_val rfl rfl rfl (fun _ _ => v_extract rfl rfl) ?_
    refine g_val rfl rfl rfl (fun _ _ => v_assign rfl) ?_
    refine g_val rfl rfl rfl (fun _ _ => v_assign rfl) ?_
    refine g_nil ?_
    refine g_n_then ?_
    refine g_seq ?_
    refine g_seq ?_
    refine g_region ?_
    refine g_val rfl rfl rfl (fun _ _ => v_move rfl) ?_
    refine g_val rfl rfl rfl (fun _ _ => v_neq rfl rfl) ?_
    refine g_nil ?_
    refine g_n_then ?_
    refine g_condT rfl (neP hg) ?_
    refine g_seq ?_
    refine g_region ?_
    refine g_val rfl rfl rfl (fun _ _ => v_build (vs := []) (cells := [_, _]) rfl rfl) ?_
    refine g_val rfl rfl rfl (fun _ _ => v_move rfl) ?_
    refine g_storeAgg (vs := #[_, _]) (own' := (_ :: _)) 0 (fun w => Try.sizeOf25 w) rfl rfl rfl rfl rfl rfl ?_
    refine g_val rfl rfl rfl (fun _ _ => v_assign rfl) ?_
    refine g_nil ?_
    refine g_n_then ?_
    refine g_ret ?_
    refine g_r_then ?_
    refine g_done rfl (fun w hh => (.cell rfl (loadVar_agg (vs := [_, _]) (Try.isAgg25 _) (Try.sizeOf25 _) (hh.cells 0 rfl rfl)) (.tmp rfl .nil))) (fun w hh => ⟨?_, hh.toExt⟩)
    simp only [retv, LooksR, encP, *, ne_eq, not_true_eq_false, not_false_eq_true, if_false, if_true, reduceIte, Int.not_lt] <;> first | rfl | (rw [if_pos (by omega)]) | (rw [if_neg (by omega)])

end Go.Proofs

namespace Go.Proofs
open Go Go.Fw Go.Pl
set_option maxRecDepth 100000 in
theorem inf25 : (Try.prog.info? 25).map (fun i => (i.zero, i.size, i.bytes)) = some (some (.agg #[.int .i64 0, .int .i64 0]), 2, 16) := by kernel_rfl
set_option maxRecDepth 100000 in
theorem c_shut_true (w0 : World) (M : List Nat) (ro : List Sg) (X : List (Nat × Obj)) (bo bf bs : Nat) (acc : List Span) (fr : Int) (n cap : Nat) (sp : List Value) (q : Option (Nat × Nat)) (m : Int) (hv : VOK 2 n cap (flat encP acc) sp q) (hn : n ≤ 100000) (hm : -100000 ≤ m ∧ m ≤ 100000) (w : World) (hh : HS w0 M ([(bo, .cells #[.bool true] 4 (0, 0)), (bf, .cells #[.int .i64 fr] 3 (0, 0)), (bs, .cells #[slv q n cap] 77 (0, 0))] ++ (vown 25 (flat encP acc) sp q ++ X)) ro w) : Calls Try.prog 159 #[.int .i64 m, ptr bo 0, ptr bs 0, ptr bf 0] w (fun en w' => ∃ v, en = .returned v ∧ ∃ n' sp' q' cap', VOK 2 n' cap' (flat encP (acc ++ [⟨fr, m - 1⟩])) sp' q' ∧ HS w0 M ([(bo, .cells #[.bool false] 4 (0, 0)), (bf, .cells #[.int .i64 fr] 3 (0, 0)), (bs, .cells #[slv q' n' cap'] 77 (0, 0))] ++ (vown 25 (flat encP (acc ++ [⟨fr, m - 1⟩])) sp' q' ++ X)) ro w') := by
  refine g_enter (args := [.int .i64 m, ptr bo 0, ptr bs 0, ptr bf 0]) Try.func159 rfl Try.ntmps159 rfl (e := [(0, _), (1, _), (2, _), (3, _)]) rfl (hh) ?_
  refine g_seq ?_
  refine g_seq ?_
  refine g_region ?_
  refine g_val rfl rfl rfl (fun w hh => v_load (Try.isAgg4 w) rfl (hh.cell 0 rfl rfl)) ?_
  refine g_nil ?_
  refine g_n_then ?_
  refine g_condT rfl rfl ?_
  refine g_region ?_
  refine g_val rfl rfl rfl (fun w hh => v_load (Try.isAgg77 w) rfl (hh.cell 2 rfl rfl)) ?_
  refine g_val rfl rfl rfl (fun w hh => v_load (Try.isAgg3 w) rfl (hh.cell 1 rfl rfl)) ?_
  refine g_val rfl rfl rfl (fun _ _ => v_move rfl) ?_
  refine g_val rfl rfl rfl (fun _ _ => v_sub rfl rfl (wrap_i64 (by omega))) ?_
  refine g_val rfl rfl rfl (fun _ _ => v_build (vs := [(0, _), (1, _)]) (cells := [_, _]) rfl rfl) ?_
  refine g_buildSlice (vs := [(0, _)]) (cells := [_, _]) (fun w => Try.runUnderlying77 w) (fun w => Try.sizeOf25 w) (fun w => Try.zeroValue25 w) rfl rfl rfl rfl rfl (fun b1 hb1 => ?_)
  refine g_appendM [_, _, _, _] (news := [_, _]) (xs := (flat encP acc)) (sp := sp) (q := q) Try.underlying77 inf25 rfl rfl rfl hv (by simp) (by decide) rfl (fun w hh => hh.ownSeg 0 rfl) (ones_all rfl) (by simp only [maxLen]; omega) (by omega) rfl (fun q2 cap3 sp4 hv5 => ?_)
  rw [show flat encP acc ++ [.int .i64 fr, .int .i64 (m - 1)] = (flat encP (acc ++ [⟨fr, m - 1⟩])) from flat_snoc (enc := encP) (x := ⟨fr, m - 1⟩)] at hv5 ⊢
  refine g_store1 (own' := (_ :: _ :: _ :: _ :: _)) 3 (fun w => Try.sizeOf77 w) rfl rfl rfl rfl rfl ?_
  refine g_nil ?_
  refine g_n_then ?_
  refine g_region ?_
  refine g_store1 (own' := (_ :: _ :: _)) 1 (fun w => Try.sizeOf4 w) rfl rfl rfl rfl rfl ?_
  refine g_nil ?_
  refine g_doneN rfl (fun w hh => .nil) (fun w hh => ⟨_, rfl, (n + 1), sp4, (some q2), cap3, hv5, hh.dropN 1 rfl⟩)

set_option maxRecDepth 100000 in
theorem c_shut_false (w0 : World) (M : List Nat) (ro : List Sg) (X : List (Nat × Obj)) (bo bf bs : Nat) (acc : List Span) (fr : Int) (n cap : Nat) (sp : List Value) (q : Option (Nat × Nat)) (m : Int) (hv : VOK 2 n cap (flat encP acc) sp q) (hn : n ≤ 100000) (hm : -100000 ≤ m ∧ m ≤ 100000) (w : World) (hh : HS w0 M ([(bo, .cells #[.bool false] 4 (0, 0)), (bf, .cells #[.int .i64 fr] 3 (0, 0)), (bs, .cells #[slv q n cap] 77 (0, 0))] ++ (vown 25 (flat encP acc) sp q ++ X)) ro w) : Calls Try.prog 159 #[.int .i64 m, ptr bo 0, ptr bs 0, ptr bf 0] w (fun en w' => ∃ v, en = .returned v ∧ ∃ n' sp' q' cap', VOK 2 n' cap' (flat encP acc) sp' q' ∧ HS w0 M ([(bo, .cells #[.bool false] 4 (0, 0)), (bf, .cells #[.int .i64 fr] 3 (0, 0)), (bs, .cells #[slv q' n' cap'] 77 (0, 0))] ++ (vown 25 (flat encP acc) sp' q' ++ X)) ro w') := by
  refine g_enter (args := [.int .i64 m, ptr bo 0, ptr bs 0, ptr bf 0]) Try.func159 rfl Try.ntmps159 rfl (e := [(0, _), (1, _), (2, _), (3, _)]) rfl (hh) ?_
  refine g_seq ?_
  refine g_seq ?_
  refine g_region ?_
  refine g_val rfl rfl rfl (fun w hh => v_load (Try.isAgg4 w) rfl (hh.cell 0 rfl rfl)) ?_
  refine g_nil ?_
  refine g_n_then ?_
  refine g_condF rfl rfl ?_
  refine g_skip ?_
  refine g_n_then ?_
  refine g_region ?_
  refine g_store1 (own' := (_ :: _)) 0 (fun w => Try.sizeOf4 w) rfl rfl rfl rfl rfl ?_
  refine g_nil ?_
  refine g_doneN rfl (fun w hh => .nil) (fun w hh => ⟨_, rfl, n, sp, q, cap, hv, hh⟩)

structure ShutI where
  n : Nat
  sp : List Value
  q : Option (Nat × Nat)
  cap : Nat
  v : Value
theorem c_shut (w0 : World) (M : List Nat) (ro : List Sg) (B1 : Nat × Obj) (bo bf bs : Nat) (x : SpanSt) (n cap : Nat) (sp : List Value) (q : Option (Nat × Nat)) (m : Int) (hv : VOK 2 n cap (flat encP x.acc) sp q) (hn : n ≤ 100000) (hm : -100000 ≤ m ∧ m ≤ 100000) (w : World)
    (hh : HS w0 M (([(bo, .cells #[.bool x.op] 4 (0, 0)), (bf, .cells #[.int .i64 x.fr] 3 (0, 0)), (bs, .cells #[slv q n cap] 77 (0, 0))] ++ [B1]) ++ (vown 25 (flat encP x.acc) sp q ++ [])) ro w) :
    Calls Try.prog 159 #[.int .i64 m, ptr bo 0, ptr bs 0, ptr bf 0] w (fun en w' => ∃ i : ShutI, en = .returned i.v ∧ (VOK 2 i.n i.cap (flat encP (shutF x m).acc) i.sp i.q ∧ HS w0 M (([(bo, .cells #[.bool (shutF x m).op] 4 (0, 0)), (bf, .cells #[.int .i64 (shutF x m).fr] 3 (0, 0)), (bs, .cells #[slv i.q i.n i.cap] 77 (0, 0))] ++ [B1]) ++ (vown 25 (flat encP (shutF x m).acc) i.sp i.q ++ [])) ro w')) := by
  have hh2 := hh.perm (perm_call (A := [B1]) (B := [_, _, _]) (V := vown 25 (flat encP x.acc) sp q))
  obtain ⟨acc, fr, op⟩ := x
  cases op
  · refine (c_shut_false w0 M ro [B1] bo bf bs acc fr n cap sp q m hv hn hm w hh2).mono ?_
    rintro en w' ⟨v, rfl, n', sp', q', cap', hv', h'⟩
    exact ⟨⟨n', sp', q', cap', v⟩, rfl, hv', h'.perm (perm_call (A := [B1]) (B := [_, _, _]) (V := vown 25 (flat encP acc) sp' q')).symm⟩
  · refine (c_shut_true w0 M ro [B1] bo bf bs acc fr n cap sp q m hv hn hm w hh2).mono ?_
    rintro en w' ⟨v, rfl, n', sp', q', cap', hv', h'⟩
    exact ⟨⟨n', sp', q', cap', v⟩, rfl, hv', h'.perm (perm_call (A := [B1]) (B := [_, _, _]) (V := vown 25 (flat encP (acc ++ [⟨fr, m - 1⟩])) sp' q')).symm⟩

set_option maxRecDepth 100000 in
theorem c_spans (L : LS) (bd : Nat) (g : List Int) (fv : FuncId) (fst cp : Array Value) (p : Int → Bool) (w : World) (hL : L.OK w) (hG : Good L.S) (hgl : g.length = 8) (hd : segOK w (bd, 0, L.cells ++ ints g)) (hcall : ∀ a w, (callFunc fv a).run Try.prog w = .ok (.enter fv a) w) (hf : ∀ w', Ext [] w w' → ∀ m, dayF L.S m = true → Ret Try.prog fv (fst.toList ++ [.int .i64 m] ++ cp.toList) w' (.bool (p m))) : Calls Try.prog 118 #[ptr bd 0, .agg #[.func (.func fv) fst cp]] w (fun en w' => ∃ q cap, en = .returned (slv q (spansF L.S p).length cap) ∧ SlOK q (spansF L.S p).length cap ∧ News w w' [(bk q, off q, flat encP (spansF L.S p))]) := by
  have hlt := hL.tl
  have hlf := hL.fl
  have hls := hL.sl
  have hfl8 := hG.fl
  have htl12 := hG.tl
  have hds := day_span hG
  have hdn := dayN_eq hG
  have efm : firstM L.S = (L.S.table.getD 0 default).min := rfl
  have elm : lastM L.S = (L.S.table.getD (L.S.table.length - 1) default).min := rfl
  refine g_enter (args := [ptr bd 0, .agg #[.func (.func fv) fst cp]]) Try.func118 rfl Try.ntmps118 rfl (e := [(0, _), (1, _)]) rfl (HS.start w [] ((bd, 0, L.cells ++ ints g) :: L.segs) (segsC hd hL.segs)) ?_
  refine g_seq ?_
  refine g_region ?_
  refine g_box rfl rfl (fun b1 hb1 => ?_)
  refine g_val rfl rfl rfl (fun _ _ => v_nilSlice rfl rfl) ?_
  refine g_nil ?_
  refine g_n_then ?_
  refine g_seq ?_
  refine g_region ?_
  refine g_alloc (fun w => Try.zeroValue77 w) rfl (fun b2 hb2 => ?_)
  refine g_nil ?_
  refine g_n_then ?_
  refine g_seq ?_
  refine g_draw none (.free 0 (.free 1 (.free 2 (.free 3 (.hoist 4 (.hoist 5 (.free 6 (.hoist 7 (.free 8 (.free 9 (.free 10 (.free 11 (.hoist 12 (.free 13 (.free 14 (.free 15 (.free 16 (.hoist 17 (.free 18 (.free 19 (.hoist 20 (.free 21 (.hoist 22 (.free 23 (.free 24 .done))))))))))))))))))))))))) _ rfl (by decide +kernel) (fun w k hh => hh.draw k) (fun w hh => hh) ?_
  refine p_free rfl rfl rfl rfl (fun _ _ => v_move rfl) ?_
  refine p_free rfl rfl rfl rfl (fun _ _ => v_nilCheck rfl) ?_
  refine p_free rfl rfl rfl rfl (fun w _ => v_fieldAddr 0 (Try.runUnderlying157 w) rfl (Try.sizeOf29 w) rfl) ?_
  refine p_free rfl rfl rfl rfl (fun w _ => v_fieldAddr 0 (Try.runUnderlying29 w) rfl (Try.sizeOf23 w) rfl) ?_
  refine p_hoist rfl rfl rfl rfl (fun w hh => v_load (Try.isAgg23 w) rfl (hh.rcell 0 0 rfl rfl)) ?_
  refine p_hoist rfl rfl rfl rfl (fun w _ => v_indexAddr 0 (Try.runUnderlying23 w) (Try.sizeOf68 w) rfl rfl rfl (by omega) (hL.t0 (by omega))) ?_
  refine p_free rfl rfl rfl rfl (fun w _ => v_fieldAddr 0 (Try.runUnderlying68 w) rfl (Try.sizeOf3 w) rfl) ?_
  refine p_hoist rfl rfl rfl rfl (fun w hh => v_load (Try.isAgg3 w) rfl (hh.fld (j := 0) encW_len 1 0 rfl (by omega) rfl rfl)) ?_
  refine p_free rfl rfl rfl rfl (fun _ _ => v_move rfl) ?_
  refine p_free rfl rfl rfl rfl (fun _ _ => v_nilCheck rfl) ?_
  refine p_free rfl rfl rfl rfl (fun w _ => v_fieldAddr 0 (Try.runUnderlying157 w) rfl (Try.sizeOf29 w) rfl) ?_
  refine p_free rfl rfl rfl rfl (fun w _ => v_fieldAddr 0 (Try.runUnderlying29 w) rfl (Try.sizeOf23 w) rfl) ?_
  refine p_hoist rfl rfl rfl rfl (fun w hh => v_load (Try.isAgg23 w) rfl (hh.rcell 0 0 rfl rfl)) ?_
  refine p_free rfl rfl rfl rfl (fun _ _ => v_move rfl) ?_
  refine p_free rfl rfl rfl rfl (fun _ _ => v_nilCheck rfl) ?_
  refine p_free rfl rfl rfl rfl (fun w _ => v_fieldAddr 0 (Try.runUnderlying157 w) rfl (Try.sizeOf29 w) rfl) ?_
  refine p_free rfl rfl rfl rfl (fun w _ => v_fieldAddr 0 (Try.runUnderlying29 w) rfl (Try.sizeOf23 w) rfl) ?_
  refine p_hoist rfl rfl rfl rfl (fun w hh => v_load (Try.isAgg23 w) rfl (hh.rcell 0 0 rfl rfl)) ?_
  refine p_free rfl rfl rfl rfl (fun w _ => v_lenS (Try.runUnderlying23 w) rfl) ?_
  refine p_free rfl rfl rfl rfl (fun _ _ => v_sub rfl rfl (wrap_i64 (by omega))) ?_
  refine p_hoist rfl rfl rfl rfl (fun w _ => v_indexAddr (L.S.table.length - 1) (Try.runUnderlying23 w) (Try.sizeOf68 w) rfl rfl (by omega) (by omega) (hL.t0 (by omega))) ?_
  refine p_free rfl rfl rfl rfl (fun w _ => v_fieldAddr 0 (Try.runUnderlying68 w) rfl (Try.sizeOf3 w) rfl) ?_
  refine p_hoist rfl rfl rfl rfl (fun w hh => v_load (Try.isAgg3 w) rfl (hh.fld (j := (L.S.table.length - 1)) encW_len 1 0 rfl (by omega) rfl rfl)) ?_
  refine p_free rfl rfl rfl rfl (fun _ _ => v_assign rfl) ?_
  refine p_free rfl rfl rfl rfl (fun _ _ => v_assign rfl) ?_
  refine p_done ?_
  refine g_n_then ?_
  refine g_seq ?_
  refine g_region ?_
  refine g_alloc (fun w => Try.zeroValue3 w) rfl (fun b3 hb3 => ?_)
  refine g_alloc (fun w => Try.zeroValue4 w) rfl (fun b4 hb4 => ?_)
  refine g_store1 (own' := (_ :: _ :: _)) 1 (fun w => Try.sizeOf3 w) rfl rfl rfl rfl rfl ?_
  refine g_store1 (own' := (_ :: _)) 0 (fun w => Try.sizeOf4 w) rfl rfl rfl rfl rfl ?_
  refine g_nil ?_
  refine g_n_then ?_
  refine g_seq ?_
  refine g_region ?_
  refine g_val rfl rfl rfl (fun _ _ => v_makeFunc (u := #[]) (u' := #[_, _, _]) rfl rfl) ?_
  refine g_val rfl rfl rfl (fun _ _ => v_assign rfl) ?_
  refine g_nil ?_
  refine g_n_then ?_
  refine g_seq ?_
  refine g_seq ?_
  refine g_region ?_
  refine g_val rfl rfl rfl (fun _ _ => v_move rfl) ?_
  refine g_val rfl rfl rfl (fun _ _ => v_move rfl) ?_
  refine g_val rfl rfl rfl (fun _ _ => v_sub rfl rfl (wrap_i64 (by omega))) ?_
  refine g_val rfl rfl rfl (fun _ _ => v_add rfl rfl (wrap_i64 (by omega))) ?_
  refine g_val rfl rfl rfl (fun _ _ => v_move rfl) ?_
  refine g_nil ?_
  refine g_n_then ?_
  refine g_block ?_
  refine g_sub (e' := [(41, _), (3, _), (5, _), (6, _), (7, _), (8, _), (9, _), (10, _), (40, _)]) ((.cons rfl (.cons rfl (.cons rfl (.cons rfl (.cons rfl (.cons rfl (.cons rfl (.cons rfl (.cons rfl .nil)))))))))) ?_
  refine g_loopV (ι := Nat × SpanSt × Nat × List Value × Option (Nat × Nat) × Nat) (ofix := [_]) (fun (k, x, n, sp, q, cap) => [(41, .int .i64 (k : Nat))]) (fun (k, x, n, sp, q, cap) => [(b4, .cells #[.bool x.op] 4 (0, 0)), (b3, .cells #[.int .i64 x.fr] 3 (0, 0)), (b2, .cells #[slv q n cap] 77 (0, 0))]) (fun (k, x, n, sp, q, cap) => vown 25 (flat encP x.acc) sp q ++ []) (fun (k, x, n, sp, q, cap) => k ≤ dayN L.S ∧ VOK 2 n cap (flat encP x.acc) sp q ∧ x = spansN p (firstM L.S) k) (fun (k, x, n, sp, q, cap) => dayN L.S - k) (0, ⟨[], 0, false⟩, 0, [], none, 0) (⟨Nat.zero_le _, VOK.nil, rfl⟩) ?_
  intro ⟨k, x, n, sp, q, cap⟩ hI0
  simp only at hI0
  have hxl : x.acc.length ≤ k := by rw [hI0.2.2]; exact spansN_len
  have hnl := vok_len encP_len (by decide) hI0.2.1
  refine g_seq ?_
  refine g_region ?_
  refine g_val rfl rfl rfl (fun _ _ => v_lss rfl rfl) ?_
  refine g_nil ?_
  refine g_n_then ?_
  refine g_seq ?_
  refine g_cond rfl (fun h42 => ?_) (fun h42 => ?_)
  · replace h42 := of_decide_eq_true h42
    have hkk : firstM L.S + (k : Nat) ≤ lastM L.S := by omega
    have hday := day_of (s := L.S) (m := firstM L.S + (k : Nat)) ⟨by omega, hkk⟩
    refine g_skip ?_
    refine g_n_then ?_
    refine g_seq ?_
    refine g_block ?_
    refine g_seq ?_
    refine g_region ?_
    refine g_val rfl rfl rfl (fun _ _ => v_move rfl) ?_
    refine g_val rfl rfl rfl (fun _ _ => v_assign rfl) ?_
    refine g_nil ?_
    refine g_n_then ?_
    refine g_seq ?_
    refine g_region ?_
    refine g_val rfl rfl rfl (fun w _ => v_fieldAddr 0 (Try.runUnderlying168 w) rfl (Try.sizeOf129 w) rfl) ?_
    refine g_val rfl rfl rfl (fun w hh => v_load (Try.isAgg129 w) rfl (hh.cell 3 rfl rfl)) ?_
    refine g_val rfl rfl rfl (fun _ _ => v_move rfl) ?_
    refine g_val rfl rfl rfl (fun _ _ => v_move rfl) ?_
    refine g_val rfl rfl rfl (fun _ _ => v_add rfl rfl (wrap_i64 (by omega))) ?_
    refine g_callv rfl rfl rfl rfl rfl rfl rfl hcall (fun w hh => hf w hh.toExt _ hday) ?_
    refine g_val rfl rfl rfl (fun _ _ => v_assign rfl) ?_
    refine g_nil ?_
    refine g_n_then ?_
    refine g_block ?_
    refine g_seq ?_
    refine g_region ?_
    refine g_val rfl rfl rfl (fun _ _ => v_move rfl) ?_
    refine g_val rfl rfl rfl (fun _ _ => v_not rfl) ?_
    refine g_val rfl rfl rfl (fun _ _ => v_assign rfl) ?_
    refine g_nil ?_
    refine g_n_then ?_
    refine g_cond rfl (fun hp => ?_) (fun hp => ?_)
    · replace hp := of_not_true hp
      refine g_region ?_
      refine g_val rfl rfl rfl (fun _ _ => v_move rfl) ?_
      refine g_val rfl rfl rfl (fun _ _ => v_move rfl) ?_
      refine g_val rfl rfl rfl (fun _ _ => v_move rfl) ?_
      refine g_val rfl rfl rfl (fun _ _ => v_add rfl rfl (wrap_i64 (by omega))) ?_
      refine g_call rfl rfl rfl rfl rfl rfl rfl (fun a w => Try.call159 a w) (fun w hh => c_shut _ _ _ _ b4 b3 b2 x n cap sp q (firstM L.S + (k : Nat)) hI0.2.1 (by omega) (by omega) w hh) (fun i5 => ?_)
      refine g_pure (fun w hh => hh.1) (fun hvi5 => ?_)
      refine G.pre ?_ (fun w hh => hh.2)
      refine g_nil ?_
      refine g_n_blk ?_
      refine g_n_blk ?_
      refine g_n_then ?_
      refine g_region ?_
      refine g_val rfl rfl rfl (fun _ _ => v_add rfl rfl (wrap_i64 (by omega))) ?_
      refine g_val rfl rfl rfl (fun _ _ => v_move rfl) ?_
      refine g_nil ?_
      refine g_n_then ?_
      exact g_againV (pre := [_, _, _, _]) (i := ⟨k, x, n, sp, q, cap⟩) (k + 1, shutF x (firstM L.S + (k : Nat)), i5.n, i5.sp, i5.q, i5.cap) [0, 1, 2, 3] ((.cons rfl (.cons rfl (.cons rfl (.cons rfl (.cons rfl (.cons rfl (.cons rfl (.cons rfl (.cons rfl .nil)))))))))) (by decide) rfl rfl (⟨by omega, hvi5, by rw [spansN_succ, ← hI0.2.2]; exact (stepF hp).symm⟩) (by simp only; omega)
    · replace hp := of_not_false hp
      refine g_seq ?_
      refine g_region ?_
      refine g_val rfl rfl rfl (fun w hh => v_load (Try.isAgg4 w) rfl (hh.cell 0 rfl rfl)) ?_
      refine g_val rfl rfl rfl (fun _ _ => v_not rfl) ?_
      refine g_val rfl rfl rfl (fun _ _ => v_assign rfl) ?_
      refine g_nil ?_
      refine g_n_then ?_
      refine g_cond rfl (fun ho => ?_) (fun ho => ?_)
      · replace ho := of_not_true ho
        refine g_region ?_
        refine g_val rfl rfl rfl (fun _ _ => v_move rfl) ?_
        refine g_val rfl rfl rfl (fun _ _ => v_move rfl) ?_
        refine g_val rfl rfl rfl (fun _ _ => v_add rfl rfl (wrap_i64 (by omega))) ?_
        refine g_store1 (own' := (_ :: _ :: _)) 1 (fun w => Try.sizeOf3 w) rfl rfl rfl rfl rfl ?_
        refine g_store1 (own' := (_ :: _)) 0 (fun w => Try.sizeOf4 w) rfl rfl rfl rfl rfl ?_
        refine g_nil ?_
        refine g_n_blk ?_
        refine g_n_blk ?_
        refine g_n_then ?_
        refine g_region ?_
        refine g_val rfl rfl rfl (fun _ _ => v_add rfl rfl (wrap_i64 (by omega))) ?_
        refine g_val rfl rfl rfl (fun _ _ => v_move rfl) ?_
        refine g_nil ?_
        refine g_n_then ?_
        exact g_againV (pre := [_, _, _, _]) (i := ⟨k, x, n, sp, q, cap⟩) (k + 1, ⟨x.acc, firstM L.S + (k : Nat), true⟩, n, sp, q, cap) [0, 1, 2, 3] ((.cons rfl (.cons rfl (.cons rfl (.cons rfl (.cons rfl (.cons rfl (.cons rfl (.cons rfl (.cons rfl .nil)))))))))) (by decide) rfl rfl (⟨by omega, hI0.2.1, by rw [spansN_succ, ← hI0.2.2]; exact (stepTF hp ho).symm⟩) (by simp only; omega)
      · replace ho := of_not_false ho
        refine g_skip ?_
        refine g_n_blk ?_
        refine g_n_blk ?_
        refine g_n_then ?_
        refine g_region ?_
        refine g_val rfl rfl rfl (fun _ _ => v_add rfl rfl (wrap_i64 (by omega))) ?_
        refine g_val rfl rfl rfl (fun _ _ => v_move rfl) ?_
        refine g_nil ?_
        refine g_n_then ?_
        exact g_againV (pre := [_, _, _, _]) (i := ⟨k, x, n, sp, q, cap⟩) (k + 1, x, n, sp, q, cap) [0, 1, 2, 3] ((.cons rfl (.cons rfl (.cons rfl (.cons rfl (.cons rfl (.cons rfl (.cons rfl (.cons rfl (.cons rfl .nil)))))))))) (by decide) rfl rfl (⟨by omega, hI0.2.1, by rw [spansN_succ, ← hI0.2.2]; exact (stepTT hp ho).symm⟩) (by simp only; omega)
  · replace h42 := of_decide_eq_false h42
    have ek : k = dayN L.S := by omega
    subst ek
    refine g_exit ?_
    refine g_x_then ?_
    refine g_x_then ?_
    refine g_x_blk ?_
    refine g_n_then ?_
    refine g_seq ?_
    refine g_region ?_
    refine g_val rfl rfl rfl (fun _ _ => v_move rfl) ?_
    refine g_val rfl rfl rfl (fun _ _ => v_move rfl) ?_
    refine g_val rfl rfl rfl (fun _ _ => v_add rfl rfl (wrap_i64 (by omega))) ?_
    refine g_call rfl rfl rfl rfl rfl rfl rfl (fun a w => Try.call159 a w) (fun w hh => c_shut _ _ _ _ b4 b3 b2 x n cap sp q (lastM L.S + 1) hI0.2.1 (by omega) (by omega) w hh) (fun i6 => ?_)
    refine g_pure (fun w hh => hh.1) (fun hvi6 => ?_)
    refine G.pre ?_ (fun w hh => hh.2)
    refine g_nil ?_
    refine g_n_then ?_
    refine g_seq ?_
    refine g_region ?_
    refine g_val rfl rfl rfl (fun w hh => v_load (Try.isAgg77 w) rfl (hh.cell 2 rfl rfl)) ?_
    refine g_val rfl rfl rfl (fun _ _ => v_assign rfl) ?_
    refine g_nil ?_
    refine g_n_then ?_
    refine g_ret ?_
    have eF : spansF L.S p = (shutF x (lastM L.S + 1)).acc := by rw [hI0.2.2]; rfl
    refine g_done rfl (fun w hh => (.tmp rfl .nil)) (fun w hh => ?_)
    rw [eF]
    exact ⟨i6.q, i6.cap, by rw [vok_len encP_len (by decide) hvi6]; rfl, by rw [vok_len encP_len (by decide) hvi6]; exact hvi6.sl, hh.vec [_, _, _, _] hvi6.hoff hvi6.noneNil⟩

end Go.Proofs

namespace Go.Proofs
open Go Go.Fw Go.Pl
set_option maxRecDepth 100000 in
theorem c_Spans1 (L : LS) (bd : Nat) (g : List Int) (m p st : Int) (b8 b4 b5 : Nat) (w : World) (hL : L.OK w) (hG : Good L.S) (hgl : g.length = 8) (hd : segOK w (bd, 0, L.cells ++ ints g)) (hday : dayF L.S m = true) (hp : 0 ≤ p ∧ p < 8) (h8 : segOK w (b8, 0, [ptr bd 0])) (h4 : segOK w (b4, 0, [.int .i64 p])) (h5 : segOK w (b5, 0, [.int .i64 st])) : Ret Try.prog 119 [.int .i64 m, ptr b8 0, ptr b4 0, ptr b5 0] w (.bool (decide (stateG L.S (g.getD p.toNat 0) m = st))) := by
  have hlt := hL.tl
  have hlf := hL.fl
  have hls := hL.sl
  have hfl8 := hG.fl
  have htl12 := hG.tl
  refine g_enter (args := [.int .i64 m, ptr b8 0, ptr b4 0, ptr b5 0]) Try.func119 rfl Try.ntmps119 rfl (e := [(0, _), (1, _), (2, _), (3, _)]) rfl (HS.start w [] ((b8, 0, [ptr bd 0]) :: (b4, 0, [.int .i64 p]) :: (b5, 0, [.int .i64 st]) :: (bd, 0, L.cells ++ ints g) :: L.segs) (segsC h8 (segsC h4 (segsC h5 (segsC hd hL.segs))))) ?_
  refine g_seq ?_
  refine g_region ?_
  refine g_val rfl rfl rfl (fun _ _ => v_assign rfl) ?_
  refine g_nil ?_
  refine g_n_then ?_
  refine g_seq ?_
  refine g_draw none (.hoist 0 (.free 1 (.hoist 2 (.hoist 4 (.one 3 (.free 5 (.free 6 .done))))))) _ rfl (by decide +kernel) (fun w k hh => hh.draw k) (fun w hh => hh) ?_
  refine p_hoist rfl rfl rfl rfl (fun w hh => v_load (Try.isAgg139 w) rfl (hh.rcell 0 0 rfl rfl)) ?_
  refine p_free rfl rfl rfl rfl (fun _ _ => v_move rfl) ?_
  refine p_hoist rfl rfl rfl rfl (fun w hh => v_load (Try.isAgg3 w) rfl (hh.rcell 1 0 rfl rfl)) ?_
  refine p_hoist rfl rfl rfl rfl (fun w hh => v_load (Try.isAgg46 w) rfl (hh.rcell 2 0 rfl rfl)) ?_
  refine p_one rfl ?_
  refine g_callv rfl rfl rfl rfl rfl rfl rfl (fun a w => Try.call104 a w) (fun w hh => c_at L bd g _ _ w (hL.ext hh.toExt) hG hgl (hh.seg 3 rfl) (by assumption) (by omega)) ?_
  refine p_next (fun w hh => hh) ?_
  refine p_free rfl rfl rfl rfl (fun _ _ => v_eql rfl rfl) ?_
  refine p_free rfl rfl rfl rfl (fun _ _ => v_assign rfl) ?_
  refine p_done ?_
  refine g_n_then ?_
  refine g_ret ?_
  refine g_done rfl (fun w hh => (.tmp rfl .nil)) (fun w hh => ⟨?_, hh.toExt⟩)
  rfl

set_option maxRecDepth 100000 in
theorem c_Spans (p st : Int) (L : LS) (w : World) (hL : L.OK w) : Calls Try.prog 47 #[L.val, .int .i64 p, .int .i64 st] w (fun en w' => ∃ q cap, en = .returned (.tuple #[slv q (SpansR L.S p st).1.length cap, .int .i64 (SpansR L.S p st).2]) ∧ SlOK q (SpansR L.S p st).1.length cap ∧ News w w' [(bk q, off q, flat encP (SpansR L.S p st).1)]) := by
  have hlt := hL.tl
  have hlf := hL.fl
  have hls := hL.sl
  refine g_enter (args := [L.val, .int .i64 p, .int .i64 st]) Try.func47 rfl Try.ntmps47 rfl (e := [(0, _), (1, _), (2, _)]) rfl (HS.start w [] L.segs hL.segs) ?_
  refine g_seq ?_
  refine g_region ?_
  refine g_box rfl rfl (fun b1 hb1 => ?_)
  refine g_box rfl rfl (fun b2 hb2 => ?_)
  refine g_box rfl rfl (fun b3 hb3 => ?_)
  refine g_val rfl rfl rfl (fun _ _ => v_nilSlice rfl rfl) ?_
  refine g_val rfl rfl rfl (fun _ _ => v_assign rfl) ?_
  refine g_nil ?_
  refine g_n_then ?_
  refine g_seq ?_
  refine g_region ?_
  refine g_val rfl rfl rfl (fun w hh => v_loadAgg (vs := [_, _, _, _, _]) (Try.isAgg29 w) (Try.sizeOf29 w) rfl (hh.cells 2 rfl rfl)) ?_
  by_cases hc : check L.S = 0
  · have hG := good_of_check hc
    have hfl8 := hG.fl
    have htl12 := hG.tl
    have hsl16 := hG.sl
    refine g_callR (ι := Nat) (p := fun _ => True) (S := fun bd => [(bd, 0, L.cells ++ ints (gatesOf L.S))]) (ret := fun bd => .tuple #[ptr bd 0, .int .i64 0]) rfl rfl rfl rfl rfl rfl rfl (fun a w => Try.call102 a w) (fun w hh => c_openedR L w (hL.ext hh.toExt) hc) (fun bd _ => ?_)
    refine g_val rfl rfl rfl (fun _ _ => v_move rfl) ?_
    refine g_val rfl rfl rfl (fun _ _ => v_extract rfl rfl) ?_
    refine g_val rfl rfl rfl (fun _ _ => v_extract rfl rfl) ?_
    refine g_alloc (fun w => Try.zeroValue139 w) rfl (fun b4 hb4 => ?_)
    refine g_store1 (own' := (_ :: _)) 0 (fun w => Try.sizeOf139 w) rfl rfl rfl rfl rfl ?_
    refine g_val rfl rfl rfl (fun _ _ => v_assign rfl) ?_
    refine g_nil ?_
    refine g_n_then ?_
    refine g_seq ?_
    refine g_block ?_
    refine g_seq ?_
    refine g_region ?_
    refine g_val rfl rfl rfl (fun _ _ => v_move rfl) ?_
    refine g_val rfl rfl rfl (fun _ _ => v_neq rfl rfl) ?_
    refine g_val rfl rfl rfl (fun _ _ => v_assign rfl) ?_
    refine g_nil ?_
    refine g_n_then ?_
    refine g_condF rfl rfl ?_
    refine g_seq ?_
    refine g_draw none (.hoist 0 (.free 1 (.free 2 (.hoist 3 (.hoist 4 (.one 5 (.free 6 (.free 7 .done)))))))) _ rfl (by decide +kernel) (fun w k hh => hh.draw k) (fun w hh => hh) ?_
    refine p_hoist rfl rfl rfl rfl (fun w hh => v_load (Try.isAgg139 w) rfl (hh.cell 0 rfl rfl)) ?_
    refine p_free rfl rfl rfl rfl (fun _ _ => v_nilCheck rfl) ?_
    refine p_free rfl rfl rfl rfl (fun w _ => v_fieldAddr 0 (Try.runUnderlying157 w) rfl (Try.sizeOf29 w) rfl) ?_
    refine p_hoist rfl rfl rfl rfl (fun w hh => v_loadAgg (vs := [_, _, _, _, _]) (Try.isAgg29 w) (Try.sizeOf29 w) rfl (hh.rcells 0 0 rfl rfl)) ?_
    refine p_hoist rfl rfl rfl rfl (fun w hh => v_load (Try.isAgg3 w) rfl (hh.cell 2 rfl rfl)) ?_
    refine p_one rfl ?_
    refine g_callv rfl rfl rfl rfl rfl rfl rfl (fun a w => Try.call89 a w) (fun w hh => c_place _ L w (hL.ext hh.toExt)) ?_
    refine p_next (fun w hh => hh) ?_
    refine p_free rfl rfl rfl rfl (fun _ _ => v_not rfl) ?_
    refine p_free rfl rfl rfl rfl (fun _ _ => v_assign rfl) ?_
    refine p_done ?_
    refine g_n_then ?_
    refine g_cond rfl (fun hc19_1 => ?_) (fun hc19_1 => ?_)
    · replace hc19_1 := of_not_true hc19_1
      have hc19_1 := hc19_1
      refine g_seq ?_
      refine g_region ?_
      refine g_val rfl rfl rfl (fun _ _ => v_nilSlice rfl rfl) ?_
      refine g_val rfl rfl rfl (fun _ _ => v_assign rfl) ?_
      refine g_nil ?_
      refine g_n_then ?_
      refine g_ret ?_
      refine g_r_blk ?_
      refine g_r_then ?_
      refine g_done rfl (fun w hh => (.tmp rfl (.tmp rfl .nil))) (fun w hh => ?_)
      have ee : spansE L.S p st = 1 := by simp only [spansE, *, ne_eq, not_true_eq_false, not_false_eq_true, if_false, if_true, reduceIte, Bool.true_eq_false]
      have ea : SpansR L.S p st = ([], 1) := by simp only [SpansR, ee]; rw [if_pos (by decide)]
      rw [ea]
      exact ⟨none, 0, rfl, .nil, (News.nil hh.toExt).cons segOK.nil (fun h => absurd rfl h)⟩
    · replace hc19_1 := of_not_false hc19_1
      have hpl := isPlace_iff.1 hc19_1
      refine g_seq ?_
      refine g_region ?_
      refine g_val rfl rfl rfl (fun w hh => v_load (Try.isAgg46 w) rfl (hh.cell 1 rfl rfl)) ?_
      refine g_callv rfl rfl rfl rfl rfl rfl rfl (fun a w => Try.call90 a w) (fun w hh => c_in _ _ _ w) ?_
      refine g_val rfl rfl rfl (fun _ _ => v_not rfl) ?_
      refine g_val rfl rfl rfl (fun _ _ => v_assign rfl) ?_
      refine g_nil ?_
      refine g_n_then ?_
      refine g_cond rfl (fun hc27_2 => ?_) (fun hc27_2 => ?_)
      · replace hc27_2 := of_not_true hc27_2
        refine g_seq ?_
        refine g_region ?_
        refine g_val rfl rfl rfl (fun _ _ => v_nilSlice rfl rfl) ?_
        refine g_val rfl rfl rfl (fun _ _ => v_assign rfl) ?_
        refine g_nil ?_
        refine g_n_then ?_
        refine g_ret ?_
        refine g_r_blk ?_
        refine g_r_then ?_
        refine g_done rfl (fun w hh => (.tmp rfl (.tmp rfl .nil))) (fun w hh => ?_)
        have ee : spansE L.S p st = 8 := by simp only [spansE, *, ne_eq, not_true_eq_false, not_false_eq_true, if_false, if_true, reduceIte, Bool.true_eq_false]
        have ea : SpansR L.S p st = ([], 8) := by simp only [SpansR, ee]; rw [if_pos (by decide)]
        rw [ea]
        exact ⟨none, 0, rfl, .nil, (News.nil hh.toExt).cons segOK.nil (fun h => absurd rfl h)⟩
      · replace hc27_2 := of_not_false hc27_2
        refine g_skip ?_
        refine g_n_blk ?_
        refine g_n_then ?_
        refine g_seq ?_
        refine g_region ?_
        refine g_val rfl rfl rfl (fun w hh => v_load (Try.isAgg139 w) rfl (hh.cell 0 rfl rfl)) ?_
        refine g_val rfl rfl rfl (fun _ _ => v_makeFunc (u := #[]) (u' := #[_, _, _]) rfl rfl) ?_
        refine g_val rfl rfl rfl (fun _ _ => v_build (vs := [(0, _)]) (cells := [_]) rfl rfl) ?_
        refine g_callR (ι := Option (Nat × Nat) × Nat) (p := fun i => SlOK i.1 (spansF L.S (isState L.S p st)).length i.2 ∧ (flat encP (spansF L.S (isState L.S p st)) ≠ [] → w.heap.size ≤ bk i.1)) (S := fun i => [(bk i.1, off i.1, flat encP (spansF L.S (isState L.S p st)))]) (ret := fun i => slv i.1 (spansF L.S (isState L.S p st)).length i.2) rfl rfl rfl rfl rfl rfl rfl (fun a w => Try.call118 a w) (fun w1 hh => (c_spans L bd (gatesOf L.S) 119 #[] #[ptr b4 0, ptr b2 0, ptr b3 0] (isState L.S p st) w1 (hL.ext hh.toExt) hG gates_length (hh.seg 0 rfl) (fun a w => Try.call119 a w) (fun w2 hx m hm => c_Spans1 L bd (gatesOf L.S) m p st b4 b2 b3 w2 ((hL.ext hh.toExt).ext hx) hG gates_length ((hh.seg 0 rfl).ext hx (by simp)) hm (by omega) ((hh.ownSeg 0 rfl).ext hx (by simp)) ((hh.ownSeg 2 rfl).ext hx (by simp)) ((hh.ownSeg 1 rfl).ext hx (by simp)))).mono (by rintro en w' ⟨q, cap, rfl, h1, h2⟩; exact ⟨(q, cap), rfl, ⟨h1, fun hn => Nat.le_trans hh.size (h2.new _ List.mem_cons_self hn)⟩, h2⟩)) (fun q5 hhq5 => ?_)
        have hq5 := hhq5.1
        have hq5n := hhq5.2
        refine g_val rfl rfl rfl (fun _ _ => v_assign rfl) ?_
        refine g_val rfl rfl rfl (fun _ _ => v_assign rfl) ?_
        refine g_nil ?_
        refine g_n_then ?_
        refine g_ret ?_
        refine g_done rfl (fun w hh => (.tmp rfl (.tmp rfl .nil))) (fun w hh => ?_)
        have ee : spansE L.S p st = 0 := by simp only [spansE, *, ne_eq, not_true_eq_false, if_false, Bool.true_eq_false]
        have ea : SpansR L.S p st = (spansF L.S (isState L.S p st), 0) := by simp only [SpansR, ee]; rw [if_neg (by decide)]
        rw [ea]
        exact ⟨q5.1, q5.2, rfl, hq5, (News.nil hh.toExt).cons (hh.seg 0 rfl) (fun h => hq5n h)⟩
  · refine g_callv rfl rfl rfl rfl rfl rfl rfl (fun a w => Try.call102 a w) (fun w hh => c_openedE L w (hL.ext hh.toExt) hc) ?_
    refine g_val rfl rfl rfl (fun _ _ => v_move rfl) ?_
    refine g_val rfl rfl rfl (fun _ _ => v_extract rfl rfl) ?_
    refine g_val rfl rfl rfl (fun _ _ => v_extract rfl rfl) ?_
    refine g_alloc (fun w => Try.zeroValue139 w) rfl (fun b6 hb6 => ?_)
    refine g_store1 (own' := (_ :: _)) 0 (fun w => Try.sizeOf139 w) rfl rfl rfl rfl rfl ?_
    refine g_val rfl rfl rfl (fun _ _ => v_assign rfl) ?_
    refine g_nil ?_
    refine g_n_then ?_
    refine g_seq ?_
    refine g_block ?_
    refine g_seq ?_
    refine g_region ?_
    refine g_val rfl rfl rfl (fun _ _ => v_move rfl) ?_
    refine g_val rfl rfl rfl (fun _ _ => v_neq rfl rfl) ?_
    refine g_val rfl rfl rfl (fun _ _ => v_assign rfl) ?_
    refine g_nil ?_
    refine g_n_then ?_
    refine g_condT rfl (neP hc) ?_
    refine g_seq ?_
    refine g_region ?_
    refine g_val rfl rfl rfl (fun _ _ => v_move rfl) ?_
    refine g_val rfl rfl rfl (fun _ _ => v_nilSlice rfl rfl) ?_
    refine g_val rfl rfl rfl (fun _ _ => v_assign rfl) ?_
    refine g_nil ?_
    refine g_n_then ?_
    refine g_ret ?_
    refine g_r_blk ?_
    refine g_r_then ?_
    refine g_done rfl (fun w hh => (.tmp rfl (.tmp rfl .nil))) (fun w hh => ?_)
    have ee : spansE L.S p st = check L.S := by simp only [spansE, *, ne_eq, not_true_eq_false, not_false_eq_true, if_false, if_true, reduceIte, Bool.true_eq_false]
    have ea : SpansR L.S p st = ([], check L.S) := by simp only [SpansR, ee]; rw [if_pos hc]
    rw [ea]
    exact ⟨none, 0, rfl, .nil, (News.nil hh.toExt).cons segOK.nil (fun h => absurd rfl h)⟩

set_option maxRecDepth 100000 in
theorem c_Turn1 (x : Span) (m : Int) (bx : Nat) (w : World) (hb : segOK w (bx, 0, [.int .i64 m])) : Ret Try.prog 116 [.agg (encP x).toArray, ptr bx 0] w (.bool (inr m x.lo x.hi)) := by
  refine g_enter (args := [.agg (encP x).toArray, ptr bx 0]) Try.func116 rfl Try.ntmps116 rfl (e := [(0, _), (1, _)]) rfl (HS.start w [] [(bx, 0, [.int .i64 m])] (segsC hb segsN)) ?_
  refine g_seq ?_
  refine g_region ?_
  refine g_box rfl rfl (fun b1 hb1 => ?_)
  refine g_val rfl rfl rfl (fun _ _ => v_assign rfl) ?_
  refine g_nil ?_
  refine g_n_then ?_
  refine g_seq ?_
  refine g_region ?_
  refine g_val rfl rfl rfl (fun w hh => v_load (Try.isAgg3 w) rfl (hh.rcell 0 0 rfl rfl)) ?_
  refine g_val rfl rfl rfl (fun w _ => v_fieldAddr 0 (Try.runUnderlying25 w) rfl (Try.sizeOf3 w) rfl) ?_
  refine g_val rfl rfl rfl (fun w hh => v_load (Try.isAgg3 w) rfl (hh.cell 0 rfl rfl)) ?_
  refine g_val rfl rfl rfl (fun w _ => v_fieldAddr 1 (Try.runUnderlying25 w) rfl (Try.sizeOf3 w) rfl) ?_
  refine g_val rfl rfl rfl (fun w hh => v_load (Try.isAgg3 w) rfl (hh.cell 0 rfl rfl)) ?_
  refine g_callv rfl rfl rfl rfl rfl rfl rfl (fun a w => Try.call90 a w) (fun w hh => c_in _ _ _ w) ?_
  refine g_val rfl rfl rfl (fun _ _ => v_assign rfl) ?_
  refine g_nil ?_
  refine g_n_then ?_
  refine g_ret ?_
  refine g_done rfl (fun w hh => (.tmp rfl .nil)) (fun w hh => ⟨?_, hh.toExt⟩)
  rfl

set_option maxRecDepth 100000 in
theorem c_Turn (p m : Int) (L : LS) (w : World) (hL : L.OK w) : Ret Try.prog 41 [L.val, .int .i64 p, .int .i64 m] w (.tuple #[.int .i64 (TurnR L.S p m).1, .int .i64 (TurnR L.S p m).2]) := by
  have hlt := hL.tl
  have hlf := hL.fl
  have hls := hL.sl
  refine g_enter (args := [L.val, .int .i64 p, .int .i64 m]) Try.func41 rfl Try.ntmps41 rfl (e := [(0, _), (1, _), (2, _)]) rfl (HS.start w [] L.segs hL.segs) ?_
  refine g_seq ?_
  refine g_region ?_
  refine g_box rfl rfl (fun b1 hb1 => ?_)
  refine g_box rfl rfl (fun b2 hb2 => ?_)
  refine g_val rfl rfl rfl (fun _ _ => v_assign rfl) ?_
  refine g_val rfl rfl rfl (fun _ _ => v_assign rfl) ?_
  refine g_nil ?_
  refine g_n_then ?_
  refine g_seq ?_
  refine g_region ?_
  refine g_val rfl rfl rfl (fun w hh => v_loadAgg (vs := [_, _, _, _, _]) (Try.isAgg29 w) (Try.sizeOf29 w) rfl (hh.cells 1 rfl rfl)) ?_
  refine g_val rfl rfl rfl (fun _ _ => v_move rfl) ?_
  refine g_callR (ι := Option (Nat × Nat) × Nat) (p := fun i => SlOK i.1 (SpansR L.S p 0).1.length i.2) (S := fun i => [(bk i.1, off i.1, flat encP (SpansR L.S p 0).1)]) (ret := fun i => .tuple #[slv i.1 (SpansR L.S p 0).1.length i.2, .int .i64 (SpansR L.S p 0).2]) rfl rfl rfl rfl rfl rfl rfl (fun a w => Try.call47 a w) (fun w hh => (c_Spans p 0 L w (hL.ext hh.toExt)).mono (by rintro en w' ⟨q, cap, rfl, h1, h2⟩; exact ⟨(q, cap), rfl, h1, h2⟩)) (fun q3 hq3 => ?_)
  by_cases he : spansE L.S p 0 = 0
  · have hc := (spansE_zero he).1
    have hpl := isPlace_iff.1 (spansE_zero he).2.1
    have hG := good_of_check hc
    have hsl := spansF_len (s := L.S) (p := isState L.S p 0) hG
    have ea : SpansR L.S p 0 = ((spansF L.S (isState L.S p 0)), 0) := by simp only [SpansR]; rw [if_neg (by simp [he])]
    rw [ea] at hq3 ⊢
    simp only at hq3 ⊢
    refine g_val rfl rfl rfl (fun _ _ => v_move rfl) ?_
    refine g_val rfl rfl rfl (fun _ _ => v_extract rfl rfl) ?_
    refine g_val rfl rfl rfl (fun _ _ => v_extract rfl rfl) ?_
    refine g_val rfl rfl rfl (fun _ _ => v_assign rfl) ?_
    refine g_val rfl rfl rfl (fun _ _ => v_assign rfl) ?_
    refine g_nil ?_
    refine g_n_then ?_
    refine g_seq ?_
    refine g_seq ?_
    refine g_region ?_
    refine g_val rfl rfl rfl (fun _ _ => v_move rfl) ?_
    refine g_val rfl rfl rfl (fun _ _ => v_neq rfl rfl) ?_
    refine g_nil ?_
    refine g_n_then ?_
    refine g_condF rfl rfl ?_
    refine g_skip ?_
    refine g_n_then ?_
    refine g_seq ?_
    refine g_region ?_
    refine g_val rfl rfl rfl (fun w hh => v_loadAgg (vs := [_, _, _, _, _]) (Try.isAgg29 w) (Try.sizeOf29 w) rfl (hh.cells 1 rfl rfl)) ?_
    have hfl8 := hG.fl
    have htl12 := hG.tl
    have hsl16 := hG.sl
    refine g_callR (ι := Nat) (p := fun _ => True) (S := fun bd => [(bd, 0, L.cells ++ ints (gatesOf L.S))]) (ret := fun bd => .tuple #[ptr bd 0, .int .i64 0]) rfl rfl rfl rfl rfl rfl rfl (fun a w => Try.call102 a w) (fun w hh => c_openedR L w (hL.ext hh.toExt) hc) (fun bd _ => ?_)
    refine g_val rfl rfl rfl (fun _ _ => v_move rfl) ?_
    refine g_val rfl rfl rfl (fun _ _ => v_extract rfl rfl) ?_
    refine g_val rfl rfl rfl (fun _ _ => v_extract rfl rfl) ?_
    refine g_val rfl rfl rfl (fun _ _ => v_assign rfl) ?_
    refine g_val rfl rfl rfl (fun _ _ => v_assign rfl) ?_
    refine g_nil ?_
    refine g_n_then ?_
    refine g_seq ?_
    refine g_seq ?_
    refine g_region ?_
    refine g_val rfl rfl rfl (fun _ _ => v_move rfl) ?_
    refine g_val rfl rfl rfl (fun _ _ => v_makeFunc (u := #[_]) (u' := #[]) rfl rfl) ?_
    refine g_val rfl rfl rfl (fun _ _ => v_assign rfl) ?_
    refine g_nil ?_
    refine g_n_then ?_
    refine g_seq ?_
    refine g_region ?_
    refine g_val rfl rfl rfl (fun _ _ => v_move rfl) ?_
    refine g_val rfl rfl rfl (fun w hh => v_load (Try.isAgg3 w) rfl (hh.cell 0 rfl rfl)) ?_
    refine g_callv rfl rfl rfl rfl rfl rfl rfl (fun a w => Try.call103 a w) (fun w hh => c_day L bd (gatesOf L.S) _ w (hL.ext hh.toExt) hG gates_length (hh.seg 0 rfl)) ?_
    refine g_val rfl rfl rfl (fun _ _ => v_not rfl) ?_
    refine g_nil ?_
    refine g_n_then ?_
    refine g_cond rfl (fun hc33_1 => ?_) (fun hc33_1 => ?_)
    · replace hc33_1 := of_not_true hc33_1
      refine g_seq ?_
      refine g_region ?_
      refine g_val rfl rfl rfl (fun _ _ => v_assign rfl) ?_
      refine g_val rfl rfl rfl (fun _ _ => v_assign rfl) ?_
      refine g_nil ?_
      refine g_n_then ?_
      refine g_ret ?_
      refine g_r_then ?_
      refine g_done rfl (fun w hh => (.tmp rfl (.tmp rfl .nil))) (fun w hh => ⟨?_, hh.toExt⟩)
      simp only [retv, TurnR, *, ne_eq, not_true_eq_false, not_false_eq_true, if_false, if_true, reduceIte, Bool.true_eq_false] <;> rfl
    · replace hc33_1 := of_not_false hc33_1
      refine g_skip ?_
      refine g_n_then ?_
      refine g_seq ?_
      refine g_region ?_
      refine g_val rfl rfl rfl (fun _ _ => v_move rfl) ?_
      refine g_val rfl rfl rfl (fun _ _ => v_makeFunc (u := #[]) (u' := #[_]) rfl rfl) ?_
      refine g_callv rfl rfl rfl rfl rfl rfl rfl (fun a w => Try.call115 a w) (fun w hh => c_IndexFunc_Span 116 #[] #[ptr b2 0] (fun x => inr m x.lo x.hi) (spansF L.S (isState L.S p 0)) q3.1 q3.2 w (by omega) hq3.ne (hh.seg 1 rfl) (fun a w => Try.call116 a w) (fun w2 hx j hj => c_Turn1 _ m b2 w2 ((hh.ownSeg 0 rfl).ext hx (by simp)))) ?_
      have hir := idxf_range (p := fun x : Span => inr m x.lo x.hi) (l := (spansF L.S (isState L.S p 0)))
      refine g_val rfl rfl rfl (fun _ _ => v_assign rfl) ?_
      refine g_nil ?_
      refine g_n_then ?_
      refine g_seq ?_
      refine g_seq ?_
      refine g_region ?_
      refine g_val rfl rfl rfl (fun _ _ => v_move rfl) ?_
      refine g_val rfl rfl rfl (fun _ _ => v_lss rfl rfl) ?_
      refine g_nil ?_
      refine g_n_then ?_
      refine g_cond rfl (fun hc38_2 => ?_) (fun hc38_2 => ?_)
      · replace hc38_2 := of_decide_eq_true hc38_2
        refine g_seq ?_
        refine g_region ?_
        refine g_val rfl rfl rfl (fun _ _ => v_assign rfl) ?_
        refine g_val rfl rfl rfl (fun _ _ => v_assign rfl) ?_
        refine g_nil ?_
        refine g_n_then ?_
        refine g_ret ?_
        refine g_r_then ?_
        refine g_done rfl (fun w hh => (.tmp rfl (.tmp rfl .nil))) (fun w hh => ⟨?_, hh.toExt⟩)
        simp only [retv, TurnR, *, ne_eq, not_true_eq_false, not_false_eq_true, if_false, if_true, reduceIte, Bool.true_eq_false] <;> rfl
      · replace hc38_2 := of_decide_eq_false hc38_2
        refine g_skip ?_
        refine g_n_then ?_
        refine g_seq ?_
        refine g_region ?_
        refine g_val rfl rfl rfl (fun _ _ => v_move rfl) ?_
        refine g_val rfl rfl rfl (fun _ _ => v_move rfl) ?_
        refine g_val rfl rfl rfl (fun w _ => v_idxI (Try.runUnderlying77 w) (Try.sizeOf25 w) rfl rfl (by omega) (by omega) (hq3.ne (by omega))) ?_
        refine g_val rfl rfl rfl (fun w _ => v_fieldAddr 1 (Try.runUnderlying25 w) rfl (Try.sizeOf3 w) rfl) ?_
        refine g_val rfl rfl rfl (fun w hh => v_load (Try.isAgg3 w) rfl (hh.fld encP_len 1 1 rfl (by omega) rfl rfl)) ?_
        refine g_val rfl rfl rfl (fun _ _ => v_assign rfl) ?_
        refine g_val rfl rfl rfl (fun _ _ => v_assign rfl) ?_
        refine g_nil ?_
        refine g_n_then ?_
        refine g_ret ?_
        refine g_done rfl (fun w hh => (.tmp rfl (.tmp rfl .nil))) (fun w hh => ⟨?_, hh.toExt⟩)
        simp only [retv, TurnR, *, ne_eq, not_true_eq_false, not_false_eq_true, if_false, if_true, reduceIte, Bool.true_eq_false] <;> rfl
  · have ea : SpansR L.S p 0 = ([], spansE L.S p 0) := by simp only [SpansR]; rw [if_pos he]
    rw [ea] at hq3 ⊢
    simp only at hq3 ⊢
    refine g_val rfl rfl rfl (fun _ _ => v_move rfl) ?_
    refine g_val rfl rfl rfl (fun _ _ => v_extract rfl rfl) ?_
    refine g_val rfl rfl rfl (fun _ _ => v_extract rfl rfl) ?_
    refine g_val rfl rfl rfl (fun _ _ => v_assign rfl) ?_
    refine g_val rfl rfl rfl (fun _ _ => v_assign rfl) ?_
    refine g_nil ?_
    refine g_n_then ?_
    refine g_seq ?_
    refine g_seq ?_
    refine g_region ?_
    refine g_val rfl rfl rfl (fun _ _ => v_move rfl) ?_
    refine g_val rfl rfl rfl (fun _ _ => v_neq rfl rfl) ?_
    refine g_nil ?_
    refine g_n_then ?_
    refine g_condT rfl (neP he) ?_
    refine g_seq ?_
    refine g_region ?_
    refine g_val rfl rfl rfl (fun _ _ => v_move rfl) ?_
    refine g_val rfl rfl rfl (fun _ _ => v_assign rfl) ?_
    refine g_val rfl rfl rfl (fun _ _ => v_assign rfl) ?_
    refine g_nil ?_
    refine g_n_then ?_
    refine g_ret ?_
    refine g_r_then ?_
    refine g_done rfl (fun w hh => (.tmp rfl (.tmp rfl .nil))) (fun w hh => ⟨?_, hh.toExt⟩)
    simp only [retv, TurnR, *, ne_eq, not_true_eq_false, not_false_eq_true, if_false, if_true, reduceIte, Bool.true_eq_false] <;> rfl

end Go.Proofs

-- plain: ways
namespace Go.Pl
def hasKey (W : List (Int × List Int)) (k : Int) : Bool := W.any (fun e => decide (e.1 = k))
def tryAdd (may : Int → Int → Bool) (way : List Int) (W : List (Int × List Int)) (k : Nat) (q : Int) : List (Int × List Int) :=
  if hasKey W q = true then W else if may k q = true then W ++ [(q, way ++ [(k : Int)])] else W
def wStep (may : Int → Int → Bool) (p : Int) (way : List Int) (W : List (Int × List Int)) (k : Nat) (x : Sill) : List (Int × List Int) :=
  if x.a = p then tryAdd may way W k x.b else if x.b = p then tryAdd may way W k x.a else W
def procN (s : Sands) (may : Int → Int → Bool) (W : List (Int × List Int)) (c k : Nat) : List (Int × List Int) :=
  (List.range k).foldl (fun V i => wStep may (W.getD c default).1 (W.getD c default).2 V i (s.sills.getD i default)) W
def waysN (s : Sands) (may : Int → Int → Bool) : Nat → List (Int × List Int)
  | 0 => [(-1, [])]
  | c + 1 => if c < (waysN s may c).length then procN s may (waysN s may c) c s.sills.length else waysN s may c
def waysF (s : Sands) (may : Int → Int → Bool) : List (Int × List Int) := waysN s may 9
theorem procN_succ {s : Sands} {may : Int → Int → Bool} {W : List (Int × List Int)} {c k : Nat} : procN s may W c (k + 1) = wStep may (W.getD c default).1 (W.getD c default).2 (procN s may W c k) k (s.sills.getD k default) := by
  unfold procN
  rw [List.range_succ, List.foldl_append]
  rfl
/-- the table of ways: each place once -/
structure WInv (s : Sands) (W : List (Int × List Int)) : Prop where
  nd : (W.map (·.1)).Nodup
  rg : ∀ e ∈ W, -1 ≤ e.1 ∧ e.1 < s.floors.length
  sea : ∃ r, W = (-1, []) :: r
  wl : ∀ (j : Nat) (e : Int × List Int), W[j]? = some e → e.2.length ≤ j
theorem nodup_lt : ∀ (n : Nat) (l : List Nat), l.Nodup → (∀ x ∈ l, x < n) → l.length ≤ n
  | 0, l, _, h => by
    cases l with
    | nil => simp
    | cons x l => have := h x List.mem_cons_self; omega
  | n + 1, l, hn, h => by
    by_cases hm : n ∈ l
    · have h1 := nodup_lt n (l.erase n) (hn.erase n) (fun x hx => by
        have h2 := (List.Nodup.mem_erase_iff hn).1 hx
        have := h x h2.2
        omega)
      rw [List.length_erase_of_mem hm] at h1
      omega
    · have := nodup_lt n l hn (fun x hx => by
        have h2 := h x hx
        have : x ≠ n := fun he => hm (he ▸ hx)
        omega)
      omega
theorem nodup_map {α β : Type} {f : α → β} : ∀ {l : List α}, l.Nodup → (∀ x ∈ l, ∀ y ∈ l, f x = f y → x = y) → (l.map f).Nodup
  | [], _, _ => List.nodup_nil
  | x :: l, hn, h => by
    rw [List.nodup_cons] at hn
    rw [List.map_cons, List.nodup_cons]
    refine ⟨fun hm => ?_, nodup_map hn.2 (fun a ha b hb => h a (List.mem_cons_of_mem _ ha) b (List.mem_cons_of_mem _ hb))⟩
    obtain ⟨y, hy, he⟩ := List.mem_map.1 hm
    have := h x List.mem_cons_self y (List.mem_cons_of_mem _ hy) he.symm
    subst this
    exact hn.1 hy
theorem WInv.len {s : Sands} {W : List (Int × List Int)} (h : WInv s W) : W.length ≤ s.floors.length + 1 := by
  have h1 := nodup_map (f := fun k : Int => (k + 1).toNat) h.nd (fun x hx y hy he => by
    obtain ⟨e, he1, rfl⟩ := List.mem_map.1 hx
    obtain ⟨e', he2, rfl⟩ := List.mem_map.1 hy
    have a := h.rg e he1
    have b := h.rg e' he2
    have hc : (e.1 + 1).toNat = (e'.1 + 1).toNat := he
    omega)
  have h2 := nodup_lt (s.floors.length + 1) _ h1 (fun x hx => by
    obtain ⟨k, hk, rfl⟩ := List.mem_map.1 hx
    obtain ⟨e, he1, rfl⟩ := List.mem_map.1 hk
    have a := h.rg e he1
    have : (fun k : Int => (k + 1).toNat) e.1 = (e.1 + 1).toNat := rfl
    omega)
  simpa using h2
theorem hasKey_iff {W : List (Int × List Int)} {k : Int} : hasKey W k = true ↔ k ∈ W.map (·.1) := by
  unfold hasKey
  rw [List.any_eq_true, List.mem_map]
  constructor
  · rintro ⟨e, he, h⟩; exact ⟨e, he, of_decide_eq_true h⟩
  · rintro ⟨e, he, h⟩; exact ⟨e, he, decide_eq_true h⟩
theorem WInv.add {s : Sands} {W : List (Int × List Int)} (h : WInv s W) {may : Int → Int → Bool} {way : List Int} {k : Nat} {q : Int} (hq : -1 ≤ q ∧ q < s.floors.length) (hw : way.length < W.length) : WInv s (tryAdd may way W k q) := by
  unfold tryAdd
  split
  · exact h
  · rename_i hk
    split
    · refine ⟨?_, fun e he => ?_, ?_, fun j e he => ?_⟩
      · rw [List.map_append, List.nodup_append]
        refine ⟨h.nd, by simp, fun a ha b hb hab => ?_⟩
        simp at hb
        subst hb
        subst hab
        exact hk (hasKey_iff.2 ha)
      · rcases List.mem_append.1 he with he | he
        · exact h.rg e he
        · simp at he; subst he; exact hq
      · obtain ⟨r, rfl⟩ := h.sea
        exact ⟨_, rfl⟩
      · rcases Nat.lt_or_ge j W.length with hj | hj
        · rw [List.getElem?_append_left hj] at he; exact h.wl j e he
        · rw [List.getElem?_append_right hj] at he
          cases hjj : j - W.length with
          | zero => rw [hjj] at he; simp at he; subst he; simp; omega
          | succ m => rw [hjj] at he; simp at he
    · exact h
theorem tryAdd_mono {may : Int → Int → Bool} {way : List Int} {W : List (Int × List Int)} {k : Nat} {q : Int} : ∃ r, tryAdd may way W k q = W ++ r := by
  unfold tryAdd
  split
  · exact ⟨[], by simp⟩
  · split
    · exact ⟨_, rfl⟩
    · exact ⟨[], by simp⟩
theorem wStep_mono {may : Int → Int → Bool} {p : Int} {way : List Int} {W : List (Int × List Int)} {k : Nat} {x : Sill} : ∃ r, wStep may p way W k x = W ++ r := by
  unfold wStep
  split
  · exact tryAdd_mono
  · split
    · exact tryAdd_mono
    · exact ⟨[], by simp⟩
theorem procN_inv {s : Sands} {may : Int → Int → Bool} (hG : Good s) {W : List (Int × List Int)} {c : Nat} (h : WInv s W) (hc : c < W.length) : ∀ {k : Nat}, k ≤ s.sills.length → WInv s (procN s may W c k) ∧ ∃ r, procN s may W c k = W ++ r := by
  have hw : (W.getD c default).2.length ≤ c := by
    have := h.wl c W[c] (by simp [hc])
    simpa [List.getD_eq_getElem?_getD, hc] using this
  intro k
  induction k with
  | zero => intro _; exact ⟨h, [], by simp [procN]⟩
  | succ k ih =>
    intro hk
    obtain ⟨h1, r, hr⟩ := ih (by omega)
    have hl : W.length ≤ (procN s may W c k).length := by rw [hr]; simp
    rw [procN_succ]
    refine ⟨?_, ?_⟩
    · unfold wStep
      have ha := hG.sa k (by omega)
      have hb := hG.sb k (by omega)
      split
      · exact h1.add hb (by omega)
      · split
        · exact h1.add ha (by omega)
        · exact h1
    · obtain ⟨r2, hr2⟩ := wStep_mono (may := may) (p := (W.getD c default).1) (way := (W.getD c default).2) (W := procN s may W c k) (k := k) (x := s.sills.getD k default)
      exact ⟨r ++ r2, by rw [hr2, hr, List.append_assoc]⟩
theorem waysN_inv {s : Sands} {may : Int → Int → Bool} (hG : Good s) : ∀ (c : Nat), WInv s (waysN s may c)
  | 0 => ⟨by simp [waysN], fun e he => by simp [waysN] at he; subst he; have := hG.fl; simp; omega, ⟨[], rfl⟩, fun j e he => by
      cases j with
      | zero => simp [waysN] at he; subst he; simp
      | succ j => simp [waysN] at he⟩
  | c + 1 => by
    unfold waysN
    split
    · rename_i h
      exact (procN_inv hG (waysN_inv hG c) h (Nat.le_refl _)).1
    · exact waysN_inv hG c
theorem waysN_stop {s : Sands} {may : Int → Int → Bool} {c : Nat} (h : (waysN s may c).length ≤ c) : ∀ {d : Nat}, c ≤ d → waysN s may d = waysN s may c := by
  intro d
  induction d with
  | zero => intro hd; have : c = 0 := by omega
            subst this; rfl
  | succ d ih =>
    intro hd
    rcases Nat.lt_or_ge d c with h1 | h1
    · have : c = d + 1 := by omega
      subst this; rfl
    · have h2 := ih h1
      show (if d < (waysN s may d).length then _ else waysN s may d) = _
      rw [h2, if_neg (by omega)]
def mayLe (s : Sands) (most : Int) (k q : Int) : Bool := decide (([s.floors.getD q.toNat 0] : List Int).foldl max (s.sills.getD k.toNat default).h ≤ most)
def wayOf (W : List (Int × List Int)) (p : Int) : List Int := ((W.find? (fun e => decide (e.1 = p))).map (·.2)).getD []
def WayR (s : Sands) (p : Int) : List Int × Int := if gatedE s p ≠ 0 then ([], gatedE s p) else (wayOf (waysF s (mayLe s ((gatesOf s).getD p.toNat 0))) p, 0)
end Go.Pl

namespace Go.Proofs
open Go Go.Fw Go.Pl
/-- a way, and where it lies -/
structure WV where
  key : Int
  way : List Int
  q : Option (Nat × Nat)
  cap : Nat
  sp : List Value
  deriving Inhabited
def WV.ok (e : WV) : Prop := VOK 1 e.way.length e.cap (ints e.way) e.sp e.q
def wproj (W : List WV) : List (Int × List Int) := W.map (fun e => (e.key, e.way))
def mlist (W : List WV) : List (Int × Value) := W.map (fun e => (e.key, slv e.q e.way.length e.cap))
def wown (W : List WV) : List (Nat × Obj) := W.flatMap (fun e => vown 3 (ints e.way) e.sp e.q)
def sea0 : WV := ⟨-1, [], none, 0, []⟩
def marks (Ds : List Nat) : List (Nat × Obj) := Ds.map (fun D => (D, Obj.deferred (some [])))
theorem wown_snoc {W : List WV} {e : WV} : wown (W ++ [e]) = wown W ++ vown 3 (ints e.way) e.sp e.q := by simp [wown]
theorem mlist_snoc {W : List WV} {e : WV} : mlist (W ++ [e]) = mlist W ++ [(e.key, slv e.q e.way.length e.cap)] := by simp [mlist]
theorem wproj_snoc {W : List WV} {e : WV} : wproj (W ++ [e]) = wproj W ++ [(e.key, e.way)] := by simp [wproj]
theorem mlist_length {W : List WV} : (mlist W).length = W.length := by simp [mlist]
theorem wproj_length {W : List WV} : (wproj W).length = W.length := by simp [wproj]
theorem mfind_isSome : ∀ {W : List WV} {k : Int} {i : Nat}, (mfind (mlist W) k i).isSome = hasKey (wproj W) k
  | [], _, _ => rfl
  | e :: W, k, i => by
    simp only [mlist, List.map_cons, mfind, wproj, hasKey, List.any_cons]
    by_cases h : k = e.key
    · simp [h]
    · rw [if_neg h]
      have := mfind_isSome (W := W) (k := k) (i := i + 1)
      simp only [mlist, wproj, hasKey] at this
      rw [this]
      have h2 : decide (e.key = k) = false := by simp; exact fun he => h he.symm
      simp [h2]
theorem mget_isSome {W : List WV} {k : Int} : (mget (mlist W) k).isSome = hasKey (wproj W) k := by
  unfold mget; rw [Option.isSome_map]; exact mfind_isSome
theorem mget_none {W : List WV} {k : Int} (h : hasKey (wproj W) k = false) : mget (mlist W) k = none := by
  rw [← mget_isSome] at h
  cases hm : mget (mlist W) k with
  | none => rfl
  | some v => rw [hm] at h; cases h
theorem mfind_at : ∀ {W : List WV} {c i : Nat} {e : WV}, ((wproj W).map (·.1)).Nodup → W[c]? = some e → (mfind (mlist W) e.key i).map (·.2) = some (slv e.q e.way.length e.cap)
  | [], _, _, _, _, h => by simp at h
  | e' :: W, 0, i, e, hn, h => by
    simp at h; subst h
    simp [mlist, mfind]
  | e' :: W, c + 1, i, e, hn, h => by
    simp only [List.getElem?_cons_succ] at h
    simp only [wproj, List.map_cons, List.nodup_cons] at hn
    have hne : e.key ≠ e'.key := fun he => hn.1 (List.mem_map.2 ⟨(e.key, e.way), List.mem_map.2 ⟨e, List.mem_of_getElem? h, rfl⟩, he⟩)
    simp only [mlist, List.map_cons, mfind, if_neg hne]
    exact mfind_at (W := W) hn.2 h
theorem mget_at {W : List WV} {c : Nat} {e : WV} (hn : ((wproj W).map (·.1)).Nodup) (h : W[c]? = some e) : mget (mlist W) e.key = some (slv e.q e.way.length e.cap) := mfind_at hn h
theorem wayOf_cons {W : List WV} {k : Int} : (∃ e ∈ W, e.key = k ∧ mget (mlist W) k = some (slv e.q e.way.length e.cap) ∧ wayOf (wproj W) k = e.way) ∨ (mget (mlist W) k = none ∧ wayOf (wproj W) k = []) := by
  have key : ∀ (W : List WV) (i : Nat), (∃ e ∈ W, e.key = k ∧ (mfind (mlist W) k i).map (·.2) = some (slv e.q e.way.length e.cap) ∧ wayOf (wproj W) k = e.way) ∨ ((mfind (mlist W) k i).map (·.2) = none ∧ wayOf (wproj W) k = []) := by
    intro W
    induction W with
    | nil => intro i; right; exact ⟨rfl, rfl⟩
    | cons e W ih =>
      intro i
      by_cases h : k = e.key
      · left
        refine ⟨e, List.mem_cons_self, h.symm, ?_, ?_⟩
        · simp [mlist, mfind, h]
        · simp [wayOf, wproj, h]
      · have h2 : ¬ e.key = k := fun he => h he.symm
        have hf : mfind (mlist (e :: W)) k i = mfind (mlist W) k (i + 1) := by simp [mlist, mfind, h]
        have hw : wayOf (wproj (e :: W)) k = wayOf (wproj W) k := by simp [wayOf, wproj, h2]
        rw [hf, hw]
        rcases ih (i + 1) with ⟨e', he', h3, h4, h5⟩ | h3
        · exact .inl ⟨e', List.mem_cons_of_mem _ he', h3, h4, h5⟩
        · exact .inr h3
  exact key W 0
theorem vown_seg {w : World} {own : List (Nat × Obj)} {xs sp : List Value} {q : Option (Nat × Nat)} {w0 : World} {M : List Nat} {ro : List Sg} {E : TypeId} (hh : HS w0 M own ro w) (hm : ∀ p, p ∈ vown E xs sp q → p ∈ own) (hoff : ∀ p, q = some p → p.2 = 0) (hnone : q = none → xs = []) : segOK w (bk q, off q, xs) := by
  cases q with
  | none => rw [hnone rfl]; exact segOK.nil
  | some p =>
    have ho := hoff p rfl
    have h1 := hh.ownOK (p.1, .cells (xs ++ sp).toArray E (0, 0)) (hm _ (by simp [vown]))
    have h3 : segOK w (p.1, 0, xs ++ sp) := .of_block h1
    intro j hj
    have h5 : j < (xs ++ sp).length := by simp at hj ⊢; omega
    have := h3 j h5
    simp only at this hj ⊢
    simp only [bk, off, Option.getD_some, ho]
    rw [this, List.getElem_append_left hj]
theorem mem_wown {W : List WV} {e : WV} (he : e ∈ W) : ∀ p, p ∈ vown 3 (ints e.way) e.sp e.q → p ∈ wown W := fun p hp => List.mem_flatMap.2 ⟨e, he, hp⟩
theorem made_int {k : Nat} : madeCells (Value.int .i64 0).cells (k * 1) = (List.replicate k (Value.int .i64 0)).toArray := by
  apply Array.toList_inj.1
  apply List.ext_getElem
  · simp [madeCells]
  · intro i h1 h2
    simp [madeCells, Value.cells, Nat.mod_one]
theorem perm_end {α : Type} {A m w V X : List α} : (A ++ (V ++ ((m ++ w) ++ X))).Perm ((A ++ (m ++ (w ++ V))) ++ X) := by
  simp only [List.append_assoc]
  refine List.Perm.append_left A ?_
  have h1 : (V ++ (m ++ (w ++ X))).Perm ((m ++ (w ++ X)) ++ V) := List.perm_append_comm
  refine h1.trans ?_
  simp only [List.append_assoc]
  exact List.Perm.append_left m (List.Perm.append_left w List.perm_append_comm)
end Go.Proofs
namespace Go.Fw
open Go
theorem HS.head {w0 w : World} {M : List Nat} {A T : List (Nat × Obj)} {ro : List Sg} (h : HS w0 M (A ++ T) ro w) : HS w0 M A ro w := h.drop (List.sublist_append_left A T)
theorem v_lookupS {P : Program} {e : EnvL} {w : World} {dst : Option Nat} {ty : TypeId} {pos : String} {after : Array Edge} {g : Option (Nat × Bool)} {t K E : TypeId} {κ : IntKind} {x i : Operand} {bm : Nat} {k : Int} {l : List (Int × Value)} {z v : Value} (hu : (underlying t).run P w = .ok (.map K E) w) (hk : (underlying K).run P w = .ok (.int κ) w) (hz : (zeroValue E).run P w = .ok z w)
    (hv : mget l k = some v) (hx : ev e x = some (.map (some bm))) (hi : ev e i = some (.int .i64 k)) (hm : w.heap[bm]? = some (mobj l)) : Val P e w ⟨dst, .lookup t x i false, ty, pos, after, g⟩ v := by
  have := v_lookup (P := P) (dst := dst) (ty := ty) (pos := pos) (after := after) (g := g) hu hk hz hx hi hm
  rw [hv] at this
  exact this
end Go.Fw
namespace Go.Fw
open Go
theorem g_makeInts {n : Nat} {ds : List Deferred} {e : EnvL} {P : Program} {r : Option Nat} {Q : Exit → Act → World → Prop} {ops : Array Oper} {w0 : World} {M : List Nat} {own : List (Nat × Obj)} {ro : List Sg} {rest : List Oper} {d : Nat} {t E : TypeId} {l c : Nat} {x y : Operand} {k1 k2 : IntKind} {m1 m2 : Int} {ty : TypeId} {pos : String} {after : Array Edge}
    (ht : P.underlying t = some (.slice E)) (hi : (P.info? E).map (fun i => (i.zero, i.size, i.bytes)) = some (some (.int .i64 0), 1, 8)) (hx : ev e x = some (.int k1 m1)) (hy : ev e y = some (.int k2 m2)) (h1 : m1 = (l : Int)) (h2 : m2 = (c : Int)) (hlc : l ≤ c) (hc : c ≤ 1000000) (hn : Nat.blt d n = true)
    (h : ∀ b, w0.heap.size ≤ b → G n ds ((d, slv (some (b, 0)) l c) :: e) (HS w0 M ((b, .cells (List.replicate c (Value.int .i64 0)).toArray E (0, 0)) :: own) ro) (wpListIn (fw r) 0 P ops Q rest)) :
    G n ds e (HS w0 M own ro) (wpListIn (fw r) 0 P ops Q (⟨some d, .makeSlice t x y, ty, pos, after, none⟩ :: rest)) := by
  obtain ⟨ii, hi1, hi2⟩ : ∃ ii, P.info? E = some ii ∧ (ii.zero, ii.size, ii.bytes) = (some (.int .i64 0), 1, 8) := by
    cases hii : P.info? E with
    | none => simp [hii] at hi
    | some ii => exact ⟨ii, rfl, by simpa [hii] using hi⟩
  simp only [Prod.mk.injEq] at hi2
  obtain ⟨h3, h4, h5⟩ := hi2
  refine g_makeSlice (l := l) (c := c) ht hi1 h3 h4 h5 hx hy h1 h2 hlc (by omega) (by omega) hn (fun b hb => ?_)
  rw [Go.Proofs.made_int]
  exact h b hb
/-- the first of a queue -/
theorem HS.qcell {w0 w : World} {M : List Nat} {own : List (Nat × Obj)} {ro : List Sg} (h : HS w0 M own ro w) (i : Nat) {q : Nat × Nat} {len cap : Nat} {pre xs sp : List Value} {x : Value} {E : TypeId} (hi : own[i]? = some (q.1, .cells (pre ++ (x :: xs) ++ sp).toArray E (0, 0))) (hq : QOK len cap pre (x :: xs) sp q) : w.cell? ⟨q.1, q.2 + 0, none⟩ = some x := by
  have ho : q.2 = pre.length := by have h7 := hq.hoff; have h8 := hq.hcap; simp at h8; omega
  have := segOK.at (segOK.of_block (h.get i hi)) (j := q.2 + 0) (v := x) (by
    show (pre ++ (x :: xs) ++ sp)[q.2 + 0]? = some x
    rw [List.append_assoc, List.getElem?_append_right (by omega), ho]; simp)
  rwa [Nat.zero_add] at this
end Go.Fw
namespace Go.Proofs
open Go Go.Fw Go.Pl
structure WG where
  W : List WV
  xs : List Int
  n : Nat
  q : Nat × Nat
  cap : Nat
  pre : List Value
  sp : List Value
structure WGk (c : Nat) (V : List (Int × List Int)) (g : WG) : Prop where
  pj : wproj g.W = V
  ok : ∀ e, e ∈ g.W → e.ok
  xs : g.xs = (g.W.map (·.key)).drop c
  qok : QOK g.n g.cap g.pre (ints g.xs) g.sp g.q
theorem qcells {pre sp : List Value} {x : Int} {xs : List Int} : pre ++ ints (x :: xs) ++ sp = (pre ++ [.int .i64 x]) ++ ints xs ++ sp := by simp [ints]
end Go.Proofs
namespace Go.Proofs
open Go Go.Fw Go.Pl
theorem drop_cons {W : List WV} {x : Int} {xs : List Int} {c : Nat} (h : x :: xs = (W.map (·.key)).drop c) : ∃ e, W[c]? = some e ∧ e.key = x := by
  have h1 : ((W.map (·.key)).drop c)[0]? = some x := by rw [← h]; rfl
  rw [List.getElem?_drop, Nat.add_zero, List.getElem?_map] at h1
  cases he : W[c]? with
  | none => rw [he] at h1; simp at h1
  | some e => rw [he] at h1; simp at h1; exact ⟨e, rfl, h1⟩
theorem drop_tail {W : List WV} {x : Int} {xs : List Int} {c : Nat} (h : x :: xs = (W.map (·.key)).drop c) : xs = (W.map (·.key)).drop (c + 1) := by
  have := congrArg List.tail h
  simpa [List.tail_drop] using this
theorem wproj_at {W : List WV} {c : Nat} {e : WV} {x : Int} (h : W[c]? = some e) (hk : e.key = x) : (wproj W)[c]? = some (x, e.way) := by
  simp [wproj, h, hk]
theorem wproj_getD {W : List WV} {c : Nat} {e : WV} (h : W[c]? = some e) : (wproj W).getD c default = (e.key, e.way) := by
  rw [List.getD_eq_getElem?_getD, wproj_at h rfl]; rfl
theorem wproj_get {W : List WV} {c : Nat} {x : Int} {way : List Int} (h : (wproj W)[c]? = some (x, way)) : ∃ e, W[c]? = some e ∧ e.key = x ∧ e.way = way := by
  simp only [wproj, List.getElem?_map] at h
  cases he : W[c]? with
  | none => rw [he] at h; simp at h
  | some e => rw [he] at h; simp at h; exact ⟨e, rfl, h.1, h.2⟩
theorem sea_key {s : Sands} {V : List (Int × List Int)} {q : Int} (h : WInv s V) (hk : hasKey V q = false) : q ≠ -1 := by
  rintro rfl
  obtain ⟨r, rfl⟩ := h.sea
  simp [hasKey] at hk
theorem perm_swap {α : Type} {A B C : List α} : (A ++ (B ++ C)).Perm (B ++ (A ++ C)) := by
  rw [← List.append_assoc, ← List.append_assoc]; exact List.perm_append_comm.append_right C
end Go.Proofs

namespace Go.Proofs
open Go Go.Fw Go.Pl
set_option linter.unusedVariables false
set_option maxRecDepth 100000 in
theorem inf3 : (Try.prog.info? 3).map (fun i => (i.zero, i.size, i.bytes)) = some (some (.int .i64 0), 1, 8) := by kernel_rfl
set_option maxRecDepth 100000 in
theorem infs3 : (Try.prog.info? 3).map (·.size) = some 1 := by kernel_rfl
set_option maxRecDepth 100000 in
theorem c_ways (L : LS) (bd : Nat) (gt : List Int) (fv : FuncId) (fst cp : Array Value) (may : Int → Int → Bool) (w : World) (hL : L.OK w) (hG : Good L.S) (hd : segOK w (bd, 0, L.cells ++ ints gt)) (hcall : ∀ a w, (callFunc fv a).run Try.prog w = .ok (.enter fv a) w) (hf : ∀ w', Ext [] w w' → ∀ (k : Nat) (q : Int), k < L.S.sills.length → (0 ≤ q ∧ q < L.S.floors.length) → Ret Try.prog fv (fst.toList ++ [.int .i64 (k : Nat), .int .i64 q] ++ cp.toList) w' (.bool (may k q))) : Calls Try.prog 124 #[ptr bd 0, .func (.func fv) fst cp] w (fun en w' => ∃ (bm : Nat) (W : List WV), en = .returned (.map (some bm)) ∧ wproj W = waysF L.S may ∧ (∀ e, e ∈ W → e.ok) ∧ Fresh w w' ((bm, mobj (mlist W)) :: wown W)) := by
  have hlt := hL.tl
  have hlf := hL.fl
  have hls := hL.sl
  have hfl8 := hG.fl
  have hsl16 := hG.sl
  refine g_enterM (args := [ptr bd 0, .func (.func fv) fst cp]) Try.func124 rfl Try.ntmps124 rfl (e := [(0, _), (1, _)]) rfl (HS.start w [] ((bd, 0, L.cells ++ ints gt) :: L.segs) (segsC hd hL.segs)) ?_
  refine g_seq ?_
  refine g_region ?_
  refine g_box rfl rfl (fun bmay hbmay => ?_)
  refine g_val rfl rfl rfl (fun _ _ => v_assign rfl) ?_
  refine g_nil ?_
  refine g_n_then ?_
  refine g_seq ?_
  refine g_region ?_
  refine g_makeMap rfl (fun bm hbm => ?_)
  refine g_insert (own' := (_ :: _)) 0 (fun w => Try.runUnderlying170 w) (fun w => Try.runUnderlying3 w) rfl rfl rfl rfl rfl ?_
  refine g_val rfl rfl rfl (fun _ _ => v_move rfl) ?_
  refine g_alloc (fun w => Try.zeroValue170 w) rfl (fun bmp hbmp => ?_)
  refine g_store1 (own' := (_ :: _)) 0 (fun w => Try.sizeOf170 w) rfl rfl rfl rfl rfl ?_
  refine g_nil ?_
  refine g_n_then ?_
  refine g_seq ?_
  refine g_region ?_
  refine g_buildSlice (vs := [(0, _)]) (cells := [_]) (fun w => Try.runUnderlying26 w) (fun w => Try.sizeOf3 w) (fun w => Try.zeroValue3 w) rfl rfl rfl rfl rfl (fun bqc hbqc => ?_)
  refine g_alloc (fun w => Try.zeroValue26 w) rfl (fun bq hbq => ?_)
  refine g_store1 (own' := (_ :: _)) 0 (fun w => Try.sizeOf26 w) rfl rfl rfl rfl rfl ?_
  refine g_nil ?_
  refine g_n_then ?_
  refine g_seq ?_
  refine g_block ?_
  refine g_sub (e' := [(0, _), (3, _), (5, _), (6, _)]) ((.cons rfl (.cons rfl (.cons rfl (.cons rfl .nil))))) ?_
  refine g_pick (own' := [_, _, _, _, _]) [0, 1, 3, 2, 4] (by decide) rfl ?_
  refine g_loopDV (ι := Nat × List Nat × WG) (ofix := [_, _]) (fun (c, Ds, g) => []) (fun (c, Ds, g) => [(bq, .cells #[slv (some g.q) g.n g.cap] 26 (0, 0)), (g.q.1, .cells (g.pre ++ ints g.xs ++ g.sp).toArray 3 (0, 0)), (bm, mobj (mlist g.W))]) (fun (c, Ds, g) => marks Ds ++ wown g.W) (fun (c, Ds, g) => c ≤ 9 ∧ WGk c (waysN L.S may c) g) (fun (c, Ds, g) => 9 - c) (fun (c, Ds, g) => Ds.map Go.Fw.mark) (0, [], ⟨[sea0], [-1], 1, (bqc, 0), 1, [], []⟩) (⟨Nat.zero_le _, rfl, fun e he => by simp at he; subst he; exact VOK.nil, rfl, ⟨rfl, rfl, by simp [maxLen], .inr rfl⟩⟩) ?_
  intro ⟨c, Ds, ⟨W, xs, n, q, cap, pre, sp⟩⟩ hI0
  simp only at hI0
  refine g_seq ?_
  refine g_seq ?_
  refine g_region ?_
  refine g_val rfl rfl rfl (fun w hh => v_load (Try.isAgg26 w) rfl (hh.cell 0 rfl rfl)) ?_
  refine g_val rfl rfl rfl (fun w _ => v_lenS (Try.runUnderlying26 w) rfl) ?_
  refine g_val rfl rfl rfl (fun _ _ => v_gtr rfl rfl) ?_
  refine g_nil ?_
  refine g_n_then ?_
  refine g_cond rfl (fun h18 => ?_) (fun h18 => ?_)
  · replace h18 := of_decide_eq_true h18
    simp only at h18
    have hnx := hI0.2.qok.hlen
    rw [ints_length] at hnx
    simp only at hnx
    cases xs with
    | nil => simp at hnx; omega
    | cons x xs => ?_
    have hxs := hI0.2.xs
    simp only at hxs
    obtain ⟨ew, hew, hkx⟩ := drop_cons hxs
    have hV := waysN_inv (may := may) hG c
    have hpj := hI0.2.pj
    simp only at hpj
    have hcl : c < W.length := (List.getElem?_eq_some_iff.1 hew).1
    have hwl : (waysN L.S may c).length = W.length := by rw [← hpj, wproj_length]
    have hln := hV.len
    have heok := hI0.2.ok ew (List.mem_of_getElem? hew)
    have hgd : (waysN L.S may c).getD c default = (x, ew.way) := by rw [← hpj, wproj_getD hew, hkx]
    refine g_skip ?_
    refine g_n_then ?_
    refine g_block ?_
    refine g_seq ?_
    refine g_region ?_
    refine g_val rfl rfl rfl (fun w hh => v_load (Try.isAgg26 w) rfl (hh.cell 0 rfl rfl)) ?_
    refine g_val rfl rfl rfl (fun w _ => v_indexAddr1 0 (Try.runUnderlying26 w) (Try.sizeOf3 w) rfl rfl rfl (by simp only; omega) (by simp)) ?_
    refine g_val rfl rfl rfl (fun w hh => v_load (Try.isAgg3 w) rfl (hh.qcell 1 rfl hI0.2.qok)) ?_
    refine g_alloc (fun w => Try.zeroValue3 w) rfl (fun bp hbp => ?_)
    refine g_store1 (own' := (_ :: _)) 0 (fun w => Try.sizeOf3 w) rfl rfl rfl rfl rfl ?_
    refine g_nil ?_
    refine g_n_then ?_
    refine g_seq ?_
    refine g_region ?_
    refine g_val rfl rfl rfl (fun w hh => v_load (Try.isAgg26 w) rfl (hh.cell 1 rfl rfl)) ?_
    refine g_val rfl rfl rfl (fun w _ => v_sliceTail (Try.runUnderlying26 w) (Try.sizeOf3 w) rfl (by simp only; omega)) ?_
    refine g_store1 (own' := (_ :: _ :: _)) 1 (fun w => Try.sizeOf26 w) rfl rfl rfl rfl rfl ?_
    rw [qcells]
    refine g_nil ?_
    refine g_n_then ?_
    refine g_seq ?_
    refine g_region ?_
    refine g_val rfl rfl rfl (fun _ _ => v_move rfl) ?_
    refine g_val rfl rfl rfl (fun w hh => v_load (Try.isAgg3 w) rfl (hh.cell 0 rfl rfl)) ?_
    refine g_callF (ι := Nat × Nat) (L := fun i => [(i.2, .cells #[.int .i64 x] 3 (0, 0)), (i.1, .cells #[ptr bd 0] 139 (0, 0))]) (ret := fun i => .func (.func 166) #[] #[ptr i.1 0, ptr i.2 0]) rfl rfl rfl rfl rfl rfl rfl (fun a w => Try.call160 a w) (fun w hh => (c_from _ _ w).mono (by rintro en w' ⟨b2, b3, rfl, hF⟩; exact ⟨(b2, b3), rfl, hF⟩)) ?_
    rintro ⟨f2, f3⟩
    refine g_nil ?_
    refine g_n_then ?_
    refine g_block ?_
    refine g_sub (e' := [(0, _), (3, _), (5, _), (6, _), (7, _), (26, _)]) ((.cons rfl (.cons rfl (.cons rfl (.cons rfl (.cons rfl (.cons rfl .nil))))))) ?_
    refine g_rangeFunc2 (ι := WG) (own' := fun g => [(f3, .cells #[.int .i64 x] 3 (0, 0)), (f2, .cells #[ptr bd 0] 139 (0, 0)), (bp, .cells #[.int .i64 x] 3 (0, 0)), (bq, .cells #[slv (some g.q) g.n g.cap] 26 (0, 0)), (g.q.1, .cells (g.pre ++ ints g.xs ++ g.sp).toArray 3 (0, 0)), (bm, mobj (mlist g.W)), (bmp, .cells #[.map (some bm)] 170 (0, 0)), (bmay, .cells #[.func (.func fv) fst cp] 172 (0, 0))] ++ (marks Ds ++ wown g.W)) (p := fun g => WGk (c + 1) (procN L.S may (waysN L.S may c) c L.S.sills.length) g) rfl (fun a w => Try.call166 a w) rfl (fun D l rec hD hround w1 hh1 => ?_) (fun g D hp hD => ?_)
    · have hh2 := hh1.swap (A := [_, _]) (B := [_, _])
      have hy : ∀ (V : List (Int × List Int)) (k : Nat) (qq : Int) (g : WG) (X : List (Nat × Obj)) (w2 : World), k < L.S.sills.length → -1 ≤ qq → qq < L.S.floors.length → WInv L.S V → V[c]? = some (x, ew.way) → WGk (c + 1) V g → HS w [] (([(l, rec .ready), (D, .deferred (some [])), (bp, .cells #[.int .i64 x] 3 (0, 0)), (bq, .cells #[slv (some g.q) g.n g.cap] 26 (0, 0)), (g.q.1, .cells (g.pre ++ ints g.xs ++ g.sp).toArray 3 (0, 0)), (bm, mobj (mlist g.W)), (bmp, .cells #[.map (some bm)] 170 (0, 0)), (bmay, .cells #[.func (.func fv) fst cp] 172 (0, 0))] ++ (marks Ds ++ wown g.W)) ++ X) ((bd, 0, L.cells ++ ints gt) :: L.segs) w2 → YieldOK Try.prog l [.int .i64 (k : Nat), .int .i64 qq] w2 (fun en w' => en = .returned (.bool true) ∧ ∃ g' : WG, WGk (c + 1) (tryAdd may ew.way V k qq) g' ∧ HS w [] (([(l, rec .ready), (D, .deferred (some [])), (bp, .cells #[.int .i64 x] 3 (0, 0)), (bq, .cells #[slv (some g'.q) g'.n g'.cap] 26 (0, 0)), (g'.q.1, .cells (g'.pre ++ ints g'.xs ++ g'.sp).toArray 3 (0, 0)), (bm, mobj (mlist g'.W)), (bmp, .cells #[.map (some bm)] 170 (0, 0)), (bmay, .cells #[.func (.func fv) fst cp] 172 (0, 0))] ++ (marks Ds ++ wown g'.W)) ++ X) ((bd, 0, L.cells ++ ints gt) :: L.segs) w') := by
        intro V k qq ⟨W, xs, n, q, cap, pre, sp⟩ X w2 hk hq0 hq1 hVI hVc hgk hh3
        have hVl := hVI.len
        have hpjW := hgk.pj
        simp only at hpjW hh3
        have hWl : W.length = V.length := by rw [← hpjW, wproj_length]
        have hnd := hVI.nd
        rw [← hpjW] at hnd
        rw [← hpjW] at hVc
        obtain ⟨e, he, hek, hew'⟩ := wproj_get hVc
        have hcW : c < W.length := (List.getElem?_eq_some_iff.1 he).1
        have hme := mget_at hnd he
        rw [hek] at hme
        have heo := hgk.ok e (List.mem_of_getElem? he)
        have hel : e.way.length ≤ c := by have := hVI.wl c (x, ew.way) (by rw [← hpjW]; exact hVc); rw [hew']; exact this
        have hqok := hgk.qok
        have hnx := hqok.hlen
        rw [ints_length] at hnx
        have hgx := hgk.xs
        simp only at hqok hnx hgx heo
        have hxl : n ≤ 9 := by rw [← hnx, hgx]; simp; omega
        refine hround (e1 := [(9, .int .i64 qq), (8, .int .i64 (k : Nat)), (28, .int .i64 qq), (27, .int .i64 (k : Nat)), (0, ptr bd 0), (3, ptr bmay 0), (5, ptr bmp 0), (6, ptr bq 0), (7, ptr bp 0), (26, .func (.func 166) #[] #[ptr f2 0, ptr f3 0])]) 0 hh3 rfl rfl rfl rfl (fun X1 hX => ?_) ?_
        · refine g_seq ?_
          refine g_region ?_
          refine g_val rfl rfl rfl (fun _ _ => v_assign rfl) ?_
          refine g_nil ?_
          refine g_n_then ?_
          refine g_region ?_
          refine g_val rfl rfl rfl (fun _ _ => v_assign rfl) ?_
          refine g_nil ?_
          exact hX
        · refine g_block ?_
          refine g_seq ?_
          refine g_region ?_
          refine g_val rfl rfl rfl (fun w hh => v_load (Try.isAgg170 w) rfl (hh.cell 6 rfl rfl)) ?_
          refine g_val rfl rfl rfl (fun _ _ => v_move rfl) ?_
          refine g_val rfl rfl rfl (fun w hh => v_lookup2 (Try.runUnderlying170 w) (Try.runUnderlying3 w) (Try.zeroValue26 w) rfl rfl (hh.get 5 rfl)) ?_
          refine g_val rfl rfl rfl (fun _ _ => v_move rfl) ?_
          refine g_val rfl rfl rfl (fun _ _ => v_extract rfl rfl) ?_
          refine g_val rfl rfl rfl (fun _ _ => v_extract rfl rfl) ?_
          refine g_val rfl rfl rfl (fun _ _ => v_assign rfl) ?_
          refine g_val rfl rfl rfl (fun _ _ => v_assign rfl) ?_
          refine g_nil ?_
          refine g_n_then ?_
          refine g_seq ?_
          refine g_region ?_
          refine g_val rfl rfl rfl (fun _ _ => v_move rfl) ?_
          refine g_val rfl rfl rfl (fun _ _ => v_not rfl) ?_
          refine g_val rfl rfl rfl (fun _ _ => v_move rfl) ?_
          refine g_case 37 rfl (fun hkey => ?_) (fun hkey => ?_)
          · replace hkey := of_not_true hkey
            rw [mget_isSome, hpjW] at hkey
            have hqp : 0 ≤ qq := by have := sea_key hVI hkey; omega
            refine g_valG rfl rfl rfl rfl rfl (fun w hh => v_load (Try.isAgg172 w) rfl (hh.cell 7 rfl rfl)) ?_
            refine g_valG rfl rfl rfl rfl rfl (fun _ _ => v_move rfl) ?_
            refine g_valG rfl rfl rfl rfl rfl (fun _ _ => v_move rfl) ?_
            refine g_callvG rfl rfl rfl rfl rfl rfl rfl rfl rfl hcall (fun w hh => hf w hh.toExt k qq hk ⟨hqp, hq1⟩) ?_
            refine g_val rfl rfl rfl (fun _ _ => v_pickT rfl rfl) ?_
            refine g_nil ?_
            refine g_n_then ?_
            refine g_cond rfl (fun hmay => ?_) (fun hmay => ?_)
            · refine g_seq ?_
              refine g_region ?_
              refine g_val rfl rfl rfl (fun w hh => v_load (Try.isAgg170 w) rfl (hh.cell 6 rfl rfl)) ?_
              refine g_val rfl rfl rfl (fun w hh => v_load (Try.isAgg3 w) rfl (hh.cell 2 rfl rfl)) ?_
              refine g_val rfl rfl rfl (fun w hh => v_lookupS (Try.runUnderlying170 w) (Try.runUnderlying3 w) (Try.zeroValue26 w) hme rfl rfl (hh.get 5 rfl)) ?_
              refine g_val rfl rfl rfl (fun w _ => v_lenS (Try.runUnderlying26 w) rfl) ?_
              refine g_val rfl rfl rfl (fun w hh => v_load (Try.isAgg170 w) rfl (hh.cell 6 rfl rfl)) ?_
              refine g_val rfl rfl rfl (fun w hh => v_load (Try.isAgg3 w) rfl (hh.cell 2 rfl rfl)) ?_
              refine g_val rfl rfl rfl (fun w hh => v_lookupS (Try.runUnderlying170 w) (Try.runUnderlying3 w) (Try.zeroValue26 w) hme rfl rfl (hh.get 5 rfl)) ?_
              refine g_val rfl rfl rfl (fun w _ => v_lenS (Try.runUnderlying26 w) rfl) ?_
              refine g_val rfl rfl rfl (fun _ _ => v_add rfl rfl (wrap_i64 (by omega))) ?_
              refine g_makeInts (l := e.way.length) (c := e.way.length + 1) Try.underlying26 inf3 rfl rfl rfl (by omega) (by omega) (by omega) rfl (fun bw hbw => ?_)
              refine g_perm (List.perm_middle (l₁ := [_, _, _, _, _, _, _, _])).symm ?_
              have hvw : VOK 1 e.way.length (e.way.length + 1) (ints e.way) ((List.replicate (e.way.length + 1) (Value.int .i64 0)).drop e.way.length) (some (bw, 0)) := ⟨by simp [ints_length], by simp [ints_length], by omega, by simp only [maxLen]; omega, by simp, by simp⟩
              refine g_val rfl rfl rfl (fun _ _ => v_assign rfl) ?_
              refine g_nil ?_
              refine g_n_then ?_
              refine g_seq ?_
              refine g_region ?_
              refine g_val rfl rfl rfl (fun _ _ => v_move rfl) ?_
              refine g_val rfl rfl rfl (fun w hh => v_load (Try.isAgg170 w) rfl (hh.cell 6 rfl rfl)) ?_
              refine g_val rfl rfl rfl (fun w hh => v_load (Try.isAgg3 w) rfl (hh.cell 2 rfl rfl)) ?_
              refine g_val rfl rfl rfl (fun w hh => v_lookupS (Try.runUnderlying170 w) (Try.runUnderlying3 w) (Try.zeroValue26 w) hme rfl rfl (hh.get 5 rfl)) ?_
              refine g_copy (own' := [_, _, _, _, _, _, _, _] ++ (vown 3 (ints e.way) ((List.replicate (e.way.length + 1) (Value.int .i64 0)).drop e.way.length) (some (bw, 0)) ++ ((marks Ds ++ wown W) ++ X))) 8 Try.underlying26 infs3 rfl rfl rfl ints_length (by simp) (fun h0 hq => by have := (heo.hnone hq).1; omega) (fun w hh => vown_seg (E := 3) hh (fun p hp => List.mem_append_right [_, _, _, _, _, _, _, _] (List.mem_cons_of_mem _ (show p ∈ (marks Ds ++ wown W) ++ X from List.mem_append_left _ (List.mem_append_right _ (mem_wown (List.mem_of_getElem? he) p hp))))) heo.hoff heo.noneNil) ones_ints rfl rfl ?_
              refine g_nil ?_
              refine g_n_then ?_
              refine g_draw (some 13) (.hoist 0 (.free 1 (.free 2 (.free 3 (.hoist 6 (.free 7 (.br (.alt 4 (.br (.alt 5 (.one 8 (.one 9 (.one 10 (.free 11 (.one 12 (.last 13 .done)))))) (.alt 8 (.one 5 (.one 9 (.one 10 (.free 11 (.one 12 (.last 13 .done)))))) .nil))) (.alt 8 (.one 4 (.one 5 (.one 9 (.one 10 (.free 11 (.one 12 (.last 13 .done))))))) .nil))))))))) (HS _ _ [_, _] _) rfl (by decide +kernel) (fun w k hh => hh.draw k) (fun w hh => (hh.head (A := [_, _, _, _, _, _, _, _])).pick [3, 6] (by decide) rfl) ?_
              refine p_hoist rfl rfl rfl rfl (fun w hh => v_load (Try.isAgg170 w) rfl (hh.cell 1 rfl rfl)) ?_
              refine p_free rfl rfl rfl rfl (fun _ _ => v_move rfl) ?_
              refine p_free rfl rfl rfl rfl (fun _ _ => v_move rfl) ?_
              refine p_free rfl rfl rfl rfl (fun _ _ => v_move rfl) ?_
              refine p_hoist rfl rfl rfl rfl (fun w hh => v_load (Try.isAgg26 w) rfl (hh.cell 0 rfl rfl)) ?_
              refine p_free rfl rfl rfl rfl (fun _ _ => v_move rfl) ?_
              refine p_br ?_
              refine p_alt rfl ?_ ?_
              · refine g_buildSlice (vs := [(0, _)]) (cells := [_]) (fun w => Try.runUnderlying26 w) (fun w => Try.sizeOf3 w) (fun w => Try.zeroValue3 w) rfl rfl rfl rfl rfl (fun b1 hb1 => ?_)
                refine p_next (fun w hh => (hh.head (A := [_, _, _, _, _, _, _, _, _])).pick [4, 7] (by decide) rfl) ?_
                refine p_br ?_
                refine p_alt rfl ?_ ?_
                · refine g_appendM [_, _, _, _, _, _, _, _, _] (news := [_]) (xs := ints e.way) (sp := (List.replicate (e.way.length + 1) (Value.int .i64 0)).drop e.way.length) (q := some (bw, 0)) Try.underlying26 inf3 rfl rfl rfl hvw (by simp) (by decide) rfl (fun w hh => hh.ownSeg 0 rfl) (ones_all rfl) (by simp only [maxLen]; omega) (by omega) rfl (fun q2 cap3 sp4 hva => ?_)
                  rw [ints_snoc] at hva ⊢
                  refine p_next (fun w hh => (hh.head (A := [_, _, _, _, _, _, _, _, _])).pick [4, 7] (by decide) rfl) ?_
                  refine p_one rfl ?_
                  refine g_buildSlice (vs := [(0, _)]) (cells := [_]) (fun w => Try.runUnderlying26 w) (fun w => Try.sizeOf3 w) (fun w => Try.zeroValue3 w) rfl rfl rfl rfl rfl (fun b5 hb5 => ?_)
                  refine p_next (fun w hh => (hh.head (A := [_, _, _, _, _, _, _, _, _, _])).pick [5, 8] (by decide) rfl) ?_
                  refine p_one rfl ?_
                  refine g_appendP (pre := pre) (xs := ints xs) (sp := sp) (q := q) 6 Try.underlying26 inf3 rfl rfl rfl rfl hqok (fun w hh => hh.ownSeg 0 rfl) rfl (by simp only [maxLen]; omega) (by omega) rfl (fun q6 cap7 pre8 sp9 hqa => ?_)
                  rw [ints_snoc] at hqa ⊢
                  refine p_next (fun w hh => (hh.head (A := [_, _, _, _, _, _, _, _, _, _])).pick [5, 8] (by decide) rfl) ?_
                  refine p_one rfl ?_
                  refine g_mapEntry (own' := (_ :: _ :: _ :: _ :: _ :: _ :: _ :: _ :: _ :: _ :: _)) 7 (fun w => Try.runUnderlying170 w) (fun w => Try.runUnderlying3 w) (fun w => Try.zeroValue26 w) rfl rfl (mget_none (by rw [hpjW]; exact hkey)) rfl rfl rfl ?_
                  refine p_next (fun w hh => (hh.head (A := [_, _, _, _, _, _, _, _, _, _])).pick [5, 8] (by decide) rfl) ?_
                  refine p_free rfl rfl rfl rfl (fun _ _ => v_extract rfl rfl) ?_
                  refine p_one rfl ?_
                  refine g_entryStore (own' := (_ :: _ :: _ :: _ :: _ :: _ :: _ :: _ :: _ :: _ :: _)) 7 rfl rfl rfl rfl rfl ?_
                  refine p_next (fun w hh => (hh.head (A := [_, _, _, _, _, _, _, _, _, _])).pick [5, 8] (by decide) rfl) ?_
                  refine p_last rfl ?_
                  refine g_store1 (own' := (_ :: _ :: _ :: _ :: _ :: _ :: _ :: _ :: _ :: _ :: _)) 5 (fun w => Try.sizeOf26 w) rfl rfl rfl rfl rfl ?_
                  refine p_nextL ?_
                  refine p_done ?_
                  refine g_n_blk ?_
                  refine g_roundQ (i := 0) (k := 2) rfl rfl rfl (fun w2 h2 => ⟨rfl, ⟨W ++ [⟨qq, e.way ++ [(k : Int)], some q2, cap3, sp4⟩], xs ++ [qq], n + 1, q6, cap7, pre8, sp9⟩, ⟨?_, ?_, ?_, hqa⟩, ?_⟩)
                  · simp only [wproj_snoc, hpjW, tryAdd, hkey, hmay, Bool.false_eq_true, if_false, if_true, hew']
                  · intro e' he'
                    rcases List.mem_append.1 he' with h | h
                    · exact hgk.ok e' h
                    · simp only [List.mem_singleton] at h
                      subst h
                      simpa [WV.ok] using hva
                  · simp only [hgx, List.map_append, List.map_cons, List.map_nil]
                    rw [List.drop_append_of_le_length (by simp; omega)]
                  · have h3 := h2.perm (perm_end (A := [_, _, _, _, _, _, _, _]) (m := marks Ds) (w := wown W) (V := vown 3 (ints (e.way ++ [(k : Int)])) sp4 (some q2)) (X := X))
                    have e1 : wown (W ++ [(⟨qq, e.way ++ [(k : Int)], some q2, cap3, sp4⟩ : WV)]) = wown W ++ vown 3 (ints (e.way ++ [(k : Int)])) sp4 (some q2) := wown_snoc
                    have e2 : mlist (W ++ [(⟨qq, e.way ++ [(k : Int)], some q2, cap3, sp4⟩ : WV)]) = mlist W ++ [(qq, slv (some q2) (e.way.length + 1) cap3)] := by rw [mlist_snoc]; simp
                    simp only [e1, e2]
                    exact h3
                refine p_alt rfl ?_ ?_
                · refine g_buildSlice (vs := [(0, _)]) (cells := [_]) (fun w => Try.runUnderlying26 w) (fun w => Try.sizeOf3 w) (fun w => Try.zeroValue3 w) rfl rfl rfl rfl rfl (fun b10 hb10 => ?_)
                  refine p_next (fun w hh => (hh.head (A := [_, _, _, _, _, _, _, _, _, _])).pick [5, 8] (by decide) rfl) ?_
                  refine p_one rfl ?_
                  refine g_appendM [_, _, _, _, _, _, _, _, _, _] (news := [_]) (xs := ints e.way) (sp := (List.replicate (e.way.length + 1) (Value.int .i64 0)).drop e.way.length) (q := some (bw, 0)) Try.underlying26 inf3 rfl rfl rfl hvw (by simp) (by decide) rfl (fun w hh => hh.ownSeg 1 rfl) (ones_all rfl) (by simp only [maxLen]; omega) (by omega) rfl (fun q11 cap12 sp13 hva => ?_)
                  rw [ints_snoc] at hva ⊢
                  refine p_next (fun w hh => (hh.head (A := [_, _, _, _, _, _, _, _, _, _])).pick [5, 8] (by decide) rfl) ?_
                  refine p_one rfl ?_
                  refine g_appendP (pre := pre) (xs := ints xs) (sp := sp) (q := q) 6 Try.underlying26 inf3 rfl rfl rfl rfl hqok (fun w hh => hh.ownSeg 0 rfl) rfl (by simp only [maxLen]; omega) (by omega) rfl (fun q14 cap15 pre16 sp17 hqa => ?_)
                  rw [ints_snoc] at hqa ⊢
                  refine p_next (fun w hh => (hh.head (A := [_, _, _, _, _, _, _, _, _, _])).pick [5, 8] (by decide) rfl) ?_
                  refine p_one rfl ?_
                  refine g_mapEntry (own' := (_ :: _ :: _ :: _ :: _ :: _ :: _ :: _ :: _ :: _ :: _)) 7 (fun w => Try.runUnderlying170 w) (fun w => Try.runUnderlying3 w) (fun w => Try.zeroValue26 w) rfl rfl (mget_none (by rw [hpjW]; exact hkey)) rfl rfl rfl ?_
                  refine p_next (fun w hh => (hh.head (A := [_, _, _, _, _, _, _, _, _, _])).pick [5, 8] (by decide) rfl) ?_
                  refine p_free rfl rfl rfl rfl (fun _ _ => v_extract rfl rfl) ?_
                  refine p_one rfl ?_
                  refine g_entryStore (own' := (_ :: _ :: _ :: _ :: _ :: _ :: _ :: _ :: _ :: _ :: _)) 7 rfl rfl rfl rfl rfl ?_
                  refine p_next (fun w hh => (hh.head (A := [_, _, _, _, _, _, _, _, _, _])).pick [5, 8] (by decide) rfl) ?_
                  refine p_last rfl ?_
                  refine g_store1 (own' := (_ :: _ :: _ :: _ :: _ :: _ :: _ :: _ :: _ :: _ :: _)) 5 (fun w => Try.sizeOf26 w) rfl rfl rfl rfl rfl ?_
                  refine p_nextL ?_
                  refine p_done ?_
                  refine g_n_blk ?_
                  refine g_roundQ (i := 0) (k := 2) rfl rfl rfl (fun w2 h2 => ⟨rfl, ⟨W ++ [⟨qq, e.way ++ [(k : Int)], some q11, cap12, sp13⟩], xs ++ [qq], n + 1, q14, cap15, pre16, sp17⟩, ⟨?_, ?_, ?_, hqa⟩, ?_⟩)
                  · simp only [wproj_snoc, hpjW, tryAdd, hkey, hmay, Bool.false_eq_true, if_false, if_true, hew']
                  · intro e' he'
                    rcases List.mem_append.1 he' with h | h
                    · exact hgk.ok e' h
                    · simp only [List.mem_singleton] at h
                      subst h
                      simpa [WV.ok] using hva
                  · simp only [hgx, List.map_append, List.map_cons, List.map_nil]
                    rw [List.drop_append_of_le_length (by simp; omega)]
                  · have h3 := h2.perm (perm_end (A := [_, _, _, _, _, _, _, _]) (m := marks Ds) (w := wown W) (V := vown 3 (ints (e.way ++ [(k : Int)])) sp13 (some q11)) (X := X))
                    have e1 : wown (W ++ [(⟨qq, e.way ++ [(k : Int)], some q11, cap12, sp13⟩ : WV)]) = wown W ++ vown 3 (ints (e.way ++ [(k : Int)])) sp13 (some q11) := wown_snoc
                    have e2 : mlist (W ++ [(⟨qq, e.way ++ [(k : Int)], some q11, cap12, sp13⟩ : WV)]) = mlist W ++ [(qq, slv (some q11) (e.way.length + 1) cap12)] := by rw [mlist_snoc]; simp
                    simp only [e1, e2]
                    exact h3
                exact p_nil
              refine p_alt rfl ?_ ?_
              · refine g_buildSlice (vs := [(0, _)]) (cells := [_]) (fun w => Try.runUnderlying26 w) (fun w => Try.sizeOf3 w) (fun w => Try.zeroValue3 w) rfl rfl rfl rfl rfl (fun b18 hb18 => ?_)
                refine p_next (fun w hh => (hh.head (A := [_, _, _, _, _, _, _, _, _])).pick [4, 7] (by decide) rfl) ?_
                refine p_one rfl ?_
                refine g_buildSlice (vs := [(0, _)]) (cells := [_]) (fun w => Try.runUnderlying26 w) (fun w => Try.sizeOf3 w) (fun w => Try.zeroValue3 w) rfl rfl rfl rfl rfl (fun b19 hb19 => ?_)
                refine p_next (fun w hh => (hh.head (A := [_, _, _, _, _, _, _, _, _, _])).pick [5, 8] (by decide) rfl) ?_
                refine p_one rfl ?_
                refine g_appendM [_, _, _, _, _, _, _, _, _, _] (news := [_]) (xs := ints e.way) (sp := (List.replicate (e.way.length + 1) (Value.int .i64 0)).drop e.way.length) (q := some (bw, 0)) Try.underlying26 inf3 rfl rfl rfl hvw (by simp) (by decide) rfl (fun w hh => hh.ownSeg 0 rfl) (ones_all rfl) (by simp only [maxLen]; omega) (by omega) rfl (fun q20 cap21 sp22 hva => ?_)
                rw [ints_snoc] at hva ⊢
                refine p_next (fun w hh => (hh.head (A := [_, _, _, _, _, _, _, _, _, _])).pick [5, 8] (by decide) rfl) ?_
                refine p_one rfl ?_
                refine g_appendP (pre := pre) (xs := ints xs) (sp := sp) (q := q) 6 Try.underlying26 inf3 rfl rfl rfl rfl hqok (fun w hh => hh.ownSeg 1 rfl) rfl (by simp only [maxLen]; omega) (by omega) rfl (fun q23 cap24 pre25 sp26 hqa => ?_)
                rw [ints_snoc] at hqa ⊢
                refine p_next (fun w hh => (hh.head (A := [_, _, _, _, _, _, _, _, _, _])).pick [5, 8] (by decide) rfl) ?_
                refine p_one rfl ?_
                refine g_mapEntry (own' := (_ :: _ :: _ :: _ :: _ :: _ :: _ :: _ :: _ :: _ :: _)) 7 (fun w => Try.runUnderlying170 w) (fun w => Try.runUnderlying3 w) (fun w => Try.zeroValue26 w) rfl rfl (mget_none (by rw [hpjW]; exact hkey)) rfl rfl rfl ?_
                refine p_next (fun w hh => (hh.head (A := [_, _, _, _, _, _, _, _, _, _])).pick [5, 8] (by decide) rfl) ?_
                refine p_free rfl rfl rfl rfl (fun _ _ => v_extract rfl rfl) ?_
                refine p_one rfl ?_
                refine g_entryStore (own' := (_ :: _ :: _ :: _ :: _ :: _ :: _ :: _ :: _ :: _ :: _)) 7 rfl rfl rfl rfl rfl ?_
                refine p_next (fun w hh => (hh.head (A := [_, _, _, _, _, _, _, _, _, _])).pick [5, 8] (by decide) rfl) ?_
                refine p_last rfl ?_
                refine g_store1 (own' := (_ :: _ :: _ :: _ :: _ :: _ :: _ :: _ :: _ :: _ :: _)) 5 (fun w => Try.sizeOf26 w) rfl rfl rfl rfl rfl ?_
                refine p_nextL ?_
                refine p_done ?_
                refine g_n_blk ?_
                refine g_roundQ (i := 0) (k := 2) rfl rfl rfl (fun w2 h2 => ⟨rfl, ⟨W ++ [⟨qq, e.way ++ [(k : Int)], some q20, cap21, sp22⟩], xs ++ [qq], n + 1, q23, cap24, pre25, sp26⟩, ⟨?_, ?_, ?_, hqa⟩, ?_⟩)
                · simp only [wproj_snoc, hpjW, tryAdd, hkey, hmay, Bool.false_eq_true, if_false, if_true, hew']
                · intro e' he'
                  rcases List.mem_append.1 he' with h | h
                  · exact hgk.ok e' h
                  · simp only [List.mem_singleton] at h
                    subst h
                    simpa [WV.ok] using hva
                · simp only [hgx, List.map_append, List.map_cons, List.map_nil]
                  rw [List.drop_append_of_le_length (by simp; omega)]
                · have h3 := h2.perm (perm_end (A := [_, _, _, _, _, _, _, _]) (m := marks Ds) (w := wown W) (V := vown 3 (ints (e.way ++ [(k : Int)])) sp22 (some q20)) (X := X))
                  have e1 : wown (W ++ [(⟨qq, e.way ++ [(k : Int)], some q20, cap21, sp22⟩ : WV)]) = wown W ++ vown 3 (ints (e.way ++ [(k : Int)])) sp22 (some q20) := wown_snoc
                  have e2 : mlist (W ++ [(⟨qq, e.way ++ [(k : Int)], some q20, cap21, sp22⟩ : WV)]) = mlist W ++ [(qq, slv (some q20) (e.way.length + 1) cap21)] := by rw [mlist_snoc]; simp
                  simp only [e1, e2]
                  exact h3
              exact p_nil
            · refine g_skip ?_
              refine g_n_blk ?_
              refine g_roundQ (i := 0) (k := 0) rfl rfl rfl (fun w2 h2 => ⟨rfl, ⟨W, xs, n, q, cap, pre, sp⟩, ?_, h2⟩)
              rw [tryAdd, if_neg (by simp [hkey]), if_neg (by simp [hmay])]; exact hgk
          · replace hkey := of_not_false hkey
            rw [mget_isSome, hpjW] at hkey
            refine g_skipG rfl rfl rfl rfl rfl rfl ?_
            refine g_skipG rfl rfl rfl rfl rfl rfl ?_
            refine g_skipG rfl rfl rfl rfl rfl rfl ?_
            refine g_skipG rfl rfl rfl rfl rfl rfl ?_
            refine g_val rfl rfl rfl (fun _ _ => v_pickF rfl rfl) ?_
            refine g_nil ?_
            refine g_n_then ?_
            refine g_condF rfl rfl ?_
            refine g_skip ?_
            refine g_n_blk ?_
            refine g_roundQ (i := 0) (k := 0) rfl rfl rfl (fun w2 h2 => ⟨rfl, ⟨W, xs, n, q, cap, pre, sp⟩, ?_, h2⟩)
            rw [tryAdd, if_pos hkey]; exact hgk
      have hh4 : HS w [] ((f3, .cells #[.int .i64 x] 3 (0, 0)) :: (f2, .cells #[ptr bd 0] 139 (0, 0)) :: ([(l, rec .ready), (D, .deferred (some [])), (bp, .cells #[.int .i64 x] 3 (0, 0)), (bq, .cells #[slv (some (q.1, if cap = 1 then q.2 else q.2 + 1)) (n - 1) (cap - 1)] 26 (0, 0)), ((q.1, if cap = 1 then q.2 else q.2 + 1).1, .cells ((pre ++ [Value.int .i64 x]) ++ ints xs ++ sp).toArray 3 (0, 0)), (bm, mobj (mlist W)), (bmp, .cells #[.map (some bm)] 170 (0, 0)), (bmay, .cells #[.func (.func fv) fst cp] 172 (0, 0))] ++ (marks Ds ++ wown W) ++ [])) ((bd, 0, L.cells ++ ints gt) :: L.segs) w1 := by rw [List.append_nil]; exact hh2
      refine (c_from1 w [] ((bd, 0, L.cells ++ ints gt) :: L.segs) (fun g => ([(l, rec .ready), (D, .deferred (some [])), (bp, .cells #[.int .i64 x] 3 (0, 0)), (bq, .cells #[slv (some g.q) g.n g.cap] 26 (0, 0)), (g.q.1, .cells (g.pre ++ ints g.xs ++ g.sp).toArray 3 (0, 0)), (bm, mobj (mlist g.W)), (bmp, .cells #[.map (some bm)] 170 (0, 0)), (bmay, .cells #[.func (.func fv) fst cp] 172 (0, 0))] ++ (marks Ds ++ wown g.W))) (fun k g => WGk (c + 1) (procN L.S may (waysN L.S may c) c k) g) l bd f2 f3 x L hL 3 rfl hG.ne ?_ ?_ ?_ ?_ ⟨W, xs, n - 1, (q.1, if cap = 1 then q.2 else q.2 + 1), cap - 1, pre ++ [Value.int .i64 x], sp⟩ ?_ w1 [] hh4).mono ?_
      · intro g X w2 hg2 hh3
        exact hh3.rcell 0 4 rfl rfl
      · intro j g hj hg2 ha hb2
        show WGk _ (procN _ _ _ _ (j + 1)) g
        rw [procN_succ, wStep, hgd, if_neg ha, if_neg hb2]
        exact hg2
      · intro j g X w2 hj hg2 ha hh3
        have hpi := procN_inv (may := may) hG hV (c := c) (by omega) (k := j) (by omega)
        obtain ⟨hpi1, r, hr⟩ := hpi
        refine (hy _ j _ g X w2 hj (hG.sb j hj).1 (hG.sb j hj).2 hpi1 (by rw [hr, List.getElem?_append_left (by omega), ← hpj]; exact wproj_at hew hkx) hg2 hh3).mono ?_
        rintro en w' ⟨rfl, g', hg', h'⟩
        refine ⟨rfl, g', ?_, h'⟩
        show WGk _ (procN _ _ _ _ (j + 1)) g'
        rw [procN_succ, wStep, hgd, if_pos ha]
        exact hg'
      · intro j g X w2 hj hg2 hb2 hh3
        have ha := fun h => hG.ne j hj (Eq.trans h hb2.symm)
        have hpi := procN_inv (may := may) hG hV (c := c) (by omega) (k := j) (by omega)
        obtain ⟨hpi1, r, hr⟩ := hpi
        refine (hy _ j _ g X w2 hj (hG.sa j hj).1 (hG.sa j hj).2 hpi1 (by rw [hr, List.getElem?_append_left (by omega), ← hpj]; exact wproj_at hew hkx) hg2 hh3).mono ?_
        rintro en w' ⟨rfl, g', hg', h'⟩
        refine ⟨rfl, g', ?_, h'⟩
        show WGk _ (procN _ _ _ _ (j + 1)) g'
        rw [procN_succ, wStep, hgd, if_neg ha, if_pos hb2]
        exact hg'
      · refine ⟨hpj, hI0.2.ok, ?_, hI0.2.qok.pop⟩
        exact drop_tail hxs
      · rintro en w' ⟨v, rfl, g, hg2, h'⟩
        refine ⟨v, rfl, g, hg2, ?_⟩
        simp only [List.append_nil] at h'
        exact h'.swap (A := [_, _]) (B := [_, _])
    · refine g_n_blk ?_
      refine g_n_blk ?_
      refine g_n_then ?_
      refine g_perm (List.perm_middle (l₁ := [_, _, _, _, _, _, _, _])).symm ?_
      exact g_againDV (pre := [_, _, _, _, _, _, _, _]) (i := ⟨c, Ds, ⟨W, x :: xs, n, q, cap, pre, sp⟩⟩) (c + 1, D :: Ds, g) [3, 4, 5, 6, 7] rfl ((.cons rfl (.cons rfl (.cons rfl (.cons rfl .nil))))) (by decide) rfl rfl (⟨by omega, by show WGk _ (if c < (waysN L.S may c).length then _ else _) g; rw [if_pos (by omega)]; exact hp⟩) (by simp only; omega)
  · replace h18 := of_decide_eq_false h18
    simp only at h18
    refine g_exit ?_
    refine g_x_then ?_
    refine g_x_then ?_
    refine g_x_blk ?_
    refine g_n_then ?_
    refine g_seq ?_
    refine g_region ?_
    refine g_val rfl rfl rfl (fun w hh => v_load (Try.isAgg170 w) rfl (hh.cell 3 rfl rfl)) ?_
    refine g_val rfl rfl rfl (fun _ _ => v_assign rfl) ?_
    refine g_nil ?_
    refine g_n_then ?_
    refine g_ret ?_
    have en0 : n = 0 := by omega
    have hnx := hI0.2.qok.hlen
    have hxs := hI0.2.xs
    have hpj := hI0.2.pj
    simp only [ints_length] at hnx hxs hpj
    have hcl : W.length ≤ c := by have := congrArg List.length hxs; simp at this; omega
    have hfin : waysF L.S may = waysN L.S may c := waysN_stop (by rw [← hpj, wproj_length]; exact hcl) hI0.1
    refine g_perm (perm_swap (A := [_, _, _, _, _])) ?_
    refine g_doneM (Ds := Ds) rfl (.tmp rfl .nil) (fun w hh => ⟨bm, W, rfl, hfin ▸ hpj, hI0.2.ok, (HS.pickT (pre := [_, _, _, _, _]) (pre' := [(bm, mobj (mlist W))]) (T := wown W) hh [2] (by decide) rfl).toFresh⟩)

end Go.Proofs

-- plain: banks that are held
namespace Go.Pl
/-- the numbers met so far, each once -/
def seenN (l : List Int) (k : Nat) : List Int := (l.take k).foldl (fun K x => if K.contains x then K else K ++ [x]) []
def twiceF (l : List Int) : Bool := decide ((seenN l l.length).length < l.length)
theorem seenN_succ {l : List Int} {k : Nat} (h : k < l.length) : seenN l (k + 1) = if (seenN l k).contains (l.getD k 0) then seenN l k else seenN l k ++ [l.getD k 0] := by
  unfold seenN
  rw [take_foldl (d := (0 : Int)) h]
def hasI (l : List Int) (x : Int) : Bool := l.any (fun y => decide (x = y))
def mayFree (sl pl : List Int) (k q : Int) : Bool := !hasI sl k && !hasI pl q
def isSill (s : Sands) (i : Int) : Bool := inr i 0 ((s.sills.length : Int) - 1)
def holdE (s : Sands) (p : Int) (sl pl : List Int) : Int :=
  if check s ≠ 0 then check s else if isPlace s p = false ∨ sl.all (isSill s) = false ∨ pl.all (isPlace s) = false then 1 else
  if twiceF sl = true ∨ twiceF pl = true then 5 else if hasKey (waysF s (mayFree sl pl)) p = true then 8 else if (sl.length : Int) + pl.length = 0 then 6 else 0
def holdS (s : Sands) (sl : List Int) : Int := sl.foldl (fun n i => min n (s.sills.getD i.toNat default).h) 1000
def holdV (s : Sands) (sl pl : List Int) : Int := pl.foldl (fun n i => min n (s.floors.getD i.toNat 0)) (holdS s sl)
def HoldR (s : Sands) (p : Int) (sl pl : List Int) : Int × Int := if holdE s p sl pl ≠ 0 then (0, holdE s p sl pl) else (holdV s sl pl, 0)
theorem isSill_iff {s : Sands} {i : Int} : isSill s i = true ↔ 0 ≤ i ∧ i < s.sills.length := by simp [isSill, inr]; omega
end Go.Pl

