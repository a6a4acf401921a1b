/- What the functions that the law TideParted reaches come to, and why it holds: part 3. -/
import Derived.Test.YtaicfimbclibpaaTideParted2
namespace Go.Proofs
open Go Go.Fw Go.Pl
set_option maxRecDepth 100000 in
theorem c_left (L : LS) (bd : Nat) (g : List Int) (lr : Option (Nat × Nat)) (lk : List Look) (lc : Nat)  (w : World) (hL : L.OK w) (hG : Good L.S) (hgl : g.length = 8) (hd : segOK w (bd, 0, L.cells ++ ints g)) (hll : lk.length ≤ 5864062014805) (hlr : 0 < lk.length → lr ≠ none) (hK : segOK w (bk lr, off lr, flat encL lk)) (hgo : OKg g) (hlk : ∀ i, i < lk.length → lookOK L.S (lk.getD i default)) : Ret Try.prog 87 [ptr bd 0, slv lr lk.length lc] w (.agg (encP (leftG L.S g lk)).toArray) := by
  have hlt := hL.tl
  have hlf := hL.fl
  have hls := hL.sl
  have hfl8 := hG.fl
  have htl12 := hG.tl
  refine g_enter (args := [ptr bd 0, slv lr lk.length lc]) Try.func87 rfl Try.ntmps87 rfl (e := [(0, _), (1, _)]) rfl (HS.start w [] ((bd, 0, L.cells ++ ints g) :: (bk lr, off lr, flat encL lk) :: L.segs) (segsC hd (segsC hK hL.segs))) ?_
  refine g_seq ?_
  refine g_region ?_
  refine g_alloc (fun w => Try.zeroValue25 w) rfl (fun b1 hb1 => ?_)
  refine g_nil ?_
  refine g_n_then ?_
  refine g_seq ?_
  refine g_region ?_
  refine g_val rfl rfl rfl (fun _ _ => v_move rfl) ?_
  refine g_val rfl rfl rfl (fun _ _ => v_nilCheck rfl) ?_
  refine g_val rfl rfl rfl (fun w _ => v_fieldAddr 0 (Try.runUnderlying157 w) rfl (Try.sizeOf29 w) rfl) ?_
  refine g_val rfl rfl rfl (fun w _ => v_fieldAddr 1 (Try.runUnderlying29 w) rfl (Try.sizeOf25 w) rfl) ?_
  refine g_val rfl rfl rfl (fun w hh => v_loadAgg (vs := [_, _]) (Try.isAgg25 w) (Try.sizeOf25 w) rfl (hh.rcells 0 1 rfl rfl)) ?_
  refine g_alloc (fun w => Try.zeroValue25 w) rfl (fun b2 hb2 => ?_)
  refine g_storeAgg (vs := #[_, _]) (own' := (_ :: _)) 0 (fun w => Try.sizeOf25 w) rfl rfl rfl rfl rfl rfl ?_
  refine g_nil ?_
  refine g_n_then ?_
  refine g_seq ?_
  refine g_seq ?_
  refine g_region ?_
  refine g_val rfl rfl rfl (fun _ _ => v_move rfl) ?_
  refine g_val rfl rfl rfl (fun w _ => v_lenS (Try.runUnderlying35 w) rfl) ?_
  refine g_val rfl rfl rfl (fun _ _ => v_move rfl) ?_
  refine g_nil ?_
  refine g_n_then ?_
  refine g_block ?_
  refine g_sub (e' := [(16, _), (0, _), (4, _), (5, _), (14, _), (15, _)]) ((.cons rfl (.cons rfl (.cons rfl (.cons rfl (.cons rfl (.cons rfl .nil))))))) ?_
  refine g_loopM (ι := Nat × Span) (fun (k, o) => [(16, .int .i64 (k : Nat))]) (fun (k, o) => [(b2, .cells #[.int .i64 o.lo, .int .i64 o.hi] 25 (0, 0))]) (fun (k, o) => k ≤ lk.length ∧ o = leftN L.S g lk k) (fun (k, o) => lk.length - k) (0, L.S.wind) (⟨Nat.zero_le _, rfl⟩) ?_
  intro ⟨k, o⟩ hI0
  simp only at hI0
  refine g_seq ?_
  refine g_region ?_
  refine g_val rfl rfl rfl (fun _ _ => v_lss rfl rfl) ?_
  refine g_nil ?_
  refine g_n_then ?_
  refine g_seq ?_
  refine g_cond rfl (fun h17 => ?_) (fun h17 => ?_)
  · replace h17 := of_decide_eq_true h17
    have hok := hlk k (by omega)
    have hday := hok.1
    have hpl := isPlace_iff.1 hok.2
    have hmb := most_bd hG hgo hday
    have hhb := height_bd hG hday
    have hgb1 := hgo.lo (lk.getD k default).place.toNat
    have hgb2 := hgo.hi (lk.getD k default).place.toNat
    refine g_skip ?_
    refine g_n_then ?_
    refine g_seq ?_
    refine g_block ?_
    refine g_seq ?_
    refine g_region ?_
    refine g_val rfl rfl rfl (fun w _ => v_indexAddr k (Try.runUnderlying35 w) (Try.sizeOf89 w) rfl rfl rfl (by omega) (hlr (by omega))) ?_
    refine g_val rfl rfl rfl (fun w hh => v_loadAgg (vs := encL _) (Try.isAgg89 w) (Try.sizeOf89 w) rfl (hh.elem (j := k) encL_len 1 rfl (by omega))) ?_
    refine g_alloc (fun w => Try.zeroValue89 w) rfl (fun b3 hb3 => ?_)
    refine g_storeAgg (vs := #[_, _, _]) (own' := (_ :: _)) 0 (fun w => Try.sizeOf89 w) rfl rfl rfl rfl rfl rfl ?_
    refine g_nil ?_
    refine g_n_then ?_
    refine g_seq ?_
    refine g_draw none (.free 0 (.free 1 (.hoist 2 (.free 3 (.free 4 (.hoist 5 (.hoist 6 (.free 7 (.free 8 (.hoist 9 (.one 10 (.free 11 (.free 12 .done))))))))))))) _ rfl (by decide +kernel) (fun w k hh => hh.draw k) (fun w hh => hh) ?_
    refine p_free rfl rfl rfl rfl (fun _ _ => v_move rfl) ?_
    refine p_free rfl rfl rfl rfl (fun w _ => v_fieldAddr 1 (Try.runUnderlying89 w) rfl (Try.sizeOf3 w) rfl) ?_
    refine p_hoist rfl rfl rfl rfl (fun w hh => v_load (Try.isAgg3 w) rfl (hh.cell 0 rfl rfl)) ?_
    refine p_free rfl rfl rfl rfl (fun _ _ => v_nilCheck rfl) ?_
    refine p_free rfl rfl rfl rfl (fun w _ => v_fieldAddr 5 (Try.runUnderlying157 w) rfl (Try.sizeOf155 w) rfl) ?_
    refine p_hoist rfl rfl rfl rfl (fun w _ => v_arrI1 (Try.runUnderlying155 w) (Try.sizeOf3 w) rfl rfl (by omega) (by omega)) ?_
    refine p_hoist rfl rfl rfl rfl (fun w hh => v_load (Try.isAgg3 w) rfl (hh.rgate 0 rfl (by omega))) ?_
    refine p_free rfl rfl rfl rfl (fun _ _ => v_move rfl) ?_
    refine p_free rfl rfl rfl rfl (fun w _ => v_fieldAddr 0 (Try.runUnderlying89 w) rfl (Try.sizeOf3 w) rfl) ?_
    refine p_hoist rfl rfl rfl rfl (fun w hh => v_load (Try.isAgg3 w) rfl (hh.cell 0 rfl rfl)) ?_
    refine p_one rfl ?_
    refine g_callv rfl rfl rfl rfl rfl rfl rfl (fun a w => Try.call110 a w) (fun w hh => c_height L bd g _ w (hL.ext hh.toExt) hG hgl (hh.seg 0 rfl) (by assumption)) ?_
    refine p_next (fun w hh => hh) ?_
    refine p_free rfl rfl rfl rfl (fun _ _ => v_sub rfl rfl (wrap_i64 (by omega))) ?_
    refine p_free rfl rfl rfl rfl (fun _ _ => v_assign rfl) ?_
    refine p_done ?_
    refine g_n_then ?_
    refine g_seq ?_
    refine g_seq ?_
    refine g_draw none (.free 0 (.free 1 (.hoist 2 (.free 3 (.free 4 (.hoist 5 (.hoist 6 (.free 7 .done)))))))) _ rfl (by decide +kernel) (fun w k hh => hh.draw k) (fun w hh => hh) ?_
    refine p_free rfl rfl rfl rfl (fun _ _ => v_move rfl) ?_
    refine p_free rfl rfl rfl rfl (fun w _ => v_fieldAddr 1 (Try.runUnderlying89 w) rfl (Try.sizeOf3 w) rfl) ?_
    refine p_hoist rfl rfl rfl rfl (fun w hh => v_load (Try.isAgg3 w) rfl (hh.cell 0 rfl rfl)) ?_
    refine p_free rfl rfl rfl rfl (fun _ _ => v_nilCheck rfl) ?_
    refine p_free rfl rfl rfl rfl (fun w _ => v_fieldAddr 5 (Try.runUnderlying157 w) rfl (Try.sizeOf155 w) rfl) ?_
    refine p_hoist rfl rfl rfl rfl (fun w _ => v_arrI1 (Try.runUnderlying155 w) (Try.sizeOf3 w) rfl rfl (by omega) (by omega)) ?_
    refine p_hoist rfl rfl rfl rfl (fun w hh => v_load (Try.isAgg3 w) rfl (hh.rgate 0 rfl (by omega))) ?_
    refine p_free rfl rfl rfl rfl (fun _ _ => v_eql rfl rfl) ?_
    refine p_done ?_
    refine g_n_then ?_
    refine g_cond rfl (fun hc39_2 => ?_) (fun hc39_2 => ?_)
    · replace hc39_2 := of_decide_eq_true hc39_2
      refine g_region ?_
      refine g_val rfl rfl rfl (fun _ _ => v_assign rfl) ?_
      refine g_nil ?_
      refine g_n_then ?_
      refine g_seq ?_
      refine g_region ?_
      refine g_val rfl rfl rfl (fun w _ => v_fieldAddr 2 (Try.runUnderlying89 w) rfl (Try.sizeOf4 w) rfl) ?_
      refine g_val rfl rfl rfl (fun w hh => v_load (Try.isAgg4 w) rfl (hh.cell 0 rfl rfl)) ?_
      refine g_nil ?_
      refine g_n_then ?_
      refine g_cond rfl (fun hc41_3 => ?_) (fun hc41_3 => ?_)
      · have hc41_3 := hc41_3
        refine g_region ?_
        refine g_val rfl rfl rfl (fun w _ => v_fieldAddr 0 (Try.runUnderlying25 w) rfl (Try.sizeOf3 w) rfl) ?_
        refine g_val rfl rfl rfl (fun w hh => v_load (Try.isAgg3 w) rfl (hh.cell 1 rfl rfl)) ?_
        refine g_val rfl rfl rfl (fun _ _ => v_move rfl) ?_
        refine g_val rfl rfl rfl (fun _ _ => v_add rfl rfl (wrap_i64 (by omega))) ?_
        refine g_val rfl rfl rfl (fun _ _ => v_max rfl rfl) ?_
        refine g_val rfl rfl rfl (fun w _ => v_fieldAddr 0 (Try.runUnderlying25 w) rfl (Try.sizeOf3 w) rfl) ?_
        refine g_storeAt (cs' := #[_, _]) (own' := (_ :: _ :: _)) 1 (fun w => Try.sizeOf3 w) rfl rfl rfl rfl rfl rfl rfl ?_
        refine g_nil ?_
        refine g_n_blk ?_
        refine g_n_then ?_
        refine g_region ?_
        refine g_val rfl rfl rfl (fun _ _ => v_add rfl rfl (wrap_i64 (by omega))) ?_
        refine g_val rfl rfl rfl (fun _ _ => v_move rfl) ?_
        refine g_nil ?_
        refine g_n_then ?_
        exact g_againM (i := ⟨k, o⟩) (k + 1, ⟨max o.lo (50 + 1), o.hi⟩) [1, 2] ((.cons rfl (.cons rfl (.cons rfl (.cons rfl (.cons rfl (.cons rfl .nil))))))) (by decide) rfl (⟨by omega, by rw [leftN_succ (by omega), ← hI0.2]; simp only [leftStep, mostG, *, if_true, if_false, reduceCtorEq, Bool.false_eq_true]⟩) (by simp only; omega)
      · have hc41_3 := hc41_3
        refine g_region ?_
        refine g_val rfl rfl rfl (fun w _ => v_fieldAddr 1 (Try.runUnderlying25 w) rfl (Try.sizeOf3 w) rfl) ?_
        refine g_val rfl rfl rfl (fun w hh => v_load (Try.isAgg3 w) rfl (hh.cell 1 rfl rfl)) ?_
        refine g_val rfl rfl rfl (fun _ _ => v_move rfl) ?_
        refine g_val rfl rfl rfl (fun _ _ => v_min rfl rfl) ?_
        refine g_val rfl rfl rfl (fun w _ => v_fieldAddr 1 (Try.runUnderlying25 w) rfl (Try.sizeOf3 w) rfl) ?_
        refine g_storeAt (cs' := #[_, _]) (own' := (_ :: _ :: _)) 1 (fun w => Try.sizeOf3 w) rfl rfl rfl rfl rfl rfl rfl ?_
        refine g_nil ?_
        refine g_n_blk ?_
        refine g_n_then ?_
        refine g_region ?_
        refine g_val rfl rfl rfl (fun _ _ => v_add rfl rfl (wrap_i64 (by omega))) ?_
        refine g_val rfl rfl rfl (fun _ _ => v_move rfl) ?_
        refine g_nil ?_
        refine g_n_then ?_
        exact g_againM (i := ⟨k, o⟩) (k + 1, ⟨o.lo, min o.hi 50⟩) [1, 2] ((.cons rfl (.cons rfl (.cons rfl (.cons rfl (.cons rfl (.cons rfl .nil))))))) (by decide) rfl (⟨by omega, by rw [leftN_succ (by omega), ← hI0.2]; simp only [leftStep, mostG, *, if_true, if_false, reduceCtorEq, Bool.false_eq_true]⟩) (by simp only; omega)
    · replace hc39_2 := of_decide_eq_false hc39_2
      refine g_skip ?_
      refine g_n_then ?_
      refine g_seq ?_
      refine g_region ?_
      refine g_val rfl rfl rfl (fun w _ => v_fieldAddr 2 (Try.runUnderlying89 w) rfl (Try.sizeOf4 w) rfl) ?_
      refine g_val rfl rfl rfl (fun w hh => v_load (Try.isAgg4 w) rfl (hh.cell 0 rfl rfl)) ?_
      refine g_nil ?_
      refine g_n_then ?_
      refine g_cond rfl (fun hc41_4 => ?_) (fun hc41_4 => ?_)
      · have hc41_4 := hc41_4
        refine g_region ?_
        refine g_val rfl rfl rfl (fun w _ => v_fieldAddr 0 (Try.runUnderlying25 w) rfl (Try.sizeOf3 w) rfl) ?_
        refine g_val rfl rfl rfl (fun w hh => v_load (Try.isAgg3 w) rfl (hh.cell 1 rfl rfl)) ?_
        refine g_val rfl rfl rfl (fun _ _ => v_move rfl) ?_
        refine g_val rfl rfl rfl (fun _ _ => v_add rfl rfl (wrap_i64 (by omega))) ?_
        refine g_val rfl rfl rfl (fun _ _ => v_max rfl rfl) ?_
        refine g_val rfl rfl rfl (fun w _ => v_fieldAddr 0 (Try.runUnderlying25 w) rfl (Try.sizeOf3 w) rfl) ?_
        refine g_storeAt (cs' := #[_, _]) (own' := (_ :: _ :: _)) 1 (fun w => Try.sizeOf3 w) rfl rfl rfl rfl rfl rfl rfl ?_
        refine g_nil ?_
        refine g_n_blk ?_
        refine g_n_then ?_
        refine g_region ?_
        refine g_val rfl rfl rfl (fun _ _ => v_add rfl rfl (wrap_i64 (by omega))) ?_
        refine g_val rfl rfl rfl (fun _ _ => v_move rfl) ?_
        refine g_nil ?_
        refine g_n_then ?_
        exact g_againM (i := ⟨k, o⟩) (k + 1, ⟨max o.lo ((g.getD (lk.getD k default).place.toNat 0 - heightF L.S (lk.getD k default).min) + 1), o.hi⟩) [1, 2] ((.cons rfl (.cons rfl (.cons rfl (.cons rfl (.cons rfl (.cons rfl .nil))))))) (by decide) rfl (⟨by omega, by rw [leftN_succ (by omega), ← hI0.2]; simp only [leftStep, mostG, *, if_true, if_false, reduceCtorEq, Bool.false_eq_true]⟩) (by simp only; omega)
      · have hc41_4 := hc41_4
        refine g_region ?_
        refine g_val rfl rfl rfl (fun w _ => v_fieldAddr 1 (Try.runUnderlying25 w) rfl (Try.sizeOf3 w) rfl) ?_
        refine g_val rfl rfl rfl (fun w hh => v_load (Try.isAgg3 w) rfl (hh.cell 1 rfl rfl)) ?_
        refine g_val rfl rfl rfl (fun _ _ => v_move rfl) ?_
        refine g_val rfl rfl rfl (fun _ _ => v_min rfl rfl) ?_
        refine g_val rfl rfl rfl (fun w _ => v_fieldAddr 1 (Try.runUnderlying25 w) rfl (Try.sizeOf3 w) rfl) ?_
        refine g_storeAt (cs' := #[_, _]) (own' := (_ :: _ :: _)) 1 (fun w => Try.sizeOf3 w) rfl rfl rfl rfl rfl rfl rfl ?_
        refine g_nil ?_
        refine g_n_blk ?_
        refine g_n_then ?_
        refine g_region ?_
        refine g_val rfl rfl rfl (fun _ _ => v_add rfl rfl (wrap_i64 (by omega))) ?_
        refine g_val rfl rfl rfl (fun _ _ => v_move rfl) ?_
        refine g_nil ?_
        refine g_n_then ?_
        exact g_againM (i := ⟨k, o⟩) (k + 1, ⟨o.lo, min o.hi (g.getD (lk.getD k default).place.toNat 0 - heightF L.S (lk.getD k default).min)⟩) [1, 2] ((.cons rfl (.cons rfl (.cons rfl (.cons rfl (.cons rfl (.cons rfl .nil))))))) (by decide) rfl (⟨by omega, by rw [leftN_succ (by omega), ← hI0.2]; simp only [leftStep, mostG, *, if_true, if_false, reduceCtorEq, Bool.false_eq_true]⟩) (by simp only; omega)
  · replace h17 := of_decide_eq_false h17
    refine g_exit ?_
    refine g_x_then ?_
    refine g_x_then ?_
    refine g_x_blk ?_
    refine g_n_then ?_
    refine g_seq ?_
    refine g_region ?_
    refine g_val rfl rfl rfl (fun w hh => v_loadAgg (vs := [_, _]) (Try.isAgg25 w) (Try.sizeOf25 w) rfl (hh.cells 0 rfl rfl)) ?_
    refine g_storeAgg (vs := #[_, _]) (own' := (_ :: _ :: _)) 1 (fun w => Try.sizeOf25 w) rfl rfl rfl rfl rfl rfl ?_
    refine g_nil ?_
    refine g_n_then ?_
    refine g_ret ?_
    have ek : k = lk.length := by omega
    subst ek
    refine g_done rfl (fun w hh => (.cell rfl (loadVar_agg (vs := [_, _]) (Try.isAgg25 _) (Try.sizeOf25 _) (hh.cells 1 rfl rfl)) .nil)) (fun w hh => ⟨?_, hh.toExt⟩)
    rw [hI0.2, leftN_all]; rfl

set_option maxRecDepth 100000 in
theorem c_lookedR (lr : Option (Nat × Nat)) (lk : List Look) (lc : Nat) (L : LS) (w : World) (hL : L.OK w) (hll : lk.length ≤ 5864062014805) (hlr : 0 < lk.length → lr ≠ none) (hK : segOK w (bk lr, off lr, flat encL lk)) (h : lookedE L.S lk = 0) : Calls Try.prog 86 #[L.val, slv lr lk.length lc] w (fun en w' => ∃ bd : Nat, en = .returned (.tuple #[ptr bd 0, .int .i64 0]) ∧ True ∧ News w w' [(bd, 0, L.cells ++ ints (gatesOf L.S))]) := by
  have hlt := hL.tl
  have hlf := hL.fl
  have hls := hL.sl
  refine g_enter (args := [L.val, slv lr lk.length lc]) Try.func86 rfl Try.ntmps86 rfl (e := [(0, _), (1, _)]) rfl (HS.start w [] ((bk lr, off lr, flat encL lk) :: L.segs) (segsC hK hL.segs)) ?_
  refine g_seq ?_
  refine g_region ?_
  refine g_box rfl rfl (fun b1 hb1 => ?_)
  refine g_val rfl rfl rfl (fun _ _ => v_assign rfl) ?_
  refine g_val rfl rfl rfl (fun _ _ => v_assign rfl) ?_
  refine g_nil ?_
  refine g_n_then ?_
  refine g_seq ?_
  refine g_region ?_
  refine g_val rfl rfl rfl (fun w hh => v_loadAgg (vs := [_, _, _, _, _]) (Try.isAgg29 w) (Try.sizeOf29 w) rfl (hh.cells 0 rfl rfl)) ?_
  by_cases hc : check L.S = 0
  · have hG := good_of_check hc
    have hfl8 := hG.fl
    have htl12 := hG.tl
    have hsl16 := hG.sl
    refine g_callR (ι := Nat) (p := fun bd => w.heap.size ≤ bd) (S := fun bd => [(bd, 0, L.cells ++ ints (gatesOf L.S))]) (ret := fun bd => .tuple #[ptr bd 0, .int .i64 0]) rfl rfl rfl rfl rfl rfl rfl (fun a w => Try.call102 a w) (fun w1 hh => (c_openedR L w1 (hL.ext hh.toExt) hc).mono (by rintro en w' ⟨bd, rfl, _, hN⟩; exact ⟨bd, rfl, Nat.le_trans hh.size (hN.new _ List.mem_cons_self (by simp [LS.cells])), hN⟩)) (fun bd hbdn => ?_)
    refine g_val rfl rfl rfl (fun _ _ => v_move rfl) ?_
    refine g_val rfl rfl rfl (fun _ _ => v_extract rfl rfl) ?_
    refine g_val rfl rfl rfl (fun _ _ => v_extract rfl rfl) ?_
    refine g_val rfl rfl rfl (fun _ _ => v_assign rfl) ?_
    refine g_val rfl rfl rfl (fun _ _ => v_assign rfl) ?_
    refine g_nil ?_
    refine g_n_then ?_
    refine g_seq ?_
    refine g_block ?_
    refine g_seq ?_
    refine g_region ?_
    refine g_val rfl rfl rfl (fun _ _ => v_move rfl) ?_
    refine g_val rfl rfl rfl (fun _ _ => v_neq rfl rfl) ?_
    refine g_val rfl rfl rfl (fun _ _ => v_assign rfl) ?_
    refine g_nil ?_
    refine g_n_then ?_
    refine g_condF rfl rfl ?_
    refine g_seq ?_
    refine g_region ?_
    refine g_val rfl rfl rfl (fun _ _ => v_move rfl) ?_
    refine g_val rfl rfl rfl (fun w _ => v_lenS (Try.runUnderlying35 w) rfl) ?_
    refine g_val rfl rfl rfl (fun _ _ => v_gtr rfl rfl) ?_
    refine g_val rfl rfl rfl (fun _ _ => v_assign rfl) ?_
    refine g_nil ?_
    refine g_n_then ?_
    refine g_cond rfl (fun hc19_1 => ?_) (fun hc19_1 => ?_)
    · replace hc19_1 := of_decide_eq_true hc19_1
      refine g_seq ?_
      refine g_region ?_
      refine g_val rfl rfl rfl (fun _ _ => v_assign rfl) ?_
      refine g_val rfl rfl rfl (fun _ _ => v_assign rfl) ?_
      refine g_nil ?_
      refine g_n_then ?_
      refine g_ret ?_
      refine g_r_blk ?_
      refine g_r_then ?_
      have eL : lookedE L.S lk = 2 := by simp only [lookedE, ne_eq, hc, not_true_eq_false, if_false]; rw [if_pos (by omega)]
      exact absurd (eL.symm.trans h) (by decide)
    · replace hc19_1 := of_decide_eq_false hc19_1
      refine g_skip ?_
      refine g_n_blk ?_
      refine g_n_then ?_
      refine g_seq ?_
      refine g_seq ?_
      refine g_region ?_
      refine g_val rfl rfl rfl (fun _ _ => v_move rfl) ?_
      refine g_val rfl rfl rfl (fun w _ => v_lenS (Try.runUnderlying35 w) rfl) ?_
      refine g_val rfl rfl rfl (fun _ _ => v_move rfl) ?_
      refine g_nil ?_
      refine g_n_then ?_
      refine g_block ?_
      refine g_sub (e' := [(25, _), (6, _), (23, _), (24, _)]) ((.cons rfl (.cons rfl (.cons rfl (.cons rfl .nil))))) ?_
      refine g_loopM (ι := Nat) (fun k => [(25, .int .i64 (k : Nat))]) (fun k => []) (fun k => k ≤ lk.length ∧ ∀ i, i < k → lookOK L.S (lk.getD i default)) (fun k => lk.length - k) 0 (⟨Nat.zero_le _, fun i hi => absurd hi (by omega)⟩) ?_
      intro k hI1
      refine g_seq ?_
      refine g_region ?_
      refine g_val rfl rfl rfl (fun _ _ => v_lss rfl rfl) ?_
      refine g_nil ?_
      refine g_n_then ?_
      refine g_seq ?_
      refine g_cond rfl (fun hc26_2 => ?_) (fun hc26_2 => ?_)
      · replace hc26_2 := of_decide_eq_true hc26_2
        refine g_skip ?_
        refine g_n_then ?_
        refine g_seq ?_
        refine g_block ?_
        refine g_seq ?_
        refine g_region ?_
        refine g_val rfl rfl rfl (fun w _ => v_indexAddr k (Try.runUnderlying35 w) (Try.sizeOf89 w) rfl rfl rfl (by omega) (hlr (by omega))) ?_
        refine g_val rfl rfl rfl (fun w hh => v_loadAgg (vs := encL _) (Try.isAgg89 w) (Try.sizeOf89 w) rfl (hh.elem (j := k) encL_len 1 rfl (by omega))) ?_
        refine g_alloc (fun w => Try.zeroValue89 w) rfl (fun b2 hb2 => ?_)
        refine g_storeAgg (vs := #[_, _, _]) (own' := (_ :: _)) 0 (fun w => Try.sizeOf89 w) rfl rfl rfl rfl rfl rfl ?_
        refine g_nil ?_
        refine g_n_then ?_
        refine g_block ?_
        refine g_seq ?_
        refine g_region ?_
        refine g_val rfl rfl rfl (fun _ _ => v_move rfl) ?_
        refine g_val rfl rfl rfl (fun w _ => v_fieldAddr 0 (Try.runUnderlying89 w) rfl (Try.sizeOf3 w) rfl) ?_
        refine g_val rfl rfl rfl (fun w hh => v_load (Try.isAgg3 w) rfl (hh.cell 0 rfl rfl)) ?_
        refine g_callv rfl rfl rfl rfl rfl rfl rfl (fun a w => Try.call103 a w) (fun w hh => c_day L bd (gatesOf L.S) _ w (hL.ext hh.toExt) hG gates_length (hh.seg 0 rfl)) ?_
        refine g_val rfl rfl rfl (fun _ _ => v_not rfl) ?_
        refine g_val rfl rfl rfl (fun _ _ => v_assign rfl) ?_
        refine g_nil ?_
        refine g_n_then ?_
        refine g_cond rfl (fun hc29_3 => ?_) (fun hc29_3 => ?_)
        · replace hc29_3 := of_not_true hc29_3
          refine g_seq ?_
          refine g_region ?_
          refine g_val rfl rfl rfl (fun _ _ => v_assign rfl) ?_
          refine g_val rfl rfl rfl (fun _ _ => v_assign rfl) ?_
          refine g_nil ?_
          refine g_n_then ?_
          refine g_ret ?_
          refine g_r_blk ?_
          refine g_r_blk ?_
          refine g_r_then ?_
          refine g_r_then ?_
          refine g_r_blk ?_
          refine g_r_then ?_
          have eL : lookedE L.S lk = 3 := (lookedE_look hc (by omega)).trans (lookE_of (k := k) (by omega) hI1.2 (by simp only [lookE, *, if_true]))
          exact absurd (eL.symm.trans h) (by decide)
        · replace hc29_3 := of_not_false hc29_3
          refine g_seq ?_
          refine g_draw none (.free 0 (.free 1 (.free 2 (.hoist 3 (.free 4 (.hoist 5 (.one 6 (.free 7 (.free 8 .done))))))))) _ rfl (by decide +kernel) (fun w k hh => hh.draw k) (fun w hh => hh) ?_
          refine p_free rfl rfl rfl rfl (fun _ _ => v_move rfl) ?_
          refine p_free rfl rfl rfl rfl (fun _ _ => v_nilCheck rfl) ?_
          refine p_free rfl rfl rfl rfl (fun w _ => v_fieldAddr 0 (Try.runUnderlying157 w) rfl (Try.sizeOf29 w) rfl) ?_
          refine p_hoist rfl rfl rfl rfl (fun w hh => v_loadAgg (vs := [_, _, _, _, _]) (Try.isAgg29 w) (Try.sizeOf29 w) rfl (hh.rcells 0 0 rfl rfl)) ?_
          refine p_free rfl rfl rfl rfl (fun w _ => v_fieldAddr 1 (Try.runUnderlying89 w) rfl (Try.sizeOf3 w) rfl) ?_
          refine p_hoist rfl rfl rfl rfl (fun w hh => v_load (Try.isAgg3 w) rfl (hh.cell 0 rfl rfl)) ?_
          refine p_one rfl ?_
          refine g_callv rfl rfl rfl rfl rfl rfl rfl (fun a w => Try.call89 a w) (fun w hh => c_place _ L w (hL.ext hh.toExt)) ?_
          refine p_next (fun w hh => hh) ?_
          refine p_free rfl rfl rfl rfl (fun _ _ => v_not rfl) ?_
          refine p_free rfl rfl rfl rfl (fun _ _ => v_assign rfl) ?_
          refine p_done ?_
          refine g_n_then ?_
          refine g_cond rfl (fun hc35_4 => ?_) (fun hc35_4 => ?_)
          · replace hc35_4 := of_not_true hc35_4
            have hc35_4 := hc35_4
            refine g_seq ?_
            refine g_region ?_
            refine g_val rfl rfl rfl (fun _ _ => v_assign rfl) ?_
            refine g_val rfl rfl rfl (fun _ _ => v_assign rfl) ?_
            refine g_nil ?_
            refine g_n_then ?_
            refine g_ret ?_
            refine g_r_blk ?_
            refine g_r_blk ?_
            refine g_r_then ?_
            refine g_r_then ?_
            refine g_r_blk ?_
            refine g_r_then ?_
            have eL : lookedE L.S lk = 1 := (lookedE_look hc (by omega)).trans (lookE_of (k := k) (by omega) hI1.2 (by simp only [lookE, *, if_true, if_false, Bool.true_eq_false]))
            exact absurd (eL.symm.trans h) (by decide)
          · replace hc35_4 := of_not_false hc35_4
            have hpl := isPlace_iff.1 hc35_4
            refine g_skip ?_
            refine g_n_blk ?_
            refine g_n_blk ?_
            refine g_n_then ?_
            refine g_region ?_
            refine g_val rfl rfl rfl (fun _ _ => v_add rfl rfl (wrap_i64 (by omega))) ?_
            refine g_val rfl rfl rfl (fun _ _ => v_move rfl) ?_
            refine g_nil ?_
            refine g_n_then ?_
            exact g_againM (i := k) (k + 1) [1] ((.cons rfl (.cons rfl (.cons rfl (.cons rfl .nil))))) (by decide) rfl (⟨by omega, fun i hi => by rcases Nat.lt_succ_iff_lt_or_eq.1 hi with h | h; exact hI1.2 i h; subst h; exact ⟨by assumption, by assumption⟩⟩) (by omega)
      · replace hc26_2 := of_decide_eq_false hc26_2
        refine g_exit ?_
        refine g_x_then ?_
        refine g_x_then ?_
        refine g_x_blk ?_
        refine g_n_then ?_
        refine g_seq ?_
        refine g_region ?_
        refine g_val rfl rfl rfl (fun _ _ => v_move rfl) ?_
        refine g_val rfl rfl rfl (fun _ _ => v_assign rfl) ?_
        refine g_val rfl rfl rfl (fun _ _ => v_assign rfl) ?_
        refine g_nil ?_
        refine g_n_then ?_
        refine g_ret ?_
        refine g_done rfl (fun w hh => (.tmp rfl (.tmp rfl .nil))) (fun w hh => ⟨_, rfl, trivial, (News.nil hh.toExt).cons (hh.seg 0 rfl) (fun _ => by assumption)⟩)
  · refine g_callv rfl rfl rfl rfl rfl rfl rfl (fun a w => Try.call102 a w) (fun w hh => c_openedE L w (hL.ext hh.toExt) hc) ?_
    refine g_val rfl rfl rfl (fun _ _ => v_move rfl) ?_
    refine g_val rfl rfl rfl (fun _ _ => v_extract rfl rfl) ?_
    refine g_val rfl rfl rfl (fun _ _ => v_extract rfl rfl) ?_
    refine g_val rfl rfl rfl (fun _ _ => v_assign rfl) ?_
    refine g_val rfl rfl rfl (fun _ _ => v_assign rfl) ?_
    refine g_nil ?_
    refine g_n_then ?_
    refine g_seq ?_
    refine g_block ?_
    refine g_seq ?_
    refine g_region ?_
    refine g_val rfl rfl rfl (fun _ _ => v_move rfl) ?_
    refine g_val rfl rfl rfl (fun _ _ => v_neq rfl rfl) ?_
    refine g_val rfl rfl rfl (fun _ _ => v_assign rfl) ?_
    refine g_nil ?_
    refine g_n_then ?_
    refine g_condT rfl (neP hc) ?_
    refine g_seq ?_
    refine g_region ?_
    refine g_val rfl rfl rfl (fun _ _ => v_move rfl) ?_
    refine g_val rfl rfl rfl (fun _ _ => v_assign rfl) ?_
    refine g_val rfl rfl rfl (fun _ _ => v_assign rfl) ?_
    refine g_nil ?_
    refine g_n_then ?_
    refine g_ret ?_
    refine g_r_blk ?_
    refine g_r_then ?_
    have eL : lookedE L.S lk = check L.S := by simp only [lookedE, ne_eq, hc, not_false_eq_true, if_true]
    exact absurd (eL.symm.trans h) hc

set_option maxRecDepth 100000 in
theorem c_lookedE (lr : Option (Nat × Nat)) (lk : List Look) (lc : Nat) (L : LS) (w : World) (hL : L.OK w) (hll : lk.length ≤ 5864062014805) (hlr : 0 < lk.length → lr ≠ none) (hK : segOK w (bk lr, off lr, flat encL lk)) (h : lookedE L.S lk ≠ 0) : Ret Try.prog 86 [L.val, slv lr lk.length lc] w (.tuple #[.pointer none, .int .i64 (lookedE L.S lk)]) := by
  have hlt := hL.tl
  have hlf := hL.fl
  have hls := hL.sl
  refine g_enter (args := [L.val, slv lr lk.length lc]) Try.func86 rfl Try.ntmps86 rfl (e := [(0, _), (1, _)]) rfl (HS.start w [] ((bk lr, off lr, flat encL lk) :: L.segs) (segsC hK hL.segs)) ?_
  refine g_seq ?_
  refine g_region ?_
  refine g_box rfl rfl (fun b1 hb1 => ?_)
  refine g_val rfl rfl rfl (fun _ _ => v_assign rfl) ?_
  refine g_val rfl rfl rfl (fun _ _ => v_assign rfl) ?_
  refine g_nil ?_
  refine g_n_then ?_
  refine g_seq ?_
  refine g_region ?_
  refine g_val rfl rfl rfl (fun w hh => v_loadAgg (vs := [_, _, _, _, _]) (Try.isAgg29 w) (Try.sizeOf29 w) rfl (hh.cells 0 rfl rfl)) ?_
  by_cases hc : check L.S = 0
  · have hG := good_of_check hc
    have hfl8 := hG.fl
    have htl12 := hG.tl
    have hsl16 := hG.sl
    refine g_callR (ι := Nat) (p := fun bd => w.heap.size ≤ bd) (S := fun bd => [(bd, 0, L.cells ++ ints (gatesOf L.S))]) (ret := fun bd => .tuple #[ptr bd 0, .int .i64 0]) rfl rfl rfl rfl rfl rfl rfl (fun a w => Try.call102 a w) (fun w1 hh => (c_openedR L w1 (hL.ext hh.toExt) hc).mono (by rintro en w' ⟨bd, rfl, _, hN⟩; exact ⟨bd, rfl, Nat.le_trans hh.size (hN.new _ List.mem_cons_self (by simp [LS.cells])), hN⟩)) (fun bd hbdn => ?_)
    refine g_val rfl rfl rfl (fun _ _ => v_move rfl) ?_
    refine g_val rfl rfl rfl (fun _ _ => v_extract rfl rfl) ?_
    refine g_val rfl rfl rfl (fun _ _ => v_extract rfl rfl) ?_
    refine g_val rfl rfl rfl (fun _ _ => v_assign rfl) ?_
    refine g_val rfl rfl rfl (fun _ _ => v_assign rfl) ?_
    refine g_nil ?_
    refine g_n_then ?_
    refine g_seq ?_
    refine g_block ?_
    refine g_seq ?_
    refine g_region ?_
    refine g_val rfl rfl rfl (fun _ _ => v_move rfl) ?_
    refine g_val rfl rfl rfl (fun _ _ => v_neq rfl rfl) ?_
    refine g_val rfl rfl rfl (fun _ _ => v_assign rfl) ?_
    refine g_nil ?_
    refine g_n_then ?_
    refine g_condF rfl rfl ?_
    refine g_seq ?_
    refine g_region ?_
    refine g_val rfl rfl rfl (fun _ _ => v_move rfl) ?_
    refine g_val rfl rfl rfl (fun w _ => v_lenS (Try.runUnderlying35 w) rfl) ?_
    refine g_val rfl rfl rfl (fun _ _ => v_gtr rfl rfl) ?_
    refine g_val rfl rfl rfl (fun _ _ => v_assign rfl) ?_
    refine g_nil ?_
    refine g_n_then ?_
    refine g_cond rfl (fun hc19_1 => ?_) (fun hc19_1 => ?_)
    · replace hc19_1 := of_decide_eq_true hc19_1
      refine g_seq ?_
      refine g_region ?_
      refine g_val rfl rfl rfl (fun _ _ => v_assign rfl) ?_
      refine g_val rfl rfl rfl (fun _ _ => v_assign rfl) ?_
      refine g_nil ?_
      refine g_n_then ?_
      refine g_ret ?_
      refine g_r_blk ?_
      refine g_r_then ?_
      have eL : lookedE L.S lk = 2 := by simp only [lookedE, ne_eq, hc, not_true_eq_false, if_false]; rw [if_pos (by omega)]
      refine g_done rfl (fun w hh => (.tmp rfl (.tmp rfl .nil))) (fun w hh => ⟨?_, hh.toExt⟩)
      rw [eL]; rfl
    · replace hc19_1 := of_decide_eq_false hc19_1
      refine g_skip ?_
      refine g_n_blk ?_
      refine g_n_then ?_
      refine g_seq ?_
      refine g_seq ?_
      refine g_region ?_
      refine g_val rfl rfl rfl (fun _ _ => v_move rfl) ?_
      refine g_val rfl rfl rfl (fun w _ => v_lenS (Try.runUnderlying35 w) rfl) ?_
      refine g_val rfl rfl rfl (fun _ _ => v_move rfl) ?_
      refine g_nil ?_
      refine g_n_then ?_
      refine g_block ?_
      refine g_sub (e' := [(25, _), (6, _), (23, _), (24, _)]) ((.cons rfl (.cons rfl (.cons rfl (.cons rfl .nil))))) ?_
      refine g_loopM (ι := Nat) (fun k => [(25, .int .i64 (k : Nat))]) (fun k => []) (fun k => k ≤ lk.length ∧ ∀ i, i < k → lookOK L.S (lk.getD i default)) (fun k => lk.length - k) 0 (⟨Nat.zero_le _, fun i hi => absurd hi (by omega)⟩) ?_
      intro k hI1
      refine g_seq ?_
      refine g_region ?_
      refine g_val rfl rfl rfl (fun _ _ => v_lss rfl rfl) ?_
      refine g_nil ?_
      refine g_n_then ?_
      refine g_seq ?_
      refine g_cond rfl (fun hc26_2 => ?_) (fun hc26_2 => ?_)
      · replace hc26_2 := of_decide_eq_true hc26_2
        refine g_skip ?_
        refine g_n_then ?_
        refine g_seq ?_
        refine g_block ?_
        refine g_seq ?_
        refine g_region ?_
        refine g_val rfl rfl rfl (fun w _ => v_indexAddr k (Try.runUnderlying35 w) (Try.sizeOf89 w) rfl rfl rfl (by omega) (hlr (by omega))) ?_
        refine g_val rfl rfl rfl (fun w hh => v_loadAgg (vs := encL _) (Try.isAgg89 w) (Try.sizeOf89 w) rfl (hh.elem (j := k) encL_len 1 rfl (by omega))) ?_
        refine g_alloc (fun w => Try.zeroValue89 w) rfl (fun b2 hb2 => ?_)
        refine g_storeAgg (vs := #[_, _, _]) (own' := (_ :: _)) 0 (fun w => Try.sizeOf89 w) rfl rfl rfl rfl rfl rfl ?_
        refine g_nil ?_
        refine g_n_then ?_
        refine g_block ?_
        refine g_seq ?_
        refine g_region ?_
        refine g_val rfl rfl rfl (fun _ _ => v_move rfl) ?_
        refine g_val rfl rfl rfl (fun w _ => v_fieldAddr 0 (Try.runUnderlying89 w) rfl (Try.sizeOf3 w) rfl) ?_
        refine g_val rfl rfl rfl (fun w hh => v_load (Try.isAgg3 w) rfl (hh.cell 0 rfl rfl)) ?_
        refine g_callv rfl rfl rfl rfl rfl rfl rfl (fun a w => Try.call103 a w) (fun w hh => c_day L bd (gatesOf L.S) _ w (hL.ext hh.toExt) hG gates_length (hh.seg 0 rfl)) ?_
        refine g_val rfl rfl rfl (fun _ _ => v_not rfl) ?_
        refine g_val rfl rfl rfl (fun _ _ => v_assign rfl) ?_
        refine g_nil ?_
        refine g_n_then ?_
        refine g_cond rfl (fun hc29_3 => ?_) (fun hc29_3 => ?_)
        · replace hc29_3 := of_not_true hc29_3
          refine g_seq ?_
          refine g_region ?_
          refine g_val rfl rfl rfl (fun _ _ => v_assign rfl) ?_
          refine g_val rfl rfl rfl (fun _ _ => v_assign rfl) ?_
          refine g_nil ?_
          refine g_n_then ?_
          refine g_ret ?_
          refine g_r_blk ?_
          refine g_r_blk ?_
          refine g_r_then ?_
          refine g_r_then ?_
          refine g_r_blk ?_
          refine g_r_then ?_
          have eL : lookedE L.S lk = 3 := (lookedE_look hc (by omega)).trans (lookE_of (k := k) (by omega) hI1.2 (by simp only [lookE, *, if_true]))
          refine g_done rfl (fun w hh => (.tmp rfl (.tmp rfl .nil))) (fun w hh => ⟨?_, hh.toExt⟩)
          rw [eL]; rfl
        · replace hc29_3 := of_not_false hc29_3
          refine g_seq ?_
          refine g_draw none (.free 0 (.free 1 (.free 2 (.hoist 3 (.free 4 (.hoist 5 (.one 6 (.free 7 (.free 8 .done))))))))) _ rfl (by decide +kernel) (fun w k hh => hh.draw k) (fun w hh => hh) ?_
          refine p_free rfl rfl rfl rfl (fun _ _ => v_move rfl) ?_
          refine p_free rfl rfl rfl rfl (fun _ _ => v_nilCheck rfl) ?_
          refine p_free rfl rfl rfl rfl (fun w _ => v_fieldAddr 0 (Try.runUnderlying157 w) rfl (Try.sizeOf29 w) rfl) ?_
          refine p_hoist rfl rfl rfl rfl (fun w hh => v_loadAgg (vs := [_, _, _, _, _]) (Try.isAgg29 w) (Try.sizeOf29 w) rfl (hh.rcells 0 0 rfl rfl)) ?_
          refine p_free rfl rfl rfl rfl (fun w _ => v_fieldAddr 1 (Try.runUnderlying89 w) rfl (Try.sizeOf3 w) rfl) ?_
          refine p_hoist rfl rfl rfl rfl (fun w hh => v_load (Try.isAgg3 w) rfl (hh.cell 0 rfl rfl)) ?_
          refine p_one rfl ?_
          refine g_callv rfl rfl rfl rfl rfl rfl rfl (fun a w => Try.call89 a w) (fun w hh => c_place _ L w (hL.ext hh.toExt)) ?_
          refine p_next (fun w hh => hh) ?_
          refine p_free rfl rfl rfl rfl (fun _ _ => v_not rfl) ?_
          refine p_free rfl rfl rfl rfl (fun _ _ => v_assign rfl) ?_
          refine p_done ?_
          refine g_n_then ?_
          refine g_cond rfl (fun hc35_4 => ?_) (fun hc35_4 => ?_)
          · replace hc35_4 := of_not_true hc35_4
            have hc35_4 := hc35_4
            refine g_seq ?_
            refine g_region ?_
            refine g_val rfl rfl rfl (fun _ _ => v_assign rfl) ?_
            refine g_val rfl rfl rfl (fun _ _ => v_assign rfl) ?_
            refine g_nil ?_
            refine g_n_then ?_
            refine g_ret ?_
            refine g_r_blk ?_
            refine g_r_blk ?_
            refine g_r_then ?_
            refine g_r_then ?_
            refine g_r_blk ?_
            refine g_r_then ?_
            have eL : lookedE L.S lk = 1 := (lookedE_look hc (by omega)).trans (lookE_of (k := k) (by omega) hI1.2 (by simp only [lookE, *, if_true, if_false, Bool.true_eq_false]))
            refine g_done rfl (fun w hh => (.tmp rfl (.tmp rfl .nil))) (fun w hh => ⟨?_, hh.toExt⟩)
            rw [eL]; rfl
          · replace hc35_4 := of_not_false hc35_4
            have hpl := isPlace_iff.1 hc35_4
            refine g_skip ?_
            refine g_n_blk ?_
            refine g_n_blk ?_
            refine g_n_then ?_
            refine g_region ?_
            refine g_val rfl rfl rfl (fun _ _ => v_add rfl rfl (wrap_i64 (by omega))) ?_
            refine g_val rfl rfl rfl (fun _ _ => v_move rfl) ?_
            refine g_nil ?_
            refine g_n_then ?_
            exact g_againM (i := k) (k + 1) [1] ((.cons rfl (.cons rfl (.cons rfl (.cons rfl .nil))))) (by decide) rfl (⟨by omega, fun i hi => by rcases Nat.lt_succ_iff_lt_or_eq.1 hi with h | h; exact hI1.2 i h; subst h; exact ⟨by assumption, by assumption⟩⟩) (by omega)
      · replace hc26_2 := of_decide_eq_false hc26_2
        refine g_exit ?_
        refine g_x_then ?_
        refine g_x_then ?_
        refine g_x_blk ?_
        refine g_n_then ?_
        refine g_seq ?_
        refine g_region ?_
        refine g_val rfl rfl rfl (fun _ _ => v_move rfl) ?_
        refine g_val rfl rfl rfl (fun _ _ => v_assign rfl) ?_
        refine g_val rfl rfl rfl (fun _ _ => v_assign rfl) ?_
        refine g_nil ?_
        refine g_n_then ?_
        refine g_ret ?_
        have ek : k = lk.length := by omega
        subst ek
        have eL : lookedE L.S lk = 0 := (lookedE_look hc (by omega)).trans (lookE_ok hI1.2)
        exact absurd eL h
  · refine g_callv rfl rfl rfl rfl rfl rfl rfl (fun a w => Try.call102 a w) (fun w hh => c_openedE L w (hL.ext hh.toExt) hc) ?_
    refine g_val rfl rfl rfl (fun _ _ => v_move rfl) ?_
    refine g_val rfl rfl rfl (fun _ _ => v_extract rfl rfl) ?_
    refine g_val rfl rfl rfl (fun _ _ => v_extract rfl rfl) ?_
    refine g_val rfl rfl rfl (fun _ _ => v_assign rfl) ?_
    refine g_val rfl rfl rfl (fun _ _ => v_assign rfl) ?_
    refine g_nil ?_
    refine g_n_then ?_
    refine g_seq ?_
    refine g_block ?_
    refine g_seq ?_
    refine g_region ?_
    refine g_val rfl rfl rfl (fun _ _ => v_move rfl) ?_
    refine g_val rfl rfl rfl (fun _ _ => v_neq rfl rfl) ?_
    refine g_val rfl rfl rfl (fun _ _ => v_assign rfl) ?_
    refine g_nil ?_
    refine g_n_then ?_
    refine g_condT rfl (neP hc) ?_
    refine g_seq ?_
    refine g_region ?_
    refine g_val rfl rfl rfl (fun _ _ => v_move rfl) ?_
    refine g_val rfl rfl rfl (fun _ _ => v_assign rfl) ?_
    refine g_val rfl rfl rfl (fun _ _ => v_assign rfl) ?_
    refine g_nil ?_
    refine g_n_then ?_
    refine g_ret ?_
    refine g_r_blk ?_
    refine g_r_then ?_
    have eL : lookedE L.S lk = check L.S := by simp only [lookedE, ne_eq, hc, not_false_eq_true, if_true]
    refine g_done rfl (fun w hh => (.tmp rfl (.tmp rfl .nil))) (fun w hh => ⟨?_, hh.toExt⟩)
    rw [eL]; rfl

set_option maxRecDepth 100000 in
theorem c_Looks (lr : Option (Nat × Nat)) (lk : List Look) (lc : Nat) (L : LS) (w : World) (hL : L.OK w) (hll : lk.length ≤ 5864062014805) (hlr : 0 < lk.length → lr ≠ none) (hK : segOK w (bk lr, off lr, flat encL lk)) : Ret Try.prog 23 [L.val, slv lr lk.length lc] w (.tuple #[.agg (encP (LooksR L.S lk).1).toArray, .int .i64 (LooksR L.S lk).2]) := by
  have hlt := hL.tl
  have hlf := hL.fl
  have hls := hL.sl
  refine g_enter (args := [L.val, slv lr lk.length lc]) Try.func23 rfl Try.ntmps23 rfl (e := [(0, _), (1, _)]) rfl (HS.start w [] ((bk lr, off lr, flat encL lk) :: L.segs) (segsC hK hL.segs)) ?_
  refine g_seq ?_
  refine g_region ?_
  refine g_box rfl rfl (fun b1 hb1 => ?_)
  refine g_alloc (fun w => Try.zeroValue25 w) rfl (fun b2 hb2 => ?_)
  refine g_val rfl rfl rfl (fun _ _ => v_assign rfl) ?_
  refine g_nil ?_
  refine g_n_then ?_
  refine g_seq ?_
  refine g_region ?_
  refine g_val rfl rfl rfl (fun w hh => v_loadAgg (vs := [_, _, _, _, _]) (Try.isAgg29 w) (Try.sizeOf29 w) rfl (hh.cells 1 rfl rfl)) ?_
  refine g_val rfl rfl rfl (fun _ _ => v_move rfl) ?_
  by_cases hg : lookedE L.S lk = 0
  · have hc := (lookedE_zero hg).1
    have hlk := lookE_all (lookedE_zero hg).2.2
    have hl10 := (lookedE_zero hg).2.1
    have hG := good_of_check hc
    have hfl8 := hG.fl
    have htl12 := hG.tl
    have hsl16 := hG.sl
    refine g_callR (ι := Nat) (p := fun _ => True) (S := fun bd => [(bd, 0, L.cells ++ ints (gatesOf L.S))]) (ret := fun bd => .tuple #[ptr bd 0, .int .i64 0]) rfl rfl rfl rfl rfl rfl rfl (fun a w => Try.call86 a w) (fun w hh => c_lookedR lr lk lc L w (hL.ext hh.toExt) hll hlr (hh.seg 0 rfl) hg) (fun bd _ => ?_)
    refine g_val rfl rfl rfl (fun _ _ => v_move rfl) ?_
    refine g_val rfl rfl rfl (fun _ _ => v_extract rfl rfl) ?_
    refine g_val rfl rfl rfl (fun _ _ => v_extract rfl rfl) ?_
    refine g_val rfl rfl rfl (fun _ _ => v_assign rfl) ?_
    refine g_val rfl rfl rfl (fun _ _ => v_assign rfl) ?_
    refine g_nil ?_
    refine g_n_then ?_
    refine g_seq ?_
    refine g_seq ?_
    refine g_region ?_
    refine g_val rfl rfl rfl (fun _ _ => v_move rfl) ?_
    refine g_val rfl rfl rfl (fun _ _ => v_neq rfl rfl) ?_
    refine g_nil ?_
    refine g_n_then ?_
    refine g_condF rfl rfl ?_
    refine g_skip ?_
    refine g_n_then ?_
    refine g_seq ?_
    refine g_region ?_
    refine g_val rfl rfl rfl (fun _ _ => v_move rfl) ?_
    refine g_val rfl rfl rfl (fun _ _ => v_move rfl) ?_
    refine g_callv rfl rfl rfl rfl rfl rfl rfl (fun a w => Try.call87 a w) (fun w hh => c_left L bd (gatesOf L.S) lr lk lc w (hL.ext hh.toExt) hG gates_length (hh.seg 0 rfl) hll hlr (hh.seg 1 rfl) gates_ok hlk) ?_
    refine g_alloc (fun w => Try.zeroValue25 w) rfl (fun b3 hb3 => ?_)
    refine g_storeAgg (vs := #[_, _]) (own' := (_ :: _)) 0 (fun w => Try.sizeOf25 w) rfl rfl rfl rfl rfl rfl ?_
    refine g_nil ?_
    refine g_n_then ?_
    refine g_seq ?_
    refine g_seq ?_
    refine g_region ?_
    refine g_val rfl rfl rfl (fun w _ => v_fieldAddr 0 (Try.runUnderlying25 w) rfl (Try.sizeOf3 w) rfl) ?_
    refine g_val rfl rfl rfl (fun w hh => v_load (Try.isAgg3 w) rfl (hh.cell 0 rfl rfl)) ?_
    refine g_val rfl rfl rfl (fun w _ => v_fieldAddr 1 (Try.runUnderlying25 w) rfl (Try.sizeOf3 w) rfl) ?_
    refine g_val rfl rfl rfl (fun w hh => v_load (Try.isAgg3 w) rfl (hh.cell 0 rfl rfl)) ?_
    refine g_val rfl rfl rfl (fun _ _ => v_gtr rfl rfl) ?_
    refine g_nil ?_
    refine g_n_then ?_
    refine g_cond rfl (fun hc26_1 => ?_) (fun hc26_1 => ?_)
    · replace hc26_1 := of_decide_eq_true hc26_1
      refine g_seq ?_
      refine g_region ?_
      refine g_val rfl rfl rfl (fun _ _ => v_build (vs := []) (cells := [_, _]) rfl rfl) ?_
      refine g_storeAgg (vs := #[_, _]) (own' := (_ :: _ :: _)) 1 (fun w => Try.sizeOf25 w) rfl rfl rfl rfl rfl rfl ?_
      refine g_val rfl rfl rfl (fun _ _ => v_assign rfl) ?_
      refine g_nil ?_
      refine g_n_then ?_
      refine g_ret ?_
      refine g_r_then ?_
      refine g_done rfl (fun w hh => (.cell rfl (loadVar_agg (vs := [_, _]) (Try.isAgg25 _) (Try.sizeOf25 _) (hh.cells 1 rfl rfl)) (.tmp rfl .nil))) (fun w hh => ⟨?_, hh.toExt⟩)
      simp only [retv, LooksR, encP, *, ne_eq, not_true_eq_false, not_false_eq_true, if_false, if_true, reduceIte, Int.not_lt] <;> first | rfl | (rw [if_pos (by omega)]) | (rw [if_neg (by omega)])
    · replace hc26_1 := of_decide_eq_false hc26_1
      refine g_skip ?_
      refine g_n_then ?_
      refine g_seq ?_
      refine g_region ?_
      refine g_val rfl rfl rfl (fun w hh => v_loadAgg (vs := [_, _]) (Try.isAgg25 w) (Try.sizeOf25 w) rfl (hh.cells 0 rfl rfl)) ?_
      refine g_storeAgg (vs := #[_, _]) (own' := (_ :: _ :: _)) 1 (fun w => Try.sizeOf25 w) rfl rfl rfl rfl rfl rfl ?_
      refine g_val rfl rfl rfl (fun _ _ => v_assign rfl) ?_
      refine g_nil ?_
      refine g_n_then ?_
      refine g_ret ?_
      refine g_done rfl (fun w hh => (.cell rfl (loadVar_agg (vs := [_, _]) (Try.isAgg25 _) (Try.sizeOf25 _) (hh.cells 1 rfl rfl)) (.tmp rfl .nil))) (fun w hh => ⟨?_, hh.toExt⟩)
      simp only [retv, LooksR, encP, *, ne_eq, not_true_eq_false, not_false_eq_true, if_false, if_true, reduceIte, Int.not_lt] <;> first | rfl | (rw [if_pos (by omega)]) | (rw [if_neg (by omega)])
  · refine g_callv rfl rfl rfl rfl rfl rfl rfl (fun a w => Try.call86 a w) (fun w hh => c_lookedE lr lk lc L w (hL.ext hh.toExt) hll hlr (hh.seg 0 rfl) hg) ?_
    refine g_val rfl rfl rfl (fun _ _ => v_move rfl) ?_
    refine g_val rfl rfl rfl (fun _ _ => v_extract rfl rfl) ?_
    refine g_val rfl rfl rfl (fun _ _ => v_extract rfl rfl) ?_
    refine g_val rfl rfl rfl (fun _ _ => v_assign rfl) ?_
    refine g_val rfl rfl rfl (fun _ _ => v_assign rfl) ?_
    refine g_nil ?_
    refine g_n_then ?_
    refine g_seq ?_
    refine g_seq ?_
    refine g_region ?_
    refine g_val rfl rfl rfl (fun _ _ => v_move rfl) ?_
    refine g_val rfl rfl rfl (fun _ _ => v_neq rfl rfl) ?_
    refine g_nil ?_
    refine g_n_then ?_
    refine g_condT rfl (neP hg) ?_
    refine g_seq ?_
    refine g_region ?_
    refine g_val rfl rfl rfl (fun _ _ => v_build (vs := []) (cells := [_, _]) rfl rfl) ?_
    refine g_val rfl rfl rfl (fun _ _ => v_move rfl) ?_
    refine g_storeAgg (vs := #[_, _]) (own' := (_ :: _)) 0 (fun w => Try.sizeOf25 w) rfl rfl rfl rfl rfl rfl ?_
    refine g_val rfl rfl rfl (fun _ _ => v_assign rfl) ?_
    refine g_nil ?_
    refine g_n_then ?_
    refine g_ret ?_
    refine g_r_then ?_
    refine g_done rfl (fun w hh => (.cell rfl (loadVar_agg (vs := [_, _]) (Try.isAgg25 _) (Try.sizeOf25 _) (hh.cells 0 rfl rfl)) (.tmp rfl .nil))) (fun w hh => ⟨?_, hh.toExt⟩)
    simp only [retv, LooksR, encP, *, ne_eq, not_true_eq_false, not_false_eq_true, if_false, if_true, reduceIte, Int.not_lt] <;> first | rfl | (rw [if_pos (by omega)]) | (rw [if_neg (by omega)])

end Go.Proofs

namespace Go.Proofs
open Go Go.Fw Go.Pl
set_option maxRecDepth 100000 in
theorem inf25 : (Try.prog.info? 25).map (fun i => (i.zero, i.size, i.bytes)) = some (some (.agg #[.int .i64 0, .int .i64 0]), 2, 16) := by kernel_rfl
set_option maxRecDepth 100000 in
theorem c_shut_true (w0 : World) (M : List Nat) (ro : List Sg) (X : List (Nat × Obj)) (bo bf bs : Nat) (acc : List Span) (fr : Int) (n cap : Nat) (sp : List Value) (q : Option (Nat × Nat)) (m : Int) (hv : VOK 2 n cap (flat encP acc) sp q) (hn : n ≤ 100000) (hm : -100000 ≤ m ∧ m ≤ 100000) (w : World) (hh : HS w0 M ([(bo, .cells #[.bool true] 4 (0, 0)), (bf, .cells #[.int .i64 fr] 3 (0, 0)), (bs, .cells #[slv q n cap] 77 (0, 0))] ++ (vown 25 (flat encP acc) sp q ++ X)) ro w) : Calls Try.prog 159 #[.int .i64 m, ptr bo 0, ptr bs 0, ptr bf 0] w (fun en w' => ∃ v, en = .returned v ∧ ∃ n' sp' q' cap', VOK 2 n' cap' (flat encP (acc ++ [⟨fr, m - 1⟩])) sp' q' ∧ HS w0 M ([(bo, .cells #[.bool false] 4 (0, 0)), (bf, .cells #[.int .i64 fr] 3 (0, 0)), (bs, .cells #[slv q' n' cap'] 77 (0, 0))] ++ (vown 25 (flat encP (acc ++ [⟨fr, m - 1⟩])) sp' q' ++ X)) ro w') := by
  refine g_enter (args := [.int .i64 m, ptr bo 0, ptr bs 0, ptr bf 0]) Try.func159 rfl Try.ntmps159 rfl (e := [(0, _), (1, _), (2, _), (3, _)]) rfl (hh) ?_
  refine g_seq ?_
  refine g_seq ?_
  refine g_region ?_
  refine g_val rfl rfl rfl (fun w hh => v_load (Try.isAgg4 w) rfl (hh.cell 0 rfl rfl)) ?_
  refine g_nil ?_
  refine g_n_then ?_
  refine g_condT rfl rfl ?_
  refine g_region ?_
  refine g_val rfl rfl rfl (fun w hh => v_load (Try.isAgg77 w) rfl (hh.cell 2 rfl rfl)) ?_
  refine g_val rfl rfl rfl (fun w hh => v_load (Try.isAgg3 w) rfl (hh.cell 1 rfl rfl)) ?_
  refine g_val rfl rfl rfl (fun _ _ => v_move rfl) ?_
  refine g_val rfl rfl rfl (fun _ _ => v_sub rfl rfl (wrap_i64 (by omega))) ?_
  refine g_val rfl rfl rfl (fun _ _ => v_build (vs := [(0, _), (1, _)]) (cells := [_, _]) rfl rfl) ?_
  refine g_buildSlice (vs := [(0, _)]) (cells := [_, _]) (fun w => Try.runUnderlying77 w) (fun w => Try.sizeOf25 w) (fun w => Try.zeroValue25 w) rfl rfl rfl rfl rfl (fun b1 hb1 => ?_)
  refine g_appendM [_, _, _, _] (news := [_, _]) (xs := (flat encP acc)) (sp := sp) (q := q) Try.underlying77 inf25 rfl rfl rfl hv (by simp) (by decide) rfl (fun w hh => hh.ownSeg 0 rfl) (ones_all rfl) (by simp only [maxLen]; omega) (by omega) rfl (fun q2 cap3 sp4 hv5 => ?_)
  rw [show flat encP acc ++ [.int .i64 fr, .int .i64 (m - 1)] = (flat encP (acc ++ [⟨fr, m - 1⟩])) from flat_snoc (enc := encP) (x := ⟨fr, m - 1⟩)] at hv5 ⊢
  refine g_store1 (own' := (_ :: _ :: _ :: _ :: _)) 3 (fun w => Try.sizeOf77 w) rfl rfl rfl rfl rfl ?_
  refine g_nil ?_
  refine g_n_then ?_
  refine g_region ?_
  refine g_store1 (own' := (_ :: _ :: _)) 1 (fun w => Try.sizeOf4 w) rfl rfl rfl rfl rfl ?_
  refine g_nil ?_
  refine g_doneN rfl (fun w hh => .nil) (fun w hh => ⟨_, rfl, (n + 1), sp4, (some q2), cap3, hv5, hh.dropN 1 rfl⟩)

set_option maxRecDepth 100000 in
theorem c_shut_false (w0 : World) (M : List Nat) (ro : List Sg) (X : List (Nat × Obj)) (bo bf bs : Nat) (acc : List Span) (fr : Int) (n cap : Nat) (sp : List Value) (q : Option (Nat × Nat)) (m : Int) (hv : VOK 2 n cap (flat encP acc) sp q) (hn : n ≤ 100000) (hm : -100000 ≤ m ∧ m ≤ 100000) (w : World) (hh : HS w0 M ([(bo, .cells #[.bool false] 4 (0, 0)), (bf, .cells #[.int .i64 fr] 3 (0, 0)), (bs, .cells #[slv q n cap] 77 (0, 0))] ++ (vown 25 (flat encP acc) sp q ++ X)) ro w) : Calls Try.prog 159 #[.int .i64 m, ptr bo 0, ptr bs 0, ptr bf 0] w (fun en w' => ∃ v, en = .returned v ∧ ∃ n' sp' q' cap', VOK 2 n' cap' (flat encP acc) sp' q' ∧ HS w0 M ([(bo, .cells #[.bool false] 4 (0, 0)), (bf, .cells #[.int .i64 fr] 3 (0, 0)), (bs, .cells #[slv q' n' cap'] 77 (0, 0))] ++ (vown 25 (flat encP acc) sp' q' ++ X)) ro w') := by
  refine g_enter (args := [.int .i64 m, ptr bo 0, ptr bs 0, ptr bf 0]) Try.func159 rfl Try.ntmps159 rfl (e := [(0, _), (1, _), (2, _), (3, _)]) rfl (hh) ?_
  refine g_seq ?_
  refine g_seq ?_
  refine g_region ?_
  refine g_val rfl rfl rfl (fun w hh => v_load (Try.isAgg4 w) rfl (hh.cell 0 rfl rfl)) ?_
  refine g_nil ?_
  refine g_n_then ?_
  refine g_condF rfl rfl ?_
  refine g_skip ?_
  refine g_n_then ?_
  refine g_region ?_
  refine g_store1 (own' := (_ :: _)) 0 (fun w => Try.sizeOf4 w) rfl rfl rfl rfl rfl ?_
  refine g_nil ?_
  refine g_doneN rfl (fun w hh => .nil) (fun w hh => ⟨_, rfl, n, sp, q, cap, hv, hh⟩)

structure ShutI where
  n : Nat
  sp : List Value
  q : Option (Nat × Nat)
  cap : Nat
  v : Value
theorem c_shut (w0 : World) (M : List Nat) (ro : List Sg) (B1 : Nat × Obj) (bo bf bs : Nat) (x : SpanSt) (n cap : Nat) (sp : List Value) (q : Option (Nat × Nat)) (m : Int) (hv : VOK 2 n cap (flat encP x.acc) sp q) (hn : n ≤ 100000) (hm : -100000 ≤ m ∧ m ≤ 100000) (w : World)
    (hh : HS w0 M (([(bo, .cells #[.bool x.op] 4 (0, 0)), (bf, .cells #[.int .i64 x.fr] 3 (0, 0)), (bs, .cells #[slv q n cap] 77 (0, 0))] ++ [B1]) ++ (vown 25 (flat encP x.acc) sp q ++ [])) ro w) :
    Calls Try.prog 159 #[.int .i64 m, ptr bo 0, ptr bs 0, ptr bf 0] w (fun en w' => ∃ i : ShutI, en = .returned i.v ∧ (VOK 2 i.n i.cap (flat encP (shutF x m).acc) i.sp i.q ∧ HS w0 M (([(bo, .cells #[.bool (shutF x m).op] 4 (0, 0)), (bf, .cells #[.int .i64 (shutF x m).fr] 3 (0, 0)), (bs, .cells #[slv i.q i.n i.cap] 77 (0, 0))] ++ [B1]) ++ (vown 25 (flat encP (shutF x m).acc) i.sp i.q ++ [])) ro w')) := by
  have hh2 := hh.perm (perm_call (A := [B1]) (B := [_, _, _]) (V := vown 25 (flat encP x.acc) sp q))
  obtain ⟨acc, fr, op⟩ := x
  cases op
  · refine (c_shut_false w0 M ro [B1] bo bf bs acc fr n cap sp q m hv hn hm w hh2).mono ?_
    rintro en w' ⟨v, rfl, n', sp', q', cap', hv', h'⟩
    exact ⟨⟨n', sp', q', cap', v⟩, rfl, hv', h'.perm (perm_call (A := [B1]) (B := [_, _, _]) (V := vown 25 (flat encP acc) sp' q')).symm⟩
  · refine (c_shut_true w0 M ro [B1] bo bf bs acc fr n cap sp q m hv hn hm w hh2).mono ?_
    rintro en w' ⟨v, rfl, n', sp', q', cap', hv', h'⟩
    exact ⟨⟨n', sp', q', cap', v⟩, rfl, hv', h'.perm (perm_call (A := [B1]) (B := [_, _, _]) (V := vown 25 (flat encP (acc ++ [⟨fr, m - 1⟩])) sp' q')).symm⟩

set_option maxRecDepth 100000 in
theorem c_spans (L : LS) (bd : Nat) (g : List Int) (fv : FuncId) (fst cp : Array Value) (p : Int → Bool) (w : World) (hL : L.OK w) (hG : Good L.S) (hgl : g.length = 8) (hd : segOK w (bd, 0, L.cells ++ ints g)) (hcall : ∀ a w, (callFunc fv a).run Try.prog w = .ok (.enter fv a) w) (hf : ∀ w', Ext [] w w' → ∀ m, dayF L.S m = true → Ret Try.prog fv (fst.toList ++ [.int .i64 m] ++ cp.toList) w' (.bool (p m))) : Calls Try.prog 118 #[ptr bd 0, .agg #[.func (.func fv) fst cp]] w (fun en w' => ∃ q cap, en = .returned (slv q (spansF L.S p).length cap) ∧ SlOK q (spansF L.S p).length cap ∧ News w w' [(bk q, off q, flat encP (spansF L.S p))]) := by
  have hlt := hL.tl
  have hlf := hL.fl
  have hls := hL.sl
  have hfl8 := hG.fl
  have htl12 := hG.tl
  have hds := day_span hG
  have hdn := dayN_eq hG
  have efm : firstM L.S = (L.S.table.getD 0 default).min := rfl
  have elm : lastM L.S = (L.S.table.getD (L.S.table.length - 1) default).min := rfl
  refine g_enter (args := [ptr bd 0, .agg #[.func (.func fv) fst cp]]) Try.func118 rfl Try.ntmps118 rfl (e := [(0, _), (1, _)]) rfl (HS.start w [] ((bd, 0, L.cells ++ ints g) :: L.segs) (segsC hd hL.segs)) ?_
  refine g_seq ?_
  refine g_region ?_
  refine g_box rfl rfl (fun b1 hb1 => ?_)
  refine g_val rfl rfl rfl (fun _ _ => v_nilSlice rfl rfl) ?_
  refine g_nil ?_
  refine g_n_then ?_
  refine g_seq ?_
  refine g_region ?_
  refine g_alloc (fun w => Try.zeroValue77 w) rfl (fun b2 hb2 => ?_)
  refine g_nil ?_
  refine g_n_then ?_
  refine g_seq ?_
  refine g_draw none (.free 0 (.free 1 (.free 2 (.free 3 (.hoist 4 (.hoist 5 (.free 6 (.hoist 7 (.free 8 (.free 9 (.free 10 (.free 11 (.hoist 12 (.free 13 (.free 14 (.free 15 (.free 16 (.hoist 17 (.free 18 (.free 19 (.hoist 20 (.free 21 (.hoist 22 (.free 23 (.free 24 .done))))))))))))))))))))))))) _ rfl (by decide +kernel) (fun w k hh => hh.draw k) (fun w hh => hh) ?_
  refine p_free rfl rfl rfl rfl (fun _ _ => v_move rfl) ?_
  refine p_free rfl rfl rfl rfl (fun _ _ => v_nilCheck rfl) ?_
  refine p_free rfl rfl rfl rfl (fun w _ => v_fieldAddr 0 (Try.runUnderlying157 w) rfl (Try.sizeOf29 w) rfl) ?_
  refine p_free rfl rfl rfl rfl (fun w _ => v_fieldAddr 0 (Try.runUnderlying29 w) rfl (Try.sizeOf23 w) rfl) ?_
  refine p_hoist rfl rfl rfl rfl (fun w hh => v_load (Try.isAgg23 w) rfl (hh.rcell 0 0 rfl rfl)) ?_
  refine p_hoist rfl rfl rfl rfl (fun w _ => v_indexAddr 0 (Try.runUnderlying23 w) (Try.sizeOf68 w) rfl rfl rfl (by omega) (hL.t0 (by omega))) ?_
  refine p_free rfl rfl rfl rfl (fun w _ => v_fieldAddr 0 (Try.runUnderlying68 w) rfl (Try.sizeOf3 w) rfl) ?_
  refine p_hoist rfl rfl rfl rfl (fun w hh => v_load (Try.isAgg3 w) rfl (hh.fld (j := 0) encW_len 1 0 rfl (by omega) rfl rfl)) ?_
  refine p_free rfl rfl rfl rfl (fun _ _ => v_move rfl) ?_
  refine p_free rfl rfl rfl rfl (fun _ _ => v_nilCheck rfl) ?_
  refine p_free rfl rfl rfl rfl (fun w _ => v_fieldAddr 0 (Try.runUnderlying157 w) rfl (Try.sizeOf29 w) rfl) ?_
  refine p_free rfl rfl rfl rfl (fun w _ => v_fieldAddr 0 (Try.runUnderlying29 w) rfl (Try.sizeOf23 w) rfl) ?_
  refine p_hoist rfl rfl rfl rfl (fun w hh => v_load (Try.isAgg23 w) rfl (hh.rcell 0 0 rfl rfl)) ?_
  refine p_free rfl rfl rfl rfl (fun _ _ => v_move rfl) ?_
  refine p_free rfl rfl rfl rfl (fun _ _ => v_nilCheck rfl) ?_
  refine p_free rfl rfl rfl rfl (fun w _ => v_fieldAddr 0 (Try.runUnderlying157 w) rfl (Try.sizeOf29 w) rfl) ?_
  refine p_free rfl rfl rfl rfl (fun w _ => v_fieldAddr 0 (Try.runUnderlying29 w) rfl (Try.sizeOf23 w) rfl) ?_
  refine p_hoist rfl rfl rfl rfl (fun w hh => v_load (Try.isAgg23 w) rfl (hh.rcell 0 0 rfl rfl)) ?_
  refine p_free rfl rfl rfl rfl (fun w _ => v_lenS (Try.runUnderlying23 w) rfl) ?_
  refine p_free rfl rfl rfl rfl (fun _ _ => v_sub rfl rfl (wrap_i64 (by omega))) ?_
  refine p_hoist rfl rfl rfl rfl (fun w _ => v_indexAddr (L.S.table.length - 1) (Try.runUnderlying23 w) (Try.sizeOf68 w) rfl rfl (by omega) (by omega) (hL.t0 (by omega))) ?_
  refine p_free rfl rfl rfl rfl (fun w _ => v_fieldAddr 0 (Try.runUnderlying68 w) rfl (Try.sizeOf3 w) rfl) ?_
  refine p_hoist rfl rfl rfl rfl (fun w hh => v_load (Try.isAgg3 w) rfl (hh.fld (j := (L.S.table.length - 1)) encW_len 1 0 rfl (by omega) rfl rfl)) ?_
  refine p_free rfl rfl rfl rfl (fun _ _ => v_assign rfl) ?_
  refine p_free rfl rfl rfl rfl (fun _ _ => v_assign rfl) ?_
  refine p_done ?_
  refine g_n_then ?_
  refine g_seq ?_
  refine g_region ?_
  refine g_alloc (fun w => Try.zeroValue3 w) rfl (fun b3 hb3 => ?_)
  refine g_alloc (fun w => Try.zeroValue4 w) rfl (fun b4 hb4 => ?_)
  refine g_store1 (own' := (_ :: _ :: _)) 1 (fun w => Try.sizeOf3 w) rfl rfl rfl rfl rfl ?_
  refine g_store1 (own' := (_ :: _)) 0 (fun w => Try.sizeOf4 w) rfl rfl rfl rfl rfl ?_
  refine g_nil ?_
  refine g_n_then ?_
  refine g_seq ?_
  refine g_region ?_
  refine g_val rfl rfl rfl (fun _ _ => v_makeFunc (u := #[]) (u' := #[_, _, _]) rfl rfl) ?_
  refine g_val rfl rfl rfl (fun _ _ => v_assign rfl) ?_
  refine g_nil ?_
  refine g_n_then ?_
  refine g_seq ?_
  refine g_seq ?_
  refine g_region ?_
  refine g_val rfl rfl rfl (fun _ _ => v_move rfl) ?_
  refine g_val rfl rfl rfl (fun _ _ => v_move rfl) ?_
  refine g_val rfl rfl rfl (fun _ _ => v_sub rfl rfl (wrap_i64 (by omega))) ?_
  refine g_val rfl rfl rfl (fun _ _ => v_add rfl rfl (wrap_i64 (by omega))) ?_
  refine g_val rfl rfl rfl (fun _ _ => v_move rfl) ?_
  refine g_nil ?_
  refine g_n_then ?_
  refine g_block ?_
  refine g_sub (e' := [(41, _), (3, _), (5, _), (6, _), (7, _), (8, _), (9, _), (10, _), (40, _)]) ((.cons rfl (.cons rfl (.cons rfl (.cons rfl (.cons rfl (.cons rfl (.cons rfl (.cons rfl (.cons rfl .nil)))))))))) ?_
  refine g_loopV (ι := Nat × SpanSt × Nat × List Value × Option (Nat × Nat) × Nat) (ofix := [_]) (fun (k, x, n, sp, q, cap) => [(41, .int .i64 (k : Nat))]) (fun (k, x, n, sp, q, cap) => [(b4, .cells #[.bool x.op] 4 (0, 0)), (b3, .cells #[.int .i64 x.fr] 3 (0, 0)), (b2, .cells #[slv q n cap] 77 (0, 0))]) (fun (k, x, n, sp, q, cap) => vown 25 (flat encP x.acc) sp q ++ []) (fun (k, x, n, sp, q, cap) => k ≤ dayN L.S ∧ VOK 2 n cap (flat encP x.acc) sp q ∧ x = spansN p (firstM L.S) k) (fun (k, x, n, sp, q, cap) => dayN L.S - k) (0, ⟨[], 0, false⟩, 0, [], none, 0) (⟨Nat.zero_le _, VOK.nil, rfl⟩) ?_
  intro ⟨k, x, n, sp, q, cap⟩ hI0
  simp only at hI0
  have hxl : x.acc.length ≤ k := by rw [hI0.2.2]; exact spansN_len
  have hnl := vok_len encP_len (by decide) hI0.2.1
  refine g_seq ?_
  refine g_region ?_
  refine g_val rfl rfl rfl (fun _ _ => v_lss rfl rfl) ?_
  refine g_nil ?_
  refine g_n_then ?_
  refine g_seq ?_
  refine g_cond rfl (fun h42 => ?_) (fun h42 => ?_)
  · replace h42 := of_decide_eq_true h42
    have hkk : firstM L.S + (k : Nat) ≤ lastM L.S := by omega
    have hday := day_of (s := L.S) (m := firstM L.S + (k : Nat)) ⟨by omega, hkk⟩
    refine g_skip ?_
    refine g_n_then ?_
    refine g_seq ?_
    refine g_block ?_
    refine g_seq ?_
    refine g_region ?_
    refine g_val rfl rfl rfl (fun _ _ => v_move rfl) ?_
    refine g_val rfl rfl rfl (fun _ _ => v_assign rfl) ?_
    refine g_nil ?_
    refine g_n_then ?_
    refine g_seq ?_
    refine g_region ?_
    refine g_val rfl rfl rfl (fun w _ => v_fieldAddr 0 (Try.runUnderlying168 w) rfl (Try.sizeOf129 w) rfl) ?_
    refine g_val rfl rfl rfl (fun w hh => v_load (Try.isAgg129 w) rfl (hh.cell 3 rfl rfl)) ?_
    refine g_val rfl rfl rfl (fun _ _ => v_move rfl) ?_
    refine g_val rfl rfl rfl (fun _ _ => v_move rfl) ?_
    refine g_val rfl rfl rfl (fun _ _ => v_add rfl rfl (wrap_i64 (by omega))) ?_
    refine g_callv rfl rfl rfl rfl rfl rfl rfl hcall (fun w hh => hf w hh.toExt _ hday) ?_
    refine g_val rfl rfl rfl (fun _ _ => v_assign rfl) ?_
    refine g_nil ?_
    refine g_n_then ?_
    refine g_block ?_
    refine g_seq ?_
    refine g_region ?_
    refine g_val rfl rfl rfl (fun _ _ => v_move rfl) ?_
    refine g_val rfl rfl rfl (fun _ _ => v_not rfl) ?_
    refine g_val rfl rfl rfl (fun _ _ => v_assign rfl) ?_
    refine g_nil ?_
    refine g_n_then ?_
    refine g_cond rfl (fun hp => ?_) (fun hp => ?_)
    · replace hp := of_not_true hp
      refine g_region ?_
      refine g_val rfl rfl rfl (fun _ _ => v_move rfl) ?_
      refine g_val rfl rfl rfl (fun _ _ => v_move rfl) ?_
      refine g_val rfl rfl rfl (fun _ _ => v_move rfl) ?_
      refine g_val rfl rfl rfl (fun _ _ => v_add rfl rfl (wrap_i64 (by omega))) ?_
      refine g_call rfl rfl rfl rfl rfl rfl rfl (fun a w => Try.call159 a w) (fun w hh => c_shut _ _ _ _ b4 b3 b2 x n cap sp q (firstM L.S + (k : Nat)) hI0.2.1 (by omega) (by omega) w hh) (fun i5 => ?_)
      refine g_pure (fun w hh => hh.1) (fun hvi5 => ?_)
      refine G.pre ?_ (fun w hh => hh.2)
      refine g_nil ?_
      refine g_n_blk ?_
      refine g_n_blk ?_
      refine g_n_then ?_
      refine g_region ?_
      refine g_val rfl rfl rfl (fun _ _ => v_add rfl rfl (wrap_i64 (by omega))) ?_
      refine g_val rfl rfl rfl (fun _ _ => v_move rfl) ?_
      refine g_nil ?_
      refine g_n_then ?_
      exact g_againV (pre := [_, _, _, _]) (i := ⟨k, x, n, sp, q, cap⟩) (k + 1, shutF x (firstM L.S + (k : Nat)), i5.n, i5.sp, i5.q, i5.cap) [0, 1, 2, 3] ((.cons rfl (.cons rfl (.cons rfl (.cons rfl (.cons rfl (.cons rfl (.cons rfl (.cons rfl (.cons rfl .nil)))))))))) (by decide) rfl rfl (⟨by omega, hvi5, by rw [spansN_succ, ← hI0.2.2]; exact (stepF hp).symm⟩) (by simp only; omega)
    · replace hp := of_not_false hp
      refine g_seq ?_
      refine g_region ?_
      refine g_val rfl rfl rfl (fun w hh => v_load (Try.isAgg4 w) rfl (hh.cell 0 rfl rfl)) ?_
      refine g_val rfl rfl rfl (fun _ _ => v_not rfl) ?_
      refine g_val rfl rfl rfl (fun _ _ => v_assign rfl) ?_
      refine g_nil ?_
      refine g_n_then ?_
      refine g_cond rfl (fun ho => ?_) (fun ho => ?_)
      · replace ho := of_not_true ho
        refine g_region ?_
        refine g_val rfl rfl rfl (fun _ _ => v_move rfl) ?_
        refine g_val rfl rfl rfl (fun _ _ => v_move rfl) ?_
        refine g_val rfl rfl rfl (fun _ _ => v_add rfl rfl (wrap_i64 (by omega))) ?_
        refine g_store1 (own' := (_ :: _ :: _)) 1 (fun w => Try.sizeOf3 w) rfl rfl rfl rfl rfl ?_
        refine g_store1 (own' := (_ :: _)) 0 (fun w => Try.sizeOf4 w) rfl rfl rfl rfl rfl ?_
        refine g_nil ?_
        refine g_n_blk ?_
        refine g_n_blk ?_
        refine g_n_then ?_
        refine g_region ?_
        refine g_val rfl rfl rfl (fun _ _ => v_add rfl rfl (wrap_i64 (by omega))) ?_
        refine g_val rfl rfl rfl (fun _ _ => v_move rfl) ?_
        refine g_nil ?_
        refine g_n_then ?_
        exact g_againV (pre := [_, _, _, _]) (i := ⟨k, x, n, sp, q, cap⟩) (k + 1, ⟨x.acc, firstM L.S + (k : Nat), true⟩, n, sp, q, cap) [0, 1, 2, 3] ((.cons rfl (.cons rfl (.cons rfl (.cons rfl (.cons rfl (.cons rfl (.cons rfl (.cons rfl (.cons rfl .nil)))))))))) (by decide) rfl rfl (⟨by omega, hI0.2.1, by rw [spansN_succ, ← hI0.2.2]; exact (stepTF hp ho).symm⟩) (by simp only; omega)
      · replace ho := of_not_false ho
        refine g_skip ?_
        refine g_n_blk ?_
        refine g_n_blk ?_
        refine g_n_then ?_
        refine g_region ?_
        refine g_val rfl rfl rfl (fun _ _ => v_add rfl rfl (wrap_i64 (by omega))) ?_
        refine g_val rfl rfl rfl (fun _ _ => v_move rfl) ?_
        refine g_nil ?_
        refine g_n_then ?_
        exact g_againV (pre := [_, _, _, _]) (i := ⟨k, x, n, sp, q, cap⟩) (k + 1, x, n, sp, q, cap) [0, 1, 2, 3] ((.cons rfl (.cons rfl (.cons rfl (.cons rfl (.cons rfl (.cons rfl (.cons rfl (.cons rfl (.cons rfl .nil)))))))))) (by decide) rfl rfl (⟨by omega, hI0.2.1, by rw [spansN_succ, ← hI0.2.2]; exact (stepTT hp ho).symm⟩) (by simp only; omega)
  · replace h42 := of_decide_eq_false h42
    have ek : k = dayN L.S := by omega
    subst ek
    refine g_exit ?_
    refine g_x_then ?_
    refine g_x_then ?_
    refine g_x_blk ?_
    refine g_n_then ?_
    refine g_seq ?_
    refine g_region ?_
    refine g_val rfl rfl rfl (fun _ _ => v_move rfl) ?_
    refine g_val rfl rfl rfl (fun _ _ => v_move rfl) ?_
    refine g_val rfl rfl rfl (fun _ _ => v_add rfl rfl (wrap_i64 (by omega))) ?_
    refine g_call rfl rfl rfl rfl rfl rfl rfl (fun a w => Try.call159 a w) (fun w hh => c_shut _ _ _ _ b4 b3 b2 x n cap sp q (lastM L.S + 1) hI0.2.1 (by omega) (by omega) w hh) (fun i6 => ?_)
    refine g_pure (fun w hh => hh.1) (fun hvi6 => ?_)
    refine G.pre ?_ (fun w hh => hh.2)
    refine g_nil ?_
    refine g_n_then ?_
    refine g_seq ?_
    refine g_region ?_
    refine g_val rfl rfl rfl (fun w hh => v_load (Try.isAgg77 w) rfl (hh.cell 2 rfl rfl)) ?_
    refine g_val rfl rfl rfl (fun _ _ => v_assign rfl) ?_
    refine g_nil ?_
    refine g_n_then ?_
    refine g_ret ?_
    have eF : spansF L.S p = (shutF x (lastM L.S + 1)).acc := by rw [hI0.2.2]; rfl
    refine g_done rfl (fun w hh => (.tmp rfl .nil)) (fun w hh => ?_)
    rw [eF]
    exact ⟨i6.q, i6.cap, by rw [vok_len encP_len (by decide) hvi6]; rfl, by rw [vok_len encP_len (by decide) hvi6]; exact hvi6.sl, hh.vec [_, _, _, _] hvi6.hoff hvi6.noneNil⟩

end Go.Proofs

namespace Go.Proofs
open Go Go.Fw Go.Pl
set_option maxRecDepth 100000 in
theorem c_Spans1 (L : LS) (bd : Nat) (g : List Int) (m p st : Int) (b8 b4 b5 : Nat) (w : World) (hL : L.OK w) (hG : Good L.S) (hgl : g.length = 8) (hd : segOK w (bd, 0, L.cells ++ ints g)) (hday : dayF L.S m = true) (hp : 0 ≤ p ∧ p < 8) (h8 : segOK w (b8, 0, [ptr bd 0])) (h4 : segOK w (b4, 0, [.int .i64 p])) (h5 : segOK w (b5, 0, [.int .i64 st])) : Ret Try.prog 119 [.int .i64 m, ptr b8 0, ptr b4 0, ptr b5 0] w (.bool (decide (stateG L.S (g.getD p.toNat 0) m = st))) := by
  have hlt := hL.tl
  have hlf := hL.fl
  have hls := hL.sl
  have hfl8 := hG.fl
  have htl12 := hG.tl
  refine g_enter (args := [.int .i64 m, ptr b8 0, ptr b4 0, ptr b5 0]) Try.func119 rfl Try.ntmps119 rfl (e := [(0, _), (1, _), (2, _), (3, _)]) rfl (HS.start w [] ((b8, 0, [ptr bd 0]) :: (b4, 0, [.int .i64 p]) :: (b5, 0, [.int .i64 st]) :: (bd, 0, L.cells ++ ints g) :: L.segs) (segsC h8 (segsC h4 (segsC h5 (segsC hd hL.segs))))) ?_
  refine g_seq ?_
  refine g_region ?_
  refine g_val rfl rfl rfl (fun _ _ => v_assign rfl) ?_
  refine g_nil ?_
  refine g_n_then ?_
  refine g_seq ?_
  refine g_draw none (.hoist 0 (.free 1 (.hoist 2 (.hoist 4 (.one 3 (.free 5 (.free 6 .done))))))) _ rfl (by decide +kernel) (fun w k hh => hh.draw k) (fun w hh => hh) ?_
  refine p_hoist rfl rfl rfl rfl (fun w hh => v_load (Try.isAgg139 w) rfl (hh.rcell 0 0 rfl rfl)) ?_
  refine p_free rfl rfl rfl rfl (fun _ _ => v_move rfl) ?_
  refine p_hoist rfl rfl rfl rfl (fun w hh => v_load (Try.isAgg3 w) rfl (hh.rcell 1 0 rfl rfl)) ?_
  refine p_hoist rfl rfl rfl rfl (fun w hh => v_load (Try.isAgg46 w) rfl (hh.rcell 2 0 rfl rfl)) ?_
  refine p_one rfl ?_
  refine g_callv rfl rfl rfl rfl rfl rfl rfl (fun a w => Try.call104 a w) (fun w hh => c_at L bd g _ _ w (hL.ext hh.toExt) hG hgl (hh.seg 3 rfl) (by assumption) (by omega)) ?_
  refine p_next (fun w hh => hh) ?_
  refine p_free rfl rfl rfl rfl (fun _ _ => v_eql rfl rfl) ?_
  refine p_free rfl rfl rfl rfl (fun _ _ => v_assign rfl) ?_
  refine p_done ?_
  refine g_n_then ?_
  refine g_ret ?_
  refine g_done rfl (fun w hh => (.tmp rfl .nil)) (fun w hh => ⟨?_, hh.toExt⟩)
  rfl

set_option maxRecDepth 100000 in
theorem c_Spans (p st : Int) (L : LS) (w : World) (hL : L.OK w) : Calls Try.prog 47 #[L.val, .int .i64 p, .int .i64 st] w (fun en w' => ∃ q cap, en = .returned (.tuple #[slv q (SpansR L.S p st).1.length cap, .int .i64 (SpansR L.S p st).2]) ∧ SlOK q (SpansR L.S p st).1.length cap ∧ News w w' [(bk q, off q, flat encP (SpansR L.S p st).1)]) := by
  have hlt := hL.tl
  have hlf := hL.fl
  have hls := hL.sl
  refine g_enter (args := [L.val, .int .i64 p, .int .i64 st]) Try.func47 rfl Try.ntmps47 rfl (e := [(0, _), (1, _), (2, _)]) rfl (HS.start w [] L.segs hL.segs) ?_
  refine g_seq ?_
  refine g_region ?_
  refine g_box rfl rfl (fun b1 hb1 => ?_)
  refine g_box rfl rfl (fun b2 hb2 => ?_)
  refine g_box rfl rfl (fun b3 hb3 => ?_)
  refine g_val rfl rfl rfl (fun _ _ => v_nilSlice rfl rfl) ?_
  refine g_val rfl rfl rfl (fun _ _ => v_assign rfl) ?_
  refine g_nil ?_
  refine g_n_then ?_
  refine g_seq ?_
  refine g_region ?_
  refine g_val rfl rfl rfl (fun w hh => v_loadAgg (vs := [_, _, _, _, _]) (Try.isAgg29 w) (Try.sizeOf29 w) rfl (hh.cells 2 rfl rfl)) ?_
  by_cases hc : check L.S = 0
  · have hG := good_of_check hc
    have hfl8 := hG.fl
    have htl12 := hG.tl
    have hsl16 := hG.sl
    refine g_callR (ι := Nat) (p := fun _ => True) (S := fun bd => [(bd, 0, L.cells ++ ints (gatesOf L.S))]) (ret := fun bd => .tuple #[ptr bd 0, .int .i64 0]) rfl rfl rfl rfl rfl rfl rfl (fun a w => Try.call102 a w) (fun w hh => c_openedR L w (hL.ext hh.toExt) hc) (fun bd _ => ?_)
    refine g_val rfl rfl rfl (fun _ _ => v_move rfl) ?_
    refine g_val rfl rfl rfl (fun _ _ => v_extract rfl rfl) ?_
    refine g_val rfl rfl rfl (fun _ _ => v_extract rfl rfl) ?_
    refine g_alloc (fun w => Try.zeroValue139 w) rfl (fun b4 hb4 => ?_)
    refine g_store1 (own' := (_ :: _)) 0 (fun w => Try.sizeOf139 w) rfl rfl rfl rfl rfl ?_
    refine g_val rfl rfl rfl (fun _ _ => v_assign rfl) ?_
    refine g_nil ?_
    refine g_n_then ?_
    refine g_seq ?_
    refine g_block ?_
    refine g_seq ?_
    refine g_region ?_
    refine g_val rfl rfl rfl (fun _ _ => v_move rfl) ?_
    refine g_val rfl rfl rfl (fun _ _ => v_neq rfl rfl) ?_
    refine g_val rfl rfl rfl (fun _ _ => v_assign rfl) ?_
    refine g_nil ?_
    refine g_n_then ?_
    refine g_condF rfl rfl ?_
    refine g_seq ?_
    refine g_draw none (.hoist 0 (.free 1 (.free 2 (.hoist 3 (.hoist 4 (.one 5 (.free 6 (.free 7 .done)))))))) _ rfl (by decide +kernel) (fun w k hh => hh.draw k) (fun w hh => hh) ?_
    refine p_hoist rfl rfl rfl rfl (fun w hh => v_load (Try.isAgg139 w) rfl (hh.cell 0 rfl rfl)) ?_
    refine p_free rfl rfl rfl rfl (fun _ _ => v_nilCheck rfl) ?_
    refine p_free rfl rfl rfl rfl (fun w _ => v_fieldAddr 0 (Try.runUnderlying157 w) rfl (Try.sizeOf29 w) rfl) ?_
    refine p_hoist rfl rfl rfl rfl (fun w hh => v_loadAgg (vs := [_, _, _, _, _]) (Try.isAgg29 w) (Try.sizeOf29 w) rfl (hh.rcells 0 0 rfl rfl)) ?_
    refine p_hoist rfl rfl rfl rfl (fun w hh => v_load (Try.isAgg3 w) rfl (hh.cell 2 rfl rfl)) ?_
    refine p_one rfl ?_
    refine g_callv rfl rfl rfl rfl rfl rfl rfl (fun a w => Try.call89 a w) (fun w hh => c_place _ L w (hL.ext hh.toExt)) ?_
    refine p_next (fun w hh => hh) ?_
    refine p_free rfl rfl rfl rfl (fun _ _ => v_not rfl) ?_
    refine p_free rfl rfl rfl rfl (fun _ _ => v_assign rfl) ?_
    refine p_done ?_
    refine g_n_then ?_
    refine g_cond rfl (fun hc19_1 => ?_) (fun hc19_1 => ?_)
    · replace hc19_1 := of_not_true hc19_1
      have hc19_1 := hc19_1
      refine g_seq ?_
      refine g_region ?_
      refine g_val rfl rfl rfl (fun _ _ => v_nilSlice rfl rfl) ?_
      refine g_val rfl rfl rfl (fun _ _ => v_assign rfl) ?_
      refine g_nil ?_
      refine g_n_then ?_
      refine g_ret ?_
      refine g_r_blk ?_
      refine g_r_then ?_
      refine g_done rfl (fun w hh => (.tmp rfl (.tmp rfl .nil))) (fun w hh => ?_)
      have ee : spansE L.S p st = 1 := by simp only [spansE, *, ne_eq, not_true_eq_false, not_false_eq_true, if_false, if_true, reduceIte, Bool.true_eq_false]
      have ea : SpansR L.S p st = ([], 1) := by simp only [SpansR, ee]; rw [if_pos (by decide)]
      rw [ea]
      exact ⟨none, 0, rfl, .nil, (News.nil hh.toExt).cons segOK.nil (fun h => absurd rfl h)⟩
    · replace hc19_1 := of_not_false hc19_1
      have hpl := isPlace_iff.1 hc19_1
      refine g_seq ?_
      refine g_region ?_
      refine g_val rfl rfl rfl (fun w hh => v_load (Try.isAgg46 w) rfl (hh.cell 1 rfl rfl)) ?_
      refine g_callv rfl rfl rfl rfl rfl rfl rfl (fun a w => Try.call90 a w) (fun w hh => c_in _ _ _ w) ?_
      refine g_val rfl rfl rfl (fun _ _ => v_not rfl) ?_
      refine g_val rfl rfl rfl (fun _ _ => v_assign rfl) ?_
      refine g_nil ?_
      refine g_n_then ?_
      refine g_cond rfl (fun hc27_2 => ?_) (fun hc27_2 => ?_)
      · replace hc27_2 := of_not_true hc27_2
        refine g_seq ?_
        refine g_region ?_
        refine g_val rfl rfl rfl (fun _ _ => v_nilSlice rfl rfl) ?_
        refine g_val rfl rfl rfl (fun _ _ => v_assign rfl) ?_
        refine g_nil ?_
        refine g_n_then ?_
        refine g_ret ?_
        refine g_r_blk ?_
        refine g_r_then ?_
        refine g_done rfl (fun w hh => (.tmp rfl (.tmp rfl .nil))) (fun w hh => ?_)
        have ee : spansE L.S p st = 8 := by simp only [spansE, *, ne_eq, not_true_eq_false, not_false_eq_true, if_false, if_true, reduceIte, Bool.true_eq_false]
        have ea : SpansR L.S p st = ([], 8) := by simp only [SpansR, ee]; rw [if_pos (by decide)]
        rw [ea]
        exact ⟨none, 0, rfl, .nil, (News.nil hh.toExt).cons segOK.nil (fun h => absurd rfl h)⟩
      · replace hc27_2 := of_not_false hc27_2
        refine g_skip ?_
        refine g_n_blk ?_
        refine g_n_then ?_
        refine g_seq ?_
        refine g_region ?_
        refine g_val rfl rfl rfl (fun w hh => v_load (Try.isAgg139 w) rfl (hh.cell 0 rfl rfl)) ?_
        refine g_val rfl rfl rfl (fun _ _ => v_makeFunc (u := #[]) (u' := #[_, _, _]) rfl rfl) ?_
        refine g_val rfl rfl rfl (fun _ _ => v_build (vs := [(0, _)]) (cells := [_]) rfl rfl) ?_
        refine g_callR (ι := Option (Nat × Nat) × Nat) (p := fun i => SlOK i.1 (spansF L.S (isState L.S p st)).length i.2 ∧ (flat encP (spansF L.S (isState L.S p st)) ≠ [] → w.heap.size ≤ bk i.1)) (S := fun i => [(bk i.1, off i.1, flat encP (spansF L.S (isState L.S p st)))]) (ret := fun i => slv i.1 (spansF L.S (isState L.S p st)).length i.2) rfl rfl rfl rfl rfl rfl rfl (fun a w => Try.call118 a w) (fun w1 hh => (c_spans L bd (gatesOf L.S) 119 #[] #[ptr b4 0, ptr b2 0, ptr b3 0] (isState L.S p st) w1 (hL.ext hh.toExt) hG gates_length (hh.seg 0 rfl) (fun a w => Try.call119 a w) (fun w2 hx m hm => c_Spans1 L bd (gatesOf L.S) m p st b4 b2 b3 w2 ((hL.ext hh.toExt).ext hx) hG gates_length ((hh.seg 0 rfl).ext hx (by simp)) hm (by omega) ((hh.ownSeg 0 rfl).ext hx (by simp)) ((hh.ownSeg 2 rfl).ext hx (by simp)) ((hh.ownSeg 1 rfl).ext hx (by simp)))).mono (by rintro en w' ⟨q, cap, rfl, h1, h2⟩; exact ⟨(q, cap), rfl, ⟨h1, fun hn => Nat.le_trans hh.size (h2.new _ List.mem_cons_self hn)⟩, h2⟩)) (fun q5 hhq5 => ?_)
        have hq5 := hhq5.1
        have hq5n := hhq5.2
        refine g_val rfl rfl rfl (fun _ _ => v_assign rfl) ?_
        refine g_val rfl rfl rfl (fun _ _ => v_assign rfl) ?_
        refine g_nil ?_
        refine g_n_then ?_
        refine g_ret ?_
        refine g_done rfl (fun w hh => (.tmp rfl (.tmp rfl .nil))) (fun w hh => ?_)
        have ee : spansE L.S p st = 0 := by simp only [spansE, *, ne_eq, not_true_eq_false, if_false, Bool.true_eq_false]
        have ea : SpansR L.S p st = (spansF L.S (isState L.S p st), 0) := by simp only [SpansR, ee]; rw [if_neg (by decide)]
        rw [ea]
        exact ⟨q5.1, q5.2, rfl, hq5, (News.nil hh.toExt).cons (hh.seg 0 rfl) (fun h => hq5n h)⟩
  · refine g_callv rfl rfl rfl rfl rfl rfl rfl (fun a w => Try.call102 a w) (fun w hh => c_openedE L w (hL.ext hh.toExt) hc) ?_
    refine g_val rfl rfl rfl (fun _ _ => v_move rfl) ?_
    refine g_val rfl rfl rfl (fun _ _ => v_extract rfl rfl) ?_
    refine g_val rfl rfl rfl (fun _ _ => v_extract rfl rfl) ?_
    refine g_alloc (fun w => Try.zeroValue139 w) rfl (fun b6 hb6 => ?_)
    refine g_store1 (own' := (_ :: _)) 0 (fun w => Try.sizeOf139 w) rfl rfl rfl rfl rfl ?_
    refine g_val rfl rfl rfl (fun _ _ => v_assign rfl) ?_
    refine g_nil ?_
    refine g_n_then ?_
    refine g_seq ?_
    refine g_block ?_
    refine g_seq ?_
    refine g_region ?_
    refine g_val rfl rfl rfl (fun _ _ => v_move rfl) ?_
    refine g_val rfl rfl rfl (fun _ _ => v_neq rfl rfl) ?_
    refine g_val rfl rfl rfl (fun _ _ => v_assign rfl) ?_
    refine g_nil ?_
    refine g_n_then ?_
    refine g_condT rfl (neP hc) ?_
    refine g_seq ?_
    refine g_region ?_
    refine g_val rfl rfl rfl (fun _ _ => v_move rfl) ?_
    refine g_val rfl rfl rfl (fun _ _ => v_nilSlice rfl rfl) ?_
    refine g_val rfl rfl rfl (fun _ _ => v_assign rfl) ?_
    refine g_nil ?_
    refine g_n_then ?_
    refine g_ret ?_
    refine g_r_blk ?_
    refine g_r_then ?_
    refine g_done rfl (fun w hh => (.tmp rfl (.tmp rfl .nil))) (fun w hh => ?_)
    have ee : spansE L.S p st = check L.S := by simp only [spansE, *, ne_eq, not_true_eq_false, not_false_eq_true, if_false, if_true, reduceIte, Bool.true_eq_false]
    have ea : SpansR L.S p st = ([], check L.S) := by simp only [SpansR, ee]; rw [if_pos hc]
    rw [ea]
    exact ⟨none, 0, rfl, .nil, (News.nil hh.toExt).cons segOK.nil (fun h => absurd rfl h)⟩

set_option maxRecDepth 100000 in
theorem c_Turn1 (x : Span) (m : Int) (bx : Nat) (w : World) (hb : segOK w (bx, 0, [.int .i64 m])) : Ret Try.prog 116 [.agg (encP x).toArray, ptr bx 0] w (.bool (inr m x.lo x.hi)) := by
  refine g_enter (args := [.agg (encP x).toArray, ptr bx 0]) Try.func116 rfl Try.ntmps116 rfl (e := [(0, _), (1, _)]) rfl (HS.start w [] [(bx, 0, [.int .i64 m])] (segsC hb segsN)) ?_
  refine g_seq ?_
  refine g_region ?_
  refine g_box rfl rfl (fun b1 hb1 => ?_)
  refine g_val rfl rfl rfl (fun _ _ => v_assign rfl) ?_
  refine g_nil ?_
  refine g_n_then ?_
  refine g_seq ?_
  refine g_region ?_
  refine g_val rfl rfl rfl (fun w hh => v_load (Try.isAgg3 w) rfl (hh.rcell 0 0 rfl rfl)) ?_
  refine g_val rfl rfl rfl (fun w _ => v_fieldAddr 0 (Try.runUnderlying25 w) rfl (Try.sizeOf3 w) rfl) ?_
  refine g_val rfl rfl rfl (fun w hh => v_load (Try.isAgg3 w) rfl (hh.cell 0 rfl rfl)) ?_
  refine g_val rfl rfl rfl (fun w _ => v_fieldAddr 1 (Try.runUnderlying25 w) rfl (Try.sizeOf3 w) rfl) ?_
  refine g_val rfl rfl rfl (fun w hh => v_load (Try.isAgg3 w) rfl (hh.cell 0 rfl rfl)) ?_
  refine g_callv rfl rfl rfl rfl rfl rfl rfl (fun a w => Try.call90 a w) (fun w hh => c_in _ _ _ w) ?_
  refine g_val rfl rfl rfl (fun _ _ => v_assign rfl) ?_
  refine g_nil ?_
  refine g_n_then ?_
  refine g_ret ?_
  refine g_done rfl (fun w hh => (.tmp rfl .nil)) (fun w hh => ⟨?_, hh.toExt⟩)
  rfl

set_option maxRecDepth 100000 in
theorem c_Turn (p m : Int) (L : LS) (w : World) (hL : L.OK w) : Ret Try.prog 41 [L.val, .int .i64 p, .int .i64 m] w (.tuple #[.int .i64 (TurnR L.S p m).1, .int .i64 (TurnR L.S p m).2]) := by
  have hlt := hL.tl
  have hlf := hL.fl
  have hls := hL.sl
  refine g_enter (args := [L.val, .int .i64 p, .int .i64 m]) Try.func41 rfl Try.ntmps41 rfl (e := [(0, _), (1, _), (2, _)]) rfl (HS.start w [] L.segs hL.segs) ?_
  refine g_seq ?_
  refine g_region ?_
  refine g_box rfl rfl (fun b1 hb1 => ?_)
  refine g_box rfl rfl (fun b2 hb2 => ?_)
  refine g_val rfl rfl rfl (fun _ _ => v_assign rfl) ?_
  refine g_val rfl rfl rfl (fun _ _ => v_assign rfl) ?_
  refine g_nil ?_
  refine g_n_then ?_
  refine g_seq ?_
  refine g_region ?_
  refine g_val rfl rfl rfl (fun w hh => v_loadAgg (vs := [_, _, _, _, _]) (Try.isAgg29 w) (Try.sizeOf29 w) rfl (hh.cells 1 rfl rfl)) ?_
  refine g_val rfl rfl rfl (fun _ _ => v_move rfl) ?_
  refine g_callR (ι := Option (Nat × Nat) × Nat) (p := fun i => SlOK i.1 (SpansR L.S p 0).1.length i.2) (S := fun i => [(bk i.1, off i.1, flat encP (SpansR L.S p 0).1)]) (ret := fun i => .tuple #[slv i.1 (SpansR L.S p 0).1.length i.2, .int .i64 (SpansR L.S p 0).2]) rfl rfl rfl rfl rfl rfl rfl (fun a w => Try.call47 a w) (fun w hh => (c_Spans p 0 L w (hL.ext hh.toExt)).mono (by rintro en w' ⟨q, cap, rfl, h1, h2⟩; exact ⟨(q, cap), rfl, h1, h2⟩)) (fun q3 hq3 => ?_)
  by_cases he : spansE L.S p 0 = 0
  · have hc := (spansE_zero he).1
    have hpl := isPlace_iff.1 (spansE_zero he).2.1
    have hG := good_of_check hc
    have hsl := spansF_len (s := L.S) (p := isState L.S p 0) hG
    have ea : SpansR L.S p 0 = ((spansF L.S (isState L.S p 0)), 0) := by simp only [SpansR]; rw [if_neg (by simp [he])]
    rw [ea] at hq3 ⊢
    simp only at hq3 ⊢
    refine g_val rfl rfl rfl (fun _ _ => v_move rfl) ?_
    refine g_val rfl rfl rfl (fun _ _ => v_extract rfl rfl) ?_
    refine g_val rfl rfl rfl (fun _ _ => v_extract rfl rfl) ?_
    refine g_val rfl rfl rfl (fun _ _ => v_assign rfl) ?_
    refine g_val rfl rfl rfl (fun _ _ => v_assign rfl) ?_
    refine g_nil ?_
    refine g_n_then ?_
    refine g_seq ?_
    refine g_seq ?_
    refine g_region ?_
    refine g_val rfl rfl rfl (fun _ _ => v_move rfl) ?_
    refine g_val rfl rfl rfl (fun _ _ => v_neq rfl rfl) ?_
    refine g_nil ?_
    refine g_n_then ?_
    refine g_condF rfl rfl ?_
    refine g_skip ?_
    refine g_n_then ?_
    refine g_seq ?_
    refine g_region ?_
    refine g_val rfl rfl rfl (fun w hh => v_loadAgg (vs := [_, _, _, _, _]) (Try.isAgg29 w) (Try.sizeOf29 w) rfl (hh.cells 1 rfl rfl)) ?_
    have hfl8 := hG.fl
    have htl12 := hG.tl
    have hsl16 := hG.sl
    refine g_callR (ι := Nat) (p := fun _ => True) (S := fun bd => [(bd, 0, L.cells ++ ints (gatesOf L.S))]) (ret := fun bd => .tuple #[ptr bd 0, .int .i64 0]) rfl rfl rfl rfl rfl rfl rfl (fun a w => Try.call102 a w) (fun w hh => c_openedR L w (hL.ext hh.toExt) hc) (fun bd _ => ?_)
    refine g_val rfl rfl rfl (fun _ _ => v_move rfl) ?_
    refine g_val rfl rfl rfl (fun _ _ => v_extract rfl rfl) ?_
    refine g_val rfl rfl rfl (fun _ _ => v_extract rfl rfl) ?_
    refine g_val rfl rfl rfl (fun _ _ => v_assign rfl) ?_
    refine g_val rfl rfl rfl (fun _ _ => v_assign rfl) ?_
    refine g_nil ?_
    refine g_n_then ?_
    refine g_seq ?_
    refine g_seq ?_
    refine g_region ?_
    refine g_val rfl rfl rfl (fun _ _ => v_move rfl) ?_
    refine g_val rfl rfl rfl (fun _ _ => v_makeFunc (u := #[_]) (u' := #[]) rfl rfl) ?_
    refine g_val rfl rfl rfl (fun _ _ => v_assign rfl) ?_
    refine g_nil ?_
    refine g_n_then ?_
    refine g_seq ?_
    refine g_region ?_
    refine g_val rfl rfl rfl (fun _ _ => v_move rfl) ?_
    refine g_val rfl rfl rfl (fun w hh => v_load (Try.isAgg3 w) rfl (hh.cell 0 rfl rfl)) ?_
    refine g_callv rfl rfl rfl rfl rfl rfl rfl (fun a w => Try.call103 a w) (fun w hh => c_day L bd (gatesOf L.S) _ w (hL.ext hh.toExt) hG gates_length (hh.seg 0 rfl)) ?_
    refine g_val rfl rfl rfl (fun _ _ => v_not rfl) ?_
    refine g_nil ?_
    refine g_n_then ?_
    refine g_cond rfl (fun hc33_1 => ?_) (fun hc33_1 => ?_)
    · replace hc33_1 := of_not_true hc33_1
      refine g_seq ?_
      refine g_region ?_
      refine g_val rfl rfl rfl (fun _ _ => v_assign rfl) ?_
      refine g_val rfl rfl rfl (fun _ _ => v_assign rfl) ?_
      refine g_nil ?_
      refine g_n_then ?_
      refine g_ret ?_
      refine g_r_then ?_
      refine g_done rfl (fun w hh => (.tmp rfl (.tmp rfl .nil))) (fun w hh => ⟨?_, hh.toExt⟩)
      simp only [retv, TurnR, *, ne_eq, not_true_eq_false, not_false_eq_true, if_false, if_true, reduceIte, Bool.true_eq_false] <;> rfl
    · replace hc33_1 := of_not_false hc33_1
      refine g_skip ?_
      refine g_n_then ?_
      refine g_seq ?_
      refine g_region ?_
      refine g_val rfl rfl rfl (fun _ _ => v_move rfl) ?_
      refine g_val rfl rfl rfl (fun _ _ => v_makeFunc (u := #[]) (u' := #[_]) rfl rfl) ?_
      refine g_callv rfl rfl rfl rfl rfl rfl rfl (fun a w => Try.call115 a w) (fun w hh => c_IndexFunc_Span 116 #[] #[ptr b2 0] (fun x => inr m x.lo x.hi) (spansF L.S (isState L.S p 0)) q3.1 q3.2 w (by omega) hq3.ne (hh.seg 1 rfl) (fun a w => Try.call116 a w) (fun w2 hx j hj => c_Turn1 _ m b2 w2 ((hh.ownSeg 0 rfl).ext hx (by simp)))) ?_
      have hir := idxf_range (p := fun x : Span => inr m x.lo x.hi) (l := (spansF L.S (isState L.S p 0)))
      refine g_val rfl rfl rfl (fun _ _ => v_assign rfl) ?_
      refine g_nil ?_
      refine g_n_then ?_
      refine g_seq ?_
      refine g_seq ?_
      refine g_region ?_
      refine g_val rfl rfl rfl (fun _ _ => v_move rfl) ?_
      refine g_val rfl rfl rfl (fun _ _ => v_lss rfl rfl) ?_
      refine g_nil ?_
      refine g_n_then ?_
      refine g_cond rfl (fun hc38_2 => ?_) (fun hc38_2 => ?_)
      · replace hc38_2 := of_decide_eq_true hc38_2
        refine g_seq ?_
        refine g_region ?_
        refine g_val rfl rfl rfl (fun _ _ => v_assign rfl) ?_
        refine g_val rfl rfl rfl (fun _ _ => v_assign rfl) ?_
        refine g_nil ?_
        refine g_n_then ?_
        refine g_ret ?_
        refine g_r_then ?_
        refine g_done rfl (fun w hh => (.tmp rfl (.tmp rfl .nil))) (fun w hh => ⟨?_, hh.toExt⟩)
        simp only [retv, TurnR, *, ne_eq, not_true_eq_false, not_false_eq_true, if_false, if_true, reduceIte, Bool.true_eq_false] <;> rfl
      · replace hc38_2 := of_decide_eq_false hc38_2
        refine g_skip ?_
        refine g_n_then ?_
        refine g_seq ?_
        refine g_region ?_
        refine g_val rfl rfl rfl (fun _ _ => v_move rfl) ?_
        refine g_val rfl rfl rfl (fun _ _ => v_move rfl) ?_
        refine g_val rfl rfl rfl (fun w _ => v_idxI (Try.runUnderlying77 w) (Try.sizeOf25 w) rfl rfl (by omega) (by omega) (hq3.ne (by omega))) ?_
        refine g_val rfl rfl rfl (fun w _ => v_fieldAddr 1 (Try.runUnderlying25 w) rfl (Try.sizeOf3 w) rfl) ?_
        refine g_val rfl rfl rfl (fun w hh => v_load (Try.isAgg3 w) rfl (hh.fld encP_len 1 1 rfl (by omega) rfl rfl)) ?_
        refine g_val rfl rfl rfl (fun _ _ => v_assign rfl) ?_
        refine g_val rfl rfl rfl (fun _ _ => v_assign rfl) ?_
        refine g_nil ?_
        refine g_n_then ?_
        refine g_ret ?_
        refine g_done rfl (fun w hh => (.tmp rfl (.tmp rfl .nil))) (fun w hh => ⟨?_, hh.toExt⟩)
        simp only [retv, TurnR, *, ne_eq, not_true_eq_false, not_false_eq_true, if_false, if_true, reduceIte, Bool.true_eq_false] <;> rfl
  · have ea : SpansR L.S p 0 = ([], spansE L.S p 0) := by simp only [SpansR]; rw [if_pos he]
    rw [ea] at hq3 ⊢
    simp only at hq3 ⊢
    refine g_val rfl rfl rfl (fun _ _ => v_move rfl) ?_
    refine g_val rfl rfl rfl (fun _ _ => v_extract rfl rfl) ?_
    refine g_val rfl rfl rfl (fun _ _ => v_extract rfl rfl) ?_
    refine g_val rfl rfl rfl (fun _ _ => v_assign rfl) ?_
    refine g_val rfl rfl rfl (fun _ _ => v_assign rfl) ?_
    refine g_nil ?_
    refine g_n_then ?_
    refine g_seq ?_
    refine g_seq ?_
    refine g_region ?_
    refine g_val rfl rfl rfl (fun _ _ => v_move rfl) ?_
    refine g_val rfl rfl rfl (fun _ _ => v_neq rfl rfl) ?_
    refine g_nil ?_
    refine g_n_then ?_
    refine g_condT rfl (neP he) ?_
    refine g_seq ?_
    refine g_region ?_
    refine g_val rfl rfl rfl (fun _ _ => v_move rfl) ?_
    refine g_val rfl rfl rfl (fun _ _ => v_assign rfl) ?_
    refine g_val rfl rfl rfl (fun _ _ => v_assign rfl) ?_
    refine g_nil ?_
    refine g_n_then ?_
    refine g_ret ?_
    refine g_r_then ?_
    refine g_done rfl (fun w hh => (.tmp rfl (.tmp rfl .nil))) (fun w hh => ⟨?_, hh.toExt⟩)
    simp only [retv, TurnR, *, ne_eq, not_true_eq_false, not_false_eq_true, if_false, if_true, reduceIte, Bool.true_eq_false] <;> rfl

end Go.Proofs

namespace Go.Pl
def hasKey (W : List (Int × List Int)) (k : Int) : Bool := W.any (fun e => decide (e.1 = k))
def tryAdd (may : Int → Int → Bool) (way : List Int) (W : List (Int × List Int)) (k : Nat) (q : Int) : List (Int × List Int) :=
  if hasKey W q = true then W else if may k q = true then W ++ [(q, way ++ [(k : Int)])] else W
def wStep (may : Int → Int → Bool) (p : Int) (way : List Int) (W : List (Int × List Int)) (k : Nat) (x : Sill) : List (Int × List Int) :=
  if x.a = p then tryAdd may way W k x.b else if x.b = p then tryAdd may way W k x.a else W
def procN (s : Sands) (may : Int → Int → Bool) (W : List (Int × List Int)) (c k : Nat) : List (Int × List Int) :=
  (List.range k).foldl (fun V i => wStep may (W.getD c default).1 (W.getD c default).2 V i (s.sills.getD i default)) W
def waysN (s : Sands) (may : Int → Int → Bool) : Nat → List (Int × List Int)
  | 0 => [(-1, [])]
  | c + 1 => if c < (waysN s may c).length then procN s may (waysN s may c) c s.sills.length else waysN s may c
def waysF (s : Sands) (may : Int → Int → Bool) : List (Int × List Int) := waysN s may 9
theorem procN_succ {s : Sands} {may : Int → Int → Bool} {W : List (Int × List Int)} {c k : Nat} : procN s may W c (k + 1) = wStep may (W.getD c default).1 (W.getD c default).2 (procN s may W c k) k (s.sills.getD k default) := by
  unfold procN
  rw [List.range_succ, List.foldl_append]
  rfl
/-- the table of ways: each place once -/
structure WInv (s : Sands) (W : List (Int × List Int)) : Prop where
  nd : (W.map (·.1)).Nodup
  rg : ∀ e ∈ W, -1 ≤ e.1 ∧ e.1 < s.floors.length
  sea : ∃ r, W = (-1, []) :: r
  wl : ∀ (j : Nat) (e : Int × List Int), W[j]? = some e → e.2.length ≤ j
theorem nodup_lt : ∀ (n : Nat) (l : List Nat), l.Nodup → (∀ x ∈ l, x < n) → l.length ≤ n
  | 0, l, _, h => by
    cases l with
    | nil => simp
    | cons x l => have := h x List.mem_cons_self; omega
  | n + 1, l, hn, h => by
    by_cases hm : n ∈ l
    · have h1 := nodup_lt n (l.erase n) (hn.erase n) (fun x hx => by
        have h2 := (List.Nodup.mem_erase_iff hn).1 hx
        have := h x h2.2
        omega)
      rw [List.length_erase_of_mem hm] at h1
      omega
    · have := nodup_lt n l hn (fun x hx => by
        have h2 := h x hx
        have : x ≠ n := fun he => hm (he ▸ hx)
        omega)
      omega
theorem nodup_map {α β : Type} {f : α → β} : ∀ {l : List α}, l.Nodup → (∀ x ∈ l, ∀ y ∈ l, f x = f y → x = y) → (l.map f).Nodup
  | [], _, _ => List.nodup_nil
  | x :: l, hn, h => by
    rw [List.nodup_cons] at hn
    rw [List.map_cons, List.nodup_cons]
    refine ⟨fun hm => ?_, nodup_map hn.2 (fun a ha b hb => h a (List.mem_cons_of_mem _ ha) b (List.mem_cons_of_mem _ hb))⟩
    obtain ⟨y, hy, he⟩ := List.mem_map.1 hm
    have := h x List.mem_cons_self y (List.mem_cons_of_mem _ hy) he.symm
    subst this
    exact hn.1 hy
theorem WInv.len {s : Sands} {W : List (Int × List Int)} (h : WInv s W) : W.length ≤ s.floors.length + 1 := by
  have h1 := nodup_map (f := fun k : Int => (k + 1).toNat) h.nd (fun x hx y hy he => by
    obtain ⟨e, he1, rfl⟩ := List.mem_map.1 hx
    obtain ⟨e', he2, rfl⟩ := List.mem_map.1 hy
    have a := h.rg e he1
    have b := h.rg e' he2
    have hc : (e.1 + 1).toNat = (e'.1 + 1).toNat := he
    omega)
  have h2 := nodup_lt (s.floors.length + 1) _ h1 (fun x hx => by
    obtain ⟨k, hk, rfl⟩ := List.mem_map.1 hx
    obtain ⟨e, he1, rfl⟩ := List.mem_map.1 hk
    have a := h.rg e he1
    have : (fun k : Int => (k + 1).toNat) e.1 = (e.1 + 1).toNat := rfl
    omega)
  simpa using h2
theorem hasKey_iff {W : List (Int × List Int)} {k : Int} : hasKey W k = true ↔ k ∈ W.map (·.1) := by
  unfold hasKey
  rw [List.any_eq_true, List.mem_map]
  constructor
  · rintro ⟨e, he, h⟩; exact ⟨e, he, of_decide_eq_true h⟩
  · rintro ⟨e, he, h⟩; exact ⟨e, he, decide_eq_true h⟩
theorem WInv.add {s : Sands} {W : List (Int × List Int)} (h : WInv s W) {may : Int → Int → Bool} {way : List Int} {k : Nat} {q : Int} (hq : -1 ≤ q ∧ q < s.floors.length) (hw : way.length < W.length) : WInv s (tryAdd may way W k q) := by
  unfold tryAdd
  split
  · exact h
  · rename_i hk
    split
    · refine ⟨?_, fun e he => ?_, ?_, fun j e he => ?_⟩
      · rw [List.map_append, List.nodup_append]
        refine ⟨h.nd, by simp, fun a ha b hb hab => ?_⟩
        simp at hb
        subst hb
        subst hab
        exact hk (hasKey_iff.2 ha)
      · rcases List.mem_append.1 he with he | he
        · exact h.rg e he
        · simp at he; subst he; exact hq
      · obtain ⟨r, rfl⟩ := h.sea
        exact ⟨_, rfl⟩
      · rcases Nat.lt_or_ge j W.length with hj | hj
        · rw [List.getElem?_append_left hj] at he; exact h.wl j e he
        · rw [List.getElem?_append_right hj] at he
          cases hjj : j - W.length with
          | zero => rw [hjj] at he; simp at he; subst he; simp; omega
          | succ m => rw [hjj] at he; simp at he
    · exact h
theorem tryAdd_mono {may : Int → Int → Bool} {way : List Int} {W : List (Int × List Int)} {k : Nat} {q : Int} : ∃ r, tryAdd may way W k q = W ++ r := by
  unfold tryAdd
  split
  · exact ⟨[], by simp⟩
  · split
    · exact ⟨_, rfl⟩
    · exact ⟨[], by simp⟩
theorem wStep_mono {may : Int → Int → Bool} {p : Int} {way : List Int} {W : List (Int × List Int)} {k : Nat} {x : Sill} : ∃ r, wStep may p way W k x = W ++ r := by
  unfold wStep
  split
  · exact tryAdd_mono
  · split
    · exact tryAdd_mono
    · exact ⟨[], by simp⟩
theorem procN_inv {s : Sands} {may : Int → Int → Bool} (hG : Good s) {W : List (Int × List Int)} {c : Nat} (h : WInv s W) (hc : c < W.length) : ∀ {k : Nat}, k ≤ s.sills.length → WInv s (procN s may W c k) ∧ ∃ r, procN s may W c k = W ++ r := by
  have hw : (W.getD c default).2.length ≤ c := by
    have := h.wl c W[c] (by simp [hc])
    simpa [List.getD_eq_getElem?_getD, hc] using this
  intro k
  induction k with
  | zero => intro _; exact ⟨h, [], by simp [procN]⟩
  | succ k ih =>
    intro hk
    obtain ⟨h1, r, hr⟩ := ih (by omega)
    have hl : W.length ≤ (procN s may W c k).length := by rw [hr]; simp
    rw [procN_succ]
    refine ⟨?_, ?_⟩
    · unfold wStep
      have ha := hG.sa k (by omega)
      have hb := hG.sb k (by omega)
      split
      · exact h1.add hb (by omega)
      · split
        · exact h1.add ha (by omega)
        · exact h1
    · obtain ⟨r2, hr2⟩ := wStep_mono (may := may) (p := (W.getD c default).1) (way := (W.getD c default).2) (W := procN s may W c k) (k := k) (x := s.sills.getD k default)
      exact ⟨r ++ r2, by rw [hr2, hr, List.append_assoc]⟩
theorem waysN_inv {s : Sands} {may : Int → Int → Bool} (hG : Good s) : ∀ (c : Nat), WInv s (waysN s may c)
  | 0 => ⟨by simp [waysN], fun e he => by simp [waysN] at he; subst he; have := hG.fl; simp; omega, ⟨[], rfl⟩, fun j e he => by
      cases j with
      | zero => simp [waysN] at he; subst he; simp
      | succ j => simp [waysN] at he⟩
  | c + 1 => by
    unfold waysN
    split
    · rename_i h
      exact (procN_inv hG (waysN_inv hG c) h (Nat.le_refl _)).1
    · exact waysN_inv hG c
theorem waysN_stop {s : Sands} {may : Int → Int → Bool} {c : Nat} (h : (waysN s may c).length ≤ c) : ∀ {d : Nat}, c ≤ d → waysN s may d = waysN s may c := by
  intro d
  induction d with
  | zero => intro hd; have : c = 0 := by omega
            subst this; rfl
  | succ d ih =>
    intro hd
    rcases Nat.lt_or_ge d c with h1 | h1
    · have : c = d + 1 := by omega
      subst this; rfl
    · have h2 := ih h1
      show (if d < (waysN s may d).length then _ else waysN s may d) = _
      rw [h2, if_neg (by omega)]
def mayLe (s : Sands) (most : Int) (k q : Int) : Bool := decide (([s.floors.getD q.toNat 0] : List Int).foldl max (s.sills.getD k.toNat default).h ≤ most)
def wayOf (W : List (Int × List Int)) (p : Int) : List Int := ((W.find? (fun e => decide (e.1 = p))).map (·.2)).getD []
def WayR (s : Sands) (p : Int) : List Int × Int := if gatedE s p ≠ 0 then ([], gatedE s p) else (wayOf (waysF s (mayLe s ((gatesOf s).getD p.toNat 0))) p, 0)
end Go.Pl

namespace Go.Proofs
open Go Go.Fw Go.Pl
/-- a way, and where it lies -/
structure WV where
  key : Int
  way : List Int
  q : Option (Nat × Nat)
  cap : Nat
  sp : List Value
  deriving Inhabited
def WV.ok (e : WV) : Prop := VOK 1 e.way.length e.cap (ints e.way) e.sp e.q
def wproj (W : List WV) : List (Int × List Int) := W.map (fun e => (e.key, e.way))
def mlist (W : List WV) : List (Int × Value) := W.map (fun e => (e.key, slv e.q e.way.length e.cap))
def wown (W : List WV) : List (Nat × Obj) := W.flatMap (fun e => vown 3 (ints e.way) e.sp e.q)
def sea0 : WV := ⟨-1, [], none, 0, []⟩
def marks (Ds : List Nat) : List (Nat × Obj) := Ds.map (fun D => (D, Obj.deferred (some [])))
theorem wown_snoc {W : List WV} {e : WV} : wown (W ++ [e]) = wown W ++ vown 3 (ints e.way) e.sp e.q := by simp [wown]
theorem mlist_snoc {W : List WV} {e : WV} : mlist (W ++ [e]) = mlist W ++ [(e.key, slv e.q e.way.length e.cap)] := by simp [mlist]
theorem wproj_snoc {W : List WV} {e : WV} : wproj (W ++ [e]) = wproj W ++ [(e.key, e.way)] := by simp [wproj]
theorem wproj_length {W : List WV} : (wproj W).length = W.length := by simp [wproj]
theorem mfind_isSome : ∀ {W : List WV} {k : Int} {i : Nat}, (mfind (mlist W) k i).isSome = hasKey (wproj W) k
  | [], _, _ => rfl
  | e :: W, k, i => by
    simp only [mlist, List.map_cons, mfind, wproj, hasKey, List.any_cons]
    by_cases h : k = e.key
    · simp [h]
    · rw [if_neg h]
      have := mfind_isSome (W := W) (k := k) (i := i + 1)
      simp only [mlist, wproj, hasKey] at this
      rw [this]
      have h2 : decide (e.key = k) = false := by simp; exact fun he => h he.symm
      simp [h2]
theorem mget_isSome {W : List WV} {k : Int} : (mget (mlist W) k).isSome = hasKey (wproj W) k := by
  unfold mget; rw [Option.isSome_map]; exact mfind_isSome
theorem mget_none {W : List WV} {k : Int} (h : hasKey (wproj W) k = false) : mget (mlist W) k = none := by
  rw [← mget_isSome] at h
  cases hm : mget (mlist W) k with
  | none => rfl
  | some v => rw [hm] at h; cases h
theorem mfind_at : ∀ {W : List WV} {c i : Nat} {e : WV}, ((wproj W).map (·.1)).Nodup → W[c]? = some e → (mfind (mlist W) e.key i).map (·.2) = some (slv e.q e.way.length e.cap)
  | [], _, _, _, _, h => by simp at h
  | e' :: W, 0, i, e, hn, h => by
    simp at h; subst h
    simp [mlist, mfind]
  | e' :: W, c + 1, i, e, hn, h => by
    simp only [List.getElem?_cons_succ] at h
    simp only [wproj, List.map_cons, List.nodup_cons] at hn
    have hne : e.key ≠ e'.key := fun he => hn.1 (List.mem_map.2 ⟨(e.key, e.way), List.mem_map.2 ⟨e, List.mem_of_getElem? h, rfl⟩, he⟩)
    simp only [mlist, List.map_cons, mfind, if_neg hne]
    exact mfind_at (W := W) hn.2 h
theorem mget_at {W : List WV} {c : Nat} {e : WV} (hn : ((wproj W).map (·.1)).Nodup) (h : W[c]? = some e) : mget (mlist W) e.key = some (slv e.q e.way.length e.cap) := mfind_at hn h
theorem wayOf_cons {W : List WV} {k : Int} : (∃ e ∈ W, e.key = k ∧ mget (mlist W) k = some (slv e.q e.way.length e.cap) ∧ wayOf (wproj W) k = e.way) ∨ (mget (mlist W) k = none ∧ wayOf (wproj W) k = []) := by
  have key : ∀ (W : List WV) (i : Nat), (∃ e ∈ W, e.key = k ∧ (mfind (mlist W) k i).map (·.2) = some (slv e.q e.way.length e.cap) ∧ wayOf (wproj W) k = e.way) ∨ ((mfind (mlist W) k i).map (·.2) = none ∧ wayOf (wproj W) k = []) := by
    intro W
    induction W with
    | nil => intro i; right; exact ⟨rfl, rfl⟩
    | cons e W ih =>
      intro i
      by_cases h : k = e.key
      · left
        refine ⟨e, List.mem_cons_self, h.symm, ?_, ?_⟩
        · simp [mlist, mfind, h]
        · simp [wayOf, wproj, h]
      · have h2 : ¬ e.key = k := fun he => h he.symm
        have hf : mfind (mlist (e :: W)) k i = mfind (mlist W) k (i + 1) := by simp [mlist, mfind, h]
        have hw : wayOf (wproj (e :: W)) k = wayOf (wproj W) k := by simp [wayOf, wproj, h2]
        rw [hf, hw]
        rcases ih (i + 1) with ⟨e', he', h3, h4, h5⟩ | h3
        · exact .inl ⟨e', List.mem_cons_of_mem _ he', h3, h4, h5⟩
        · exact .inr h3
  exact key W 0
theorem vown_seg {w : World} {own : List (Nat × Obj)} {xs sp : List Value} {q : Option (Nat × Nat)} {w0 : World} {M : List Nat} {ro : List Sg} {E : TypeId} (hh : HS w0 M own ro w) (hm : ∀ p, p ∈ vown E xs sp q → p ∈ own) (hoff : ∀ p, q = some p → p.2 = 0) (hnone : q = none → xs = []) : segOK w (bk q, off q, xs) := by
  cases q with
  | none => rw [hnone rfl]; exact segOK.nil
  | some p =>
    have ho := hoff p rfl
    have h1 := hh.ownOK (p.1, .cells (xs ++ sp).toArray E (0, 0)) (hm _ (by simp [vown]))
    have h3 : segOK w (p.1, 0, xs ++ sp) := .of_block h1
    intro j hj
    have h5 : j < (xs ++ sp).length := by simp at hj ⊢; omega
    have := h3 j h5
    simp only at this hj ⊢
    simp only [bk, off, Option.getD_some, ho]
    rw [this, List.getElem_append_left hj]
theorem mem_wown {W : List WV} {e : WV} (he : e ∈ W) : ∀ p, p ∈ vown 3 (ints e.way) e.sp e.q → p ∈ wown W := fun p hp => List.mem_flatMap.2 ⟨e, he, hp⟩
theorem made_int {k : Nat} : madeCells (Value.int .i64 0).cells (k * 1) = (List.replicate k (Value.int .i64 0)).toArray := by
  apply Array.toList_inj.1
  apply List.ext_getElem
  · simp [madeCells]
  · intro i h1 h2
    simp [madeCells, Value.cells, Nat.mod_one]
theorem perm_end {α : Type} {A m w V X : List α} : (A ++ (V ++ ((m ++ w) ++ X))).Perm ((A ++ (m ++ (w ++ V))) ++ X) := by
  simp only [List.append_assoc]
  refine List.Perm.append_left A ?_
  have h1 : (V ++ (m ++ (w ++ X))).Perm ((m ++ (w ++ X)) ++ V) := List.perm_append_comm
  refine h1.trans ?_
  simp only [List.append_assoc]
  exact List.Perm.append_left m (List.Perm.append_left w List.perm_append_comm)
end Go.Proofs
namespace Go.Fw
open Go
theorem HS.head {w0 w : World} {M : List Nat} {A T : List (Nat × Obj)} {ro : List Sg} (h : HS w0 M (A ++ T) ro w) : HS w0 M A ro w := h.drop (List.sublist_append_left A T)
theorem v_lookupS {P : Program} {e : EnvL} {w : World} {dst : Option Nat} {ty : TypeId} {pos : String} {after : Array Edge} {g : Option (Nat × Bool)} {t K E : TypeId} {κ : IntKind} {x i : Operand} {bm : Nat} {k : Int} {l : List (Int × Value)} {z v : Value} (hu : (underlying t).run P w = .ok (.map K E) w) (hk : (underlying K).run P w = .ok (.int κ) w) (hz : (zeroValue E).run P w = .ok z w)
    (hv : mget l k = some v) (hx : ev e x = some (.map (some bm))) (hi : ev e i = some (.int .i64 k)) (hm : w.heap[bm]? = some (mobj l)) : Val P e w ⟨dst, .lookup t x i false, ty, pos, after, g⟩ v := by
  have := v_lookup (P := P) (dst := dst) (ty := ty) (pos := pos) (after := after) (g := g) hu hk hz hx hi hm
  rw [hv] at this
  exact this
end Go.Fw
namespace Go.Fw
open Go
theorem g_makeInts {n : Nat} {ds : List Deferred} {e : EnvL} {P : Program} {r : Option Nat} {Q : Exit → Act → World → Prop} {ops : Array Oper} {w0 : World} {M : List Nat} {own : List (Nat × Obj)} {ro : List Sg} {rest : List Oper} {d : Nat} {t E : TypeId} {l c : Nat} {x y : Operand} {k1 k2 : IntKind} {m1 m2 : Int} {ty : TypeId} {pos : String} {after : Array Edge}
    (ht : P.underlying t = some (.slice E)) (hi : (P.info? E).map (fun i => (i.zero, i.size, i.bytes)) = some (some (.int .i64 0), 1, 8)) (hx : ev e x = some (.int k1 m1)) (hy : ev e y = some (.int k2 m2)) (h1 : m1 = (l : Int)) (h2 : m2 = (c : Int)) (hlc : l ≤ c) (hc : c ≤ 1000000) (hn : Nat.blt d n = true)
    (h : ∀ b, w0.heap.size ≤ b → G n ds ((d, slv (some (b, 0)) l c) :: e) (HS w0 M ((b, .cells (List.replicate c (Value.int .i64 0)).toArray E (0, 0)) :: own) ro) (wpListIn (fw r) 0 P ops Q rest)) :
    G n ds e (HS w0 M own ro) (wpListIn (fw r) 0 P ops Q (⟨some d, .makeSlice t x y, ty, pos, after, none⟩ :: rest)) := by
  obtain ⟨ii, hi1, hi2⟩ : ∃ ii, P.info? E = some ii ∧ (ii.zero, ii.size, ii.bytes) = (some (.int .i64 0), 1, 8) := by
    cases hii : P.info? E with
    | none => simp [hii] at hi
    | some ii => exact ⟨ii, rfl, by simpa [hii] using hi⟩
  simp only [Prod.mk.injEq] at hi2
  obtain ⟨h3, h4, h5⟩ := hi2
  refine g_makeSlice (l := l) (c := c) ht hi1 h3 h4 h5 hx hy h1 h2 hlc (by omega) (by omega) hn (fun b hb => ?_)
  rw [Go.Proofs.made_int]
  exact h b hb
/-- the first of a queue -/
theorem HS.qcell {w0 w : World} {M : List Nat} {own : List (Nat × Obj)} {ro : List Sg} (h : HS w0 M own ro w) (i : Nat) {q : Nat × Nat} {len cap : Nat} {pre xs sp : List Value} {x : Value} {E : TypeId} (hi : own[i]? = some (q.1, .cells (pre ++ (x :: xs) ++ sp).toArray E (0, 0))) (hq : QOK len cap pre (x :: xs) sp q) : w.cell? ⟨q.1, q.2 + 0, none⟩ = some x := by
  have ho : q.2 = pre.length := by have h7 := hq.hoff; have h8 := hq.hcap; simp at h8; omega
  have := segOK.at (segOK.of_block (h.get i hi)) (j := q.2 + 0) (v := x) (by
    show (pre ++ (x :: xs) ++ sp)[q.2 + 0]? = some x
    rw [List.append_assoc, List.getElem?_append_right (by omega), ho]; simp)
  rwa [Nat.zero_add] at this
end Go.Fw
namespace Go.Proofs
open Go Go.Fw Go.Pl
structure WG where
  W : List WV
  xs : List Int
  n : Nat
  q : Nat × Nat
  cap : Nat
  pre : List Value
  sp : List Value
structure WGk (c : Nat) (V : List (Int × List Int)) (g : WG) : Prop where
  pj : wproj g.W = V
  ok : ∀ e, e ∈ g.W → e.ok
  xs : g.xs = (g.W.map (·.key)).drop c
  qok : QOK g.n g.cap g.pre (ints g.xs) g.sp g.q
theorem qcells {pre sp : List Value} {x : Int} {xs : List Int} : pre ++ ints (x :: xs) ++ sp = (pre ++ [.int .i64 x]) ++ ints xs ++ sp := by simp [ints]
end Go.Proofs
namespace Go.Proofs
open Go Go.Fw Go.Pl
theorem drop_cons {W : List WV} {x : Int} {xs : List Int} {c : Nat} (h : x :: xs = (W.map (·.key)).drop c) : ∃ e, W[c]? = some e ∧ e.key = x := by
  have h1 : ((W.map (·.key)).drop c)[0]? = some x := by rw [← h]; rfl
  rw [List.getElem?_drop, Nat.add_zero, List.getElem?_map] at h1
  cases he : W[c]? with
  | none => rw [he] at h1; simp at h1
  | some e => rw [he] at h1; simp at h1; exact ⟨e, rfl, h1⟩
theorem drop_tail {W : List WV} {x : Int} {xs : List Int} {c : Nat} (h : x :: xs = (W.map (·.key)).drop c) : xs = (W.map (·.key)).drop (c + 1) := by
  have := congrArg List.tail h
  simpa [List.tail_drop] using this
theorem wproj_at {W : List WV} {c : Nat} {e : WV} {x : Int} (h : W[c]? = some e) (hk : e.key = x) : (wproj W)[c]? = some (x, e.way) := by
  simp [wproj, h, hk]
theorem wproj_getD {W : List WV} {c : Nat} {e : WV} (h : W[c]? = some e) : (wproj W).getD c default = (e.key, e.way) := by
  rw [List.getD_eq_getElem?_getD, wproj_at h rfl]; rfl
theorem wproj_get {W : List WV} {c : Nat} {x : Int} {way : List Int} (h : (wproj W)[c]? = some (x, way)) : ∃ e, W[c]? = some e ∧ e.key = x ∧ e.way = way := by
  simp only [wproj, List.getElem?_map] at h
  cases he : W[c]? with
  | none => rw [he] at h; simp at h
  | some e => rw [he] at h; simp at h; exact ⟨e, rfl, h.1, h.2⟩
theorem sea_key {s : Sands} {V : List (Int × List Int)} {q : Int} (h : WInv s V) (hk : hasKey V q = false) : q ≠ -1 := by
  rintro rfl
  obtain ⟨r, rfl⟩ := h.sea
  simp [hasKey] at hk
theorem perm_swap {α : Type} {A B C : List α} : (A ++ (B ++ C)).Perm (B ++ (A ++ C)) := by
  rw [← List.append_assoc, ← List.append_assoc]; exact List.perm_append_comm.append_right C
end Go.Proofs

namespace Go.Proofs
open Go Go.Fw Go.Pl
set_option linter.unusedVariables false
set_option maxRecDepth 100000 in
theorem inf3 : (Try.prog.info? 3).map (fun i => (i.zero, i.size, i.bytes)) = some (some (.int .i64 0), 1, 8) := by kernel_rfl
set_option maxRecDepth 100000 in
theorem infs3 : (Try.prog.info? 3).map (·.size) = some 1 := by kernel_rfl
set_option maxRecDepth 100000 in
theorem c_ways (L : LS) (bd : Nat) (gt : List Int) (fv : FuncId) (fst cp : Array Value) (may : Int → Int → Bool) (w : World) (hL : L.OK w) (hG : Good L.S) (hd : segOK w (bd, 0, L.cells ++ ints gt)) (hcall : ∀ a w, (callFunc fv a).run Try.prog w = .ok (.enter fv a) w) (hf : ∀ w', Ext [] w w' → ∀ (k : Nat) (q : Int), k < L.S.sills.length → (0 ≤ q ∧ q < L.S.floors.length) → Ret Try.prog fv (fst.toList ++ [.int .i64 (k : Nat), .int .i64 q] ++ cp.toList) w' (.bool (may k q))) : Calls Try.prog 124 #[ptr bd 0, .func (.func fv) fst cp] w (fun en w' => ∃ (bm : Nat) (W : List WV), en = .returned (.map (some bm)) ∧ wproj W = waysF L.S may ∧ (∀ e, e ∈ W → e.ok) ∧ Fresh w w' ((bm, mobj (mlist W)) :: wown W)) := by
  have hlt := hL.tl
  have hlf := hL.fl
  have hls := hL.sl
  have hfl8 := hG.fl
  have hsl16 := hG.sl
  refine g_enterM (args := [ptr bd 0, .func (.func fv) fst cp]) Try.func124 rfl Try.ntmps124 rfl (e := [(0, _), (1, _)]) rfl (HS.start w [] ((bd, 0, L.cells ++ ints gt) :: L.segs) (segsC hd hL.segs)) ?_
  refine g_seq ?_
  refine g_region ?_
  refine g_box rfl rfl (fun bmay hbmay => ?_)
  refine g_val rfl rfl rfl (fun _ _ => v_assign rfl) ?_
  refine g_nil ?_
  refine g_n_then ?_
  refine g_seq ?_
  refine g_region ?_
  refine g_makeMap rfl (fun bm hbm => ?_)
  refine g_insert (own' := (_ :: _)) 0 (fun w => Try.runUnderlying170 w) (fun w => Try.runUnderlying3 w) rfl rfl rfl rfl rfl ?_
  refine g_val rfl rfl rfl (fun _ _ => v_move rfl) ?_
  refine g_alloc (fun w => Try.zeroValue170 w) rfl (fun bmp hbmp => ?_)
  refine g_store1 (own' := (_ :: _)) 0 (fun w => Try.sizeOf170 w) rfl rfl rfl rfl rfl ?_
  refine g_nil ?_
  refine g_n_then ?_
  refine g_seq ?_
  refine g_region ?_
  refine g_buildSlice (vs := [(0, _)]) (cells := [_]) (fun w => Try.runUnderlying26 w) (fun w => Try.sizeOf3 w) (fun w => Try.zeroValue3 w) rfl rfl rfl rfl rfl (fun bqc hbqc => ?_)
  refine g_alloc (fun w => Try.zeroValue26 w) rfl (fun bq hbq => ?_)
  refine g_store1 (own' := (_ :: _)) 0 (fun w => Try.sizeOf26 w) rfl rfl rfl rfl rfl ?_
  refine g_nil ?_
  refine g_n_then ?_
  refine g_seq ?_
  refine g_block ?_
  refine g_sub (e' := [(0, _), (3, _), (5, _), (6, _)]) ((.cons rfl (.cons rfl (.cons rfl (.cons rfl .nil))))) ?_
  refine g_pick (own' := [_, _, _, _, _]) [0, 1, 3, 2, 4] (by decide) rfl ?_
  refine g_loopDV (ι := Nat × List Nat × WG) (ofix := [_, _]) (fun (c, Ds, g) => []) (fun (c, Ds, g) => [(bq, .cells #[slv (some g.q) g.n g.cap] 26 (0, 0)), (g.q.1, .cells (g.pre ++ ints g.xs ++ g.sp).toArray 3 (0, 0)), (bm, mobj (mlist g.W))]) (fun (c, Ds, g) => marks Ds ++ wown g.W) (fun (c, Ds, g) => c ≤ 9 ∧ WGk c (waysN L.S may c) g) (fun (c, Ds, g) => 9 - c) (fun (c, Ds, g) => Ds.map Go.Fw.mark) (0, [], ⟨[sea0], [-1], 1, (bqc, 0), 1, [], []⟩) (⟨Nat.zero_le _, rfl, fun e he => by simp at he; subst he; exact VOK.nil, rfl, ⟨rfl, rfl, by simp [maxLen], .inr rfl⟩⟩) ?_
  intro ⟨c, Ds, ⟨W, xs, n, q, cap, pre, sp⟩⟩ hI0
  simp only at hI0
  refine g_seq ?_
  refine g_seq ?_
  refine g_region ?_
  refine g_val rfl rfl rfl (fun w hh => v_load (Try.isAgg26 w) rfl (hh.cell 0 rfl rfl)) ?_
  refine g_val rfl rfl rfl (fun w _ => v_lenS (Try.runUnderlying26 w) rfl) ?_
  refine g_val rfl rfl rfl (fun _ _ => v_gtr rfl rfl) ?_
  refine g_nil ?_
  refine g_n_then ?_
  refine g_cond rfl (fun h18 => ?_) (fun h18 => ?_)
  · replace h18 := of_decide_eq_true h18
    simp only at h18
    have hnx := hI0.2.qok.hlen
    rw [ints_length] at hnx
    simp only at hnx
    cases xs with
    | nil => simp at hnx; omega
    | cons x xs => ?_
    have hxs := hI0.2.xs
    simp only at hxs
    obtain ⟨ew, hew, hkx⟩ := drop_cons hxs
    have hV := waysN_inv (may := may) hG c
    have hpj := hI0.2.pj
    simp only at hpj
    have hcl : c < W.length := (List.getElem?_eq_some_iff.1 hew).1
    have hwl : (waysN L.S may c).length = W.length := by rw [← hpj, wproj_length]
    have hln := hV.len
    have heok := hI0.2.ok ew (List.mem_of_getElem? hew)
    have hgd : (waysN L.S may c).getD c default = (x, ew.way) := by rw [← hpj, wproj_getD hew, hkx]
    refine g_skip ?_
    refine g_n_then ?_
    refine g_block ?_
    refine g_seq ?_
    refine g_region ?_
    refine g_val rfl rfl rfl (fun w hh => v_load (Try.isAgg26 w) rfl (hh.cell 0 rfl rfl)) ?_
    refine g_val rfl rfl rfl (fun w _ => v_indexAddr1 0 (Try.runUnderlying26 w) (Try.sizeOf3 w) rfl rfl rfl (by simp only; omega) (by simp)) ?_
    refine g_val rfl rfl rfl (fun w hh => v_load (Try.isAgg3 w) rfl (hh.qcell 1 rfl hI0.2.qok)) ?_
    refine g_alloc (fun w => Try.zeroValue3 w) rfl (fun bp hbp => ?_)
    refine g_store1 (own' := (_ :: _)) 0 (fun w => Try.sizeOf3 w) rfl rfl rfl rfl rfl ?_
    refine g_nil ?_
    refine g_n_then ?_
    refine g_seq ?_
    refine g_region ?_
    refine g_val rfl rfl rfl (fun w hh => v_load (Try.isAgg26 w) rfl (hh.cell 1 rfl rfl)) ?_
    refine g_val rfl rfl rfl (fun w _ => v_sliceTail (Try.runUnderlying26 w) (Try.sizeOf3 w) rfl (by simp only; omega)) ?_
    refine g_store1 (own' := (_ :: _ :: _)) 1 (fun w => Try.sizeOf26 w) rfl rfl rfl rfl rfl ?_
    rw [qcells]
    refine g_nil ?_
    refine g_n_then ?_
    refine g_seq ?_
    refine g_region ?_
    refine g_val rfl rfl rfl (fun _ _ => v_move rfl) ?_
    refine g_val rfl rfl rfl (fun w hh => v_load (Try.isAgg3 w) rfl (hh.cell 0 rfl rfl)) ?_
    refine g_callF (ι := Nat × Nat) (L := fun i => [(i.2, .cells #[.int .i64 x] 3 (0, 0)), (i.1, .cells #[ptr bd 0] 139 (0, 0))]) (ret := fun i => .func (.func 166) #[] #[ptr i.1 0, ptr i.2 0]) rfl rfl rfl rfl rfl rfl rfl (fun a w => Try.call160 a w) (fun w hh => (c_from _ _ w).mono (by rintro en w' ⟨b2, b3, rfl, hF⟩; exact ⟨(b2, b3), rfl, hF⟩)) ?_
    rintro ⟨f2, f3⟩
    refine g_nil ?_
    refine g_n_then ?_
    refine g_block ?_
    refine g_sub (e' := [(0, _), (3, _), (5, _), (6, _), (7, _), (26, _)]) ((.cons rfl (.cons rfl (.cons rfl (.cons rfl (.cons rfl (.cons rfl .nil))))))) ?_
    refine g_rangeFunc2 (ι := WG) (own' := fun g => [(f3, .cells #[.int .i64 x] 3 (0, 0)), (f2, .cells #[ptr bd 0] 139 (0, 0)), (bp, .cells #[.int .i64 x] 3 (0, 0)), (bq, .cells #[slv (some g.q) g.n g.cap] 26 (0, 0)), (g.q.1, .cells (g.pre ++ ints g.xs ++ g.sp).toArray 3 (0, 0)), (bm, mobj (mlist g.W)), (bmp, .cells #[.map (some bm)] 170 (0, 0)), (bmay, .cells #[.func (.func fv) fst cp] 172 (0, 0))] ++ (marks Ds ++ wown g.W)) (p := fun g => WGk (c + 1) (procN L.S may (waysN L.S may c) c L.S.sills.length) g) rfl (fun a w => Try.call166 a w) rfl (fun D l rec hD hround w1 hh1 => ?_) (fun g D hp hD => ?_)
    · have hh2 := hh1.swap (A := [_, _]) (B := [_, _])
      have hy : ∀ (V : List (Int × List Int)) (k : Nat) (qq : Int) (g : WG) (X : List (Nat × Obj)) (w2 : World), k < L.S.sills.length → -1 ≤ qq → qq < L.S.floors.length → WInv L.S V → V[c]? = some (x, ew.way) → WGk (c + 1) V g → HS w [] (([(l, rec .ready), (D, .deferred (some [])), (bp, .cells #[.int .i64 x] 3 (0, 0)), (bq, .cells #[slv (some g.q) g.n g.cap] 26 (0, 0)), (g.q.1, .cells (g.pre ++ ints g.xs ++ g.sp).toArray 3 (0, 0)), (bm, mobj (mlist g.W)), (bmp, .cells #[.map (some bm)] 170 (0, 0)), (bmay, .cells #[.func (.func fv) fst cp] 172 (0, 0))] ++ (marks Ds ++ wown g.W)) ++ X) ((bd, 0, L.cells ++ ints gt) :: L.segs) w2 → YieldOK Try.prog l [.int .i64 (k : Nat), .int .i64 qq] w2 (fun en w' => en = .returned (.bool true) ∧ ∃ g' : WG, WGk (c + 1) (tryAdd may ew.way V k qq) g' ∧ HS w [] (([(l, rec .ready), (D, .deferred (some [])), (bp, .cells #[.int .i64 x] 3 (0, 0)), (bq, .cells #[slv (some g'.q) g'.n g'.cap] 26 (0, 0)), (g'.q.1, .cells (g'.pre ++ ints g'.xs ++ g'.sp).toArray 3 (0, 0)), (bm, mobj (mlist g'.W)), (bmp, .cells #[.map (some bm)] 170 (0, 0)), (bmay, .cells #[.func (.func fv) fst cp] 172 (0, 0))] ++ (marks Ds ++ wown g'.W)) ++ X) ((bd, 0, L.cells ++ ints gt) :: L.segs) w') := by
        intro V k qq ⟨W, xs, n, q, cap, pre, sp⟩ X w2 hk hq0 hq1 hVI hVc hgk hh3
        have hVl := hVI.len
        have hpjW := hgk.pj
        simp only at hpjW hh3
        have hWl : W.length = V.length := by rw [← hpjW, wproj_length]
        have hnd := hVI.nd
        rw [← hpjW] at hnd
        rw [← hpjW] at hVc
        obtain ⟨e, he, hek, hew'⟩ := wproj_get hVc
        have hcW : c < W.length := (List.getElem?_eq_some_iff.1 he).1
        have hme := mget_at hnd he
        rw [hek] at hme
        have heo := hgk.ok e (List.mem_of_getElem? he)
        have hel : e.way.length ≤ c := by have := hVI.wl c (x, ew.way) (by rw [← hpjW]; exact hVc); rw [hew']; exact this
        have hqok := hgk.qok
        have hnx := hqok.hlen
        rw [ints_length] at hnx
        have hgx := hgk.xs
        simp only at hqok hnx hgx heo
        have hxl : n ≤ 9 := by rw [← hnx, hgx]; simp; omega
        refine hround (e1 := [(9, .int .i64 qq), (8, .int .i64 (k : Nat)), (28, .int .i64 qq), (27, .int .i64 (k : Nat)), (0, ptr bd 0), (3, ptr bmay 0), (5, ptr bmp 0), (6, ptr bq 0), (7, ptr bp 0), (26, .func (.func 166) #[] #[ptr f2 0, ptr f3 0])]) 0 hh3 rfl rfl rfl rfl (fun X1 hX => ?_) ?_
        · refine g_seq ?_
          refine g_region ?_
          refine g_val rfl rfl rfl (fun _ _ => v_assign rfl) ?_
          refine g_nil ?_
          refine g_n_then ?_
          refine g_region ?_
          refine g_val rfl rfl rfl (fun _ _ => v_assign rfl) ?_
          refine g_nil ?_
          exact hX
        · refine g_block ?_
          refine g_seq ?_
          refine g_region ?_
          refine g_val rfl rfl rfl (fun w hh => v_load (Try.isAgg170 w) rfl (hh.cell 6 rfl rfl)) ?_
          refine g_val rfl rfl rfl (fun _ _ => v_move rfl) ?_
          refine g_val rfl rfl rfl (fun w hh => v_lookup2 (Try.runUnderlying170 w) (Try.runUnderlying3 w) (Try.zeroValue26 w) rfl rfl (hh.get 5 rfl)) ?_
          refine g_val rfl rfl rfl (fun _ _ => v_move rfl) ?_
          refine g_val rfl rfl rfl (fun _ _ => v_extract rfl rfl) ?_
          refine g_val rfl rfl rfl (fun _ _ => v_extract rfl rfl) ?_
          refine g_val rfl rfl rfl (fun _ _ => v_assign rfl) ?_
          refine g_val rfl rfl rfl (fun _ _ => v_assign rfl) ?_
          refine g_nil ?_
          refine g_n_then ?_
          refine g_seq ?_
          refine g_region ?_
          refine g_val rfl rfl rfl (fun _ _ => v_move rfl) ?_
          refine g_val rfl rfl rfl (fun _ _ => v_not rfl) ?_
          refine g_val rfl rfl rfl (fun _ _ => v_move rfl) ?_
          refine g_case 37 rfl (fun hkey => ?_) (fun hkey => ?_)
          · replace hkey := of_not_true hkey
            rw [mget_isSome, hpjW] at hkey
            have hqp : 0 ≤ qq := by have := sea_key hVI hkey; omega
            refine g_valG rfl rfl rfl rfl rfl (fun w hh => v_load (Try.isAgg172 w) rfl (hh.cell 7 rfl rfl)) ?_
            refine g_valG rfl rfl rfl rfl rfl (fun _ _ => v_move rfl) ?_
            refine g_valG rfl rfl rfl rfl rfl (fun _ _ => v_move rfl) ?_
            refine g_callvG rfl rfl rfl rfl rfl rfl rfl rfl rfl hcall (fun w hh => hf w hh.toExt k qq hk ⟨hqp, hq1⟩) ?_
            refine g_val rfl rfl rfl (fun _ _ => v_pickT rfl rfl) ?_
            refine g_nil ?_
            refine g_n_then ?_
            refine g_cond rfl (fun hmay => ?_) (fun hmay => ?_)
            · refine g_seq ?_
              refine g_region ?_
              refine g_val rfl rfl rfl (fun w hh => v_load (Try.isAgg170 w) rfl (hh.cell 6 rfl rfl)) ?_
              refine g_val rfl rfl rfl (fun w hh => v_load (Try.isAgg3 w) rfl (hh.cell 2 rfl rfl)) ?_
              refine g_val rfl rfl rfl (fun w hh => v_lookupS (Try.runUnderlying170 w) (Try.runUnderlying3 w) (Try.zeroValue26 w) hme rfl rfl (hh.get 5 rfl)) ?_
              refine g_val rfl rfl rfl (fun w _ => v_lenS (Try.runUnderlying26 w) rfl) ?_
              refine g_val rfl rfl rfl (fun w hh => v_load (Try.isAgg170 w) rfl (hh.cell 6 rfl rfl)) ?_
              refine g_val rfl rfl rfl (fun w hh => v_load (Try.isAgg3 w) rfl (hh.cell 2 rfl rfl)) ?_
              refine g_val rfl rfl rfl (fun w hh => v_lookupS (Try.runUnderlying170 w) (Try.runUnderlying3 w) (Try.zeroValue26 w) hme rfl rfl (hh.get 5 rfl)) ?_
              refine g_val rfl rfl rfl (fun w _ => v_lenS (Try.runUnderlying26 w) rfl) ?_
              refine g_val rfl rfl rfl (fun _ _ => v_add rfl rfl (wrap_i64 (by omega))) ?_
              refine g_makeInts (l := e.way.length) (c := e.way.length + 1) Try.underlying26 inf3 rfl rfl rfl (by omega) (by omega) (by omega) rfl (fun bw hbw => ?_)
              refine g_perm (List.perm_middle (l₁ := [_, _, _, _, _, _, _, _])).symm ?_
              have hvw : VOK 1 e.way.length (e.way.length + 1) (ints e.way) ((List.replicate (e.way.length + 1) (Value.int .i64 0)).drop e.way.length) (some (bw, 0)) := ⟨by simp [ints_length], by simp [ints_length], by omega, by simp only [maxLen]; omega, by simp, by simp⟩
              refine g_val rfl rfl rfl (fun _ _ => v_assign rfl) ?_
              refine g_nil ?_
              refine g_n_then ?_
              refine g_seq ?_
              refine g_region ?_
              refine g_val rfl rfl rfl (fun _ _ => v_move rfl) ?_
              refine g_val rfl rfl rfl (fun w hh => v_load (Try.isAgg170 w) rfl (hh.cell 6 rfl rfl)) ?_
              refine g_val rfl rfl rfl (fun w hh => v_load (Try.isAgg3 w) rfl (hh.cell 2 rfl rfl)) ?_
              refine g_val rfl rfl rfl (fun w hh => v_lookupS (Try.runUnderlying170 w) (Try.runUnderlying3 w) (Try.zeroValue26 w) hme rfl rfl (hh.get 5 rfl)) ?_
              refine g_copy (own' := [_, _, _, _, _, _, _, _] ++ (vown 3 (ints e.way) ((List.replicate (e.way.length + 1) (Value.int .i64 0)).drop e.way.length) (some (bw, 0)) ++ ((marks Ds ++ wown W) ++ X))) 8 Try.underlying26 infs3 rfl rfl rfl ints_length (by simp) (fun h0 hq => by have := (heo.hnone hq).1; omega) (fun w hh => vown_seg (E := 3) hh (fun p hp => List.mem_append_right [_, _, _, _, _, _, _, _] (List.mem_cons_of_mem _ (show p ∈ (marks Ds ++ wown W) ++ X from List.mem_append_left _ (List.mem_append_right _ (mem_wown (List.mem_of_getElem? he) p hp))))) heo.hoff heo.noneNil) ones_ints rfl rfl ?_
              refine g_nil ?_
              refine g_n_then ?_
              refine g_draw (some 13) (.hoist 0 (.free 1 (.free 2 (.free 3 (.hoist 6 (.free 7 (.br (.alt 4 (.br (.alt 5 (.one 8 (.one 9 (.one 10 (.free 11 (.one 12 (.last 13 .done)))))) (.alt 8 (.one 5 (.one 9 (.one 10 (.free 11 (.one 12 (.last 13 .done)))))) .nil))) (.alt 8 (.one 4 (.one 5 (.one 9 (.one 10 (.free 11 (.one 12 (.last 13 .done))))))) .nil))))))))) (HS _ _ [_, _] _) rfl (by decide +kernel) (fun w k hh => hh.draw k) (fun w hh => (hh.head (A := [_, _, _, _, _, _, _, _])).pick [3, 6] (by decide) rfl) ?_
              refine p_hoist rfl rfl rfl rfl (fun w hh => v_load (Try.isAgg170 w) rfl (hh.cell 1 rfl rfl)) ?_
              refine p_free rfl rfl rfl rfl (fun _ _ => v_move rfl) ?_
              refine p_free rfl rfl rfl rfl (fun _ _ => v_move rfl) ?_
              refine p_free rfl rfl rfl rfl (fun _ _ => v_move rfl) ?_
              refine p_hoist rfl rfl rfl rfl (fun w hh => v_load (Try.isAgg26 w) rfl (hh.cell 0 rfl rfl)) ?_
              refine p_free rfl rfl rfl rfl (fun _ _ => v_move rfl) ?_
              refine p_br ?_
              refine p_alt rfl ?_ ?_
              · refine g_buildSlice (vs := [(0, _)]) (cells := [_]) (fun w => Try.runUnderlying26 w) (fun w => Try.sizeOf3 w) (fun w => Try.zeroValue3 w) rfl rfl rfl rfl rfl (fun b1 hb1 => ?_)
                refine p_next (fun w hh => (hh.head (A := [_, _, _, _, _, _, _, _, _])).pick [4, 7] (by decide) rfl) ?_
                refine p_br ?_
                refine p_alt rfl ?_ ?_
                · refine g_appendM [_, _, _, _, _, _, _, _, _] (news := [_]) (xs := ints e.way) (sp := (List.replicate (e.way.length + 1) (Value.int .i64 0)).drop e.way.length) (q := some (bw, 0)) Try.underlying26 inf3 rfl rfl rfl hvw (by simp) (by decide) rfl (fun w hh => hh.ownSeg 0 rfl) (ones_all rfl) (by simp only [maxLen]; omega) (by omega) rfl (fun q2 cap3 sp4 hva => ?_)
                  rw [ints_snoc] at hva ⊢
                  refine p_next (fun w hh => (hh.head (A := [_, _, _, _, _, _, _, _, _])).pick [4, 7] (by decide) rfl) ?_
                  refine p_one rfl ?_
                  refine g_buildSlice (vs := [(0, _)]) (cells := [_]) (fun w => Try.runUnderlying26 w) (fun w => Try.sizeOf3 w) (fun w => Try.zeroValue3 w) rfl rfl rfl rfl rfl (fun b5 hb5 => ?_)
                  refine p_next (fun w hh => (hh.head (A := [_, _, _, _, _, _, _, _, _, _])).pick [5, 8] (by decide) rfl) ?_
                  refine p_one rfl ?_
                  refine g_appendP (pre := pre) (xs := ints xs) (sp := sp) (q := q) 6 Try.underlying26 inf3 rfl rfl rfl rfl hqok (fun w hh => hh.ownSeg 0 rfl) rfl (by simp only [maxLen]; omega) (by omega) rfl (fun q6 cap7 pre8 sp9 hqa => ?_)
                  rw [ints_snoc] at hqa ⊢
                  refine p_next (fun w hh => (hh.head (A := [_, _, _, _, _, _, _, _, _, _])).pick [5, 8] (by decide) rfl) ?_
                  refine p_one rfl ?_
                  refine g_mapEntry (own' := (_ :: _ :: _ :: _ :: _ :: _ :: _ :: _ :: _ :: _ :: _)) 7 (fun w => Try.runUnderlying170 w) (fun w => Try.runUnderlying3 w) (fun w => Try.zeroValue26 w) rfl rfl (mget_none (by rw [hpjW]; exact hkey)) rfl rfl rfl ?_
                  refine p_next (fun w hh => (hh.head (A := [_, _, _, _, _, _, _, _, _, _])).pick [5, 8] (by decide) rfl) ?_
                  refine p_free rfl rfl rfl rfl (fun _ _ => v_extract rfl rfl) ?_
                  refine p_one rfl ?_
                  refine g_entryStore (own' := (_ :: _ :: _ :: _ :: _ :: _ :: _ :: _ :: _ :: _ :: _)) 7 rfl rfl rfl rfl rfl ?_
                  refine p_next (fun w hh => (hh.head (A := [_, _, _, _, _, _, _, _, _, _])).pick [5, 8] (by decide) rfl) ?_
                  refine p_last rfl ?_
                  refine g_store1 (own' := (_ :: _ :: _ :: _ :: _ :: _ :: _ :: _ :: _ :: _ :: _)) 5 (fun w => Try.sizeOf26 w) rfl rfl rfl rfl rfl ?_
                  refine p_nextL ?_
                  refine p_done ?_
                  refine g_n_blk ?_
                  refine g_roundQ (i := 0) (k := 2) rfl rfl rfl (fun w2 h2 => ⟨rfl, ⟨W ++ [⟨qq, e.way ++ [(k : Int)], some q2, cap3, sp4⟩], xs ++ [qq], n + 1, q6, cap7, pre8, sp9⟩, ⟨?_, ?_, ?_, hqa⟩, ?_⟩)
                  · simp only [wproj_snoc, hpjW, tryAdd, hkey, hmay, Bool.false_eq_true, if_false, if_true, hew']
                  · intro e' he'
                    rcases List.mem_append.1 he' with h | h
                    · exact hgk.ok e' h
                    · simp only [List.mem_singleton] at h
                      subst h
                      simpa [WV.ok] using hva
                  · simp only [hgx, List.map_append, List.map_cons, List.map_nil]
                    rw [List.drop_append_of_le_length (by simp; omega)]
                  · have h3 := h2.perm (perm_end (A := [_, _, _, _, _, _, _, _]) (m := marks Ds) (w := wown W) (V := vown 3 (ints (e.way ++ [(k : Int)])) sp4 (some q2)) (X := X))
                    have e1 : wown (W ++ [(⟨qq, e.way ++ [(k : Int)], some q2, cap3, sp4⟩ : WV)]) = wown W ++ vown 3 (ints (e.way ++ [(k : Int)])) sp4 (some q2) := wown_snoc
                    have e2 : mlist (W ++ [(⟨qq, e.way ++ [(k : Int)], some q2, cap3, sp4⟩ : WV)]) = mlist W ++ [(qq, slv (some q2) (e.way.length + 1) cap3)] := by rw [mlist_snoc]; simp
                    simp only [e1, e2]
                    exact h3
                refine p_alt rfl ?_ ?_
                · refine g_buildSlice (vs := [(0, _)]) (cells := [_]) (fun w => Try.runUnderlying26 w) (fun w => Try.sizeOf3 w) (fun w => Try.zeroValue3 w) rfl rfl rfl rfl rfl (fun b10 hb10 => ?_)
                  refine p_next (fun w hh => (hh.head (A := [_, _, _, _, _, _, _, _, _, _])).pick [5, 8] (by decide) rfl) ?_
                  refine p_one rfl ?_
                  refine g_appendM [_, _, _, _, _, _, _, _, _, _] (news := [_]) (xs := ints e.way) (sp := (List.replicate (e.way.length + 1) (Value.int .i64 0)).drop e.way.length) (q := some (bw, 0)) Try.underlying26 inf3 rfl rfl rfl hvw (by simp) (by decide) rfl (fun w hh => hh.ownSeg 1 rfl) (ones_all rfl) (by simp only [maxLen]; omega) (by omega) rfl (fun q11 cap12 sp13 hva => ?_)
                  rw [ints_snoc] at hva ⊢
                  refine p_next (fun w hh => (hh.head (A := [_, _, _, _, _, _, _, _, _, _])).pick [5, 8] (by decide) rfl) ?_
                  refine p_one rfl ?_
                  refine g_appendP (pre := pre) (xs := ints xs) (sp := sp) (q := q) 6 Try.underlying26 inf3 rfl rfl rfl rfl hqok (fun w hh => hh.ownSeg 0 rfl) rfl (by simp only [maxLen]; omega) (by omega) rfl (fun q14 cap15 pre16 sp17 hqa => ?_)
                  rw [ints_snoc] at hqa ⊢
                  refine p_next (fun w hh => (hh.head (A := [_, _, _, _, _, _, _, _, _, _])).pick [5, 8] (by decide) rfl) ?_
                  refine p_one rfl ?_
                  refine g_mapEntry (own' := (_ :: _ :: _ :: _ :: _ :: _ :: _ :: _ :: _ :: _ :: _)) 7 (fun w => Try.runUnderlying170 w) (fun w => Try.runUnderlying3 w) (fun w => Try.zeroValue26 w) rfl rfl (mget_none (by rw [hpjW]; exact hkey)) rfl rfl rfl ?_
                  refine p_next (fun w hh => (hh.head (A := [_, _, _, _, _, _, _, _, _, _])).pick [5, 8] (by decide) rfl) ?_
                  refine p_free rfl rfl rfl rfl (fun _ _ => v_extract rfl rfl) ?_
                  refine p_one rfl ?_
                  refine g_entryStore (own' := (_ :: _ :: _ :: _ :: _ :: _ :: _ :: _ :: _ :: _ :: _)) 7 rfl rfl rfl rfl rfl ?_
                  refine p_next (fun w hh => (hh.head (A := [_, _, _, _, _, _, _, _, _, _])).pick [5, 8] (by decide) rfl) ?_
                  refine p_last rfl ?_
                  refine g_store1 (own' := (_ :: _ :: _ :: _ :: _ :: _ :: _ :: _ :: _ :: _ :: _)) 5 (fun w => Try.sizeOf26 w) rfl rfl rfl rfl rfl ?_
                  refine p_nextL ?_
                  refine p_done ?_
                  refine g_n_blk ?_
                  refine g_roundQ (i := 0) (k := 2) rfl rfl rfl (fun w2 h2 => ⟨rfl, ⟨W ++ [⟨qq, e.way ++ [(k : Int)], some q11, cap12, sp13⟩], xs ++ [qq], n + 1, q14, cap15, pre16, sp17⟩, ⟨?_, ?_, ?_, hqa⟩, ?_⟩)
                  · simp only [wproj_snoc, hpjW, tryAdd, hkey, hmay, Bool.false_eq_true, if_false, if_true, hew']
                  · intro e' he'
                    rcases List.mem_append.1 he' with h | h
                    · exact hgk.ok e' h
                    · simp only [List.mem_singleton] at h
                      subst h
                      simpa [WV.ok] using hva
                  · simp only [hgx, List.map_append, List.map_cons, List.map_nil]
                    rw [List.drop_append_of_le_length (by simp; omega)]
                  · have h3 := h2.perm (perm_end (A := [_, _, _, _, _, _, _, _]) (m := marks Ds) (w := wown W) (V := vown 3 (ints (e.way ++ [(k : Int)])) sp13 (some q11)) (X := X))
                    have e1 : wown (W ++ [(⟨qq, e.way ++ [(k : Int)], some q11, cap12, sp13⟩ : WV)]) = wown W ++ vown 3 (ints (e.way ++ [(k : Int)])) sp13 (some q11) := wown_snoc
                    have e2 : mlist (W ++ [(⟨qq, e.way ++ [(k : Int)], some q11, cap12, sp13⟩ : WV)]) = mlist W ++ [(qq, slv (some q11) (e.way.length + 1) cap12)] := by rw [mlist_snoc]; simp
                    simp only [e1, e2]
                    exact h3
                exact p_nil
              refine p_alt rfl ?_ ?_
              · refine g_buildSlice (vs := [(0, _)]) (cells := [_]) (fun w => Try.runUnderlying26 w) (fun w => Try.sizeOf3 w) (fun w => Try.zeroValue3 w) rfl rfl rfl rfl rfl (fun b18 hb18 => ?_)
                refine p_next (fun w hh => (hh.head (A := [_, _, _, _, _, _, _, _, _])).pick [4, 7] (by decide) rfl) ?_
                refine p_one rfl ?_
                refine g_buildSlice (vs := [(0, _)]) (cells := [_]) (fun w => Try.runUnderlying26 w) (fun w => Try.sizeOf3 w) (fun w => Try.zeroValue3 w) rfl rfl rfl rfl rfl (fun b19 hb19 => ?_)
                refine p_next (fun w hh => (hh.head (A := [_, _, _, _, _, _, _, _, _, _])).pick [5, 8] (by decide) rfl) ?_
                refine p_one rfl ?_
                refine g_appendM [_, _, _, _, _, _, _, _, _, _] (news := [_]) (xs := ints e.way) (sp := (List.replicate (e.way.length + 1) (Value.int .i64 0)).drop e.way.length) (q := some (bw, 0)) Try.underlying26 inf3 rfl rfl rfl hvw (by simp) (by decide) rfl (fun w hh => hh.ownSeg 0 rfl) (ones_all rfl) (by simp only [maxLen]; omega) (by omega) rfl (fun q20 cap21 sp22 hva => ?_)
                rw [ints_snoc] at hva ⊢
                refine p_next (fun w hh => (hh.head (A := [_, _, _, _, _, _, _, _, _, _])).pick [5, 8] (by decide) rfl) ?_
                refine p_one rfl ?_
                refine g_appendP (pre := pre) (xs := ints xs) (sp := sp) (q := q) 6 Try.underlying26 inf3 rfl rfl rfl rfl hqok (fun w hh => hh.ownSeg 1 rfl) rfl (by simp only [maxLen]; omega) (by omega) rfl (fun q23 cap24 pre25 sp26 hqa => ?_)
                rw [ints_snoc] at hqa ⊢
                refine p_next (fun w hh => (hh.head (A := [_, _, _, _, _, _, _, _, _, _])).pick [5, 8] (by decide) rfl) ?_
                refine p_one rfl ?_
                refine g_mapEntry (own' := (_ :: _ :: _ :: _ :: _ :: _ :: _ :: _ :: _ :: _ :: _)) 7 (fun w => Try.runUnderlying170 w) (fun w => Try.runUnderlying3 w) (fun w => Try.zeroValue26 w) rfl rfl (mget_none (by rw [hpjW]; exact hkey)) rfl rfl rfl ?_
                refine p_next (fun w hh => (hh.head (A := [_, _, _, _, _, _, _, _, _, _])).pick [5, 8] (by decide) rfl) ?_
                refine p_free rfl rfl rfl rfl (fun _ _ => v_extract rfl rfl) ?_
                refine p_one rfl ?_
                refine g_entryStore (own' := (_ :: _ :: _ :: _ :: _ :: _ :: _ :: _ :: _ :: _ :: _)) 7 rfl rfl rfl rfl rfl ?_
                refine p_next (fun w hh => (hh.head (A := [_, _, _, _, _, _, _, _, _, _])).pick [5, 8] (by decide) rfl) ?_
                refine p_last rfl ?_
                refine g_store1 (own' := (_ :: _ :: _ :: _ :: _ :: _ :: _ :: _ :: _ :: _ :: _)) 5 (fun w => Try.sizeOf26 w) rfl rfl rfl rfl rfl ?_
                refine p_nextL ?_
                refine p_done ?_
                refine g_n_blk ?_
                refine g_roundQ (i := 0) (k := 2) rfl rfl rfl (fun w2 h2 => ⟨rfl, ⟨W ++ [⟨qq, e.way ++ [(k : Int)], some q20, cap21, sp22⟩], xs ++ [qq], n + 1, q23, cap24, pre25, sp26⟩, ⟨?_, ?_, ?_, hqa⟩, ?_⟩)
                · simp only [wproj_snoc, hpjW, tryAdd, hkey, hmay, Bool.false_eq_true, if_false, if_true, hew']
                · intro e' he'
                  rcases List.mem_append.1 he' with h | h
                  · exact hgk.ok e' h
                  · simp only [List.mem_singleton] at h
                    subst h
                    simpa [WV.ok] using hva
                · simp only [hgx, List.map_append, List.map_cons, List.map_nil]
                  rw [List.drop_append_of_le_length (by simp; omega)]
                · have h3 := h2.perm (perm_end (A := [_, _, _, _, _, _, _, _]) (m := marks Ds) (w := wown W) (V := vown 3 (ints (e.way ++ [(k : Int)])) sp22 (some q20)) (X := X))
                  have e1 : wown (W ++ [(⟨qq, e.way ++ [(k : Int)], some q20, cap21, sp22⟩ : WV)]) = wown W ++ vown 3 (ints (e.way ++ [(k : Int)])) sp22 (some q20) := wown_snoc
                  have e2 : mlist (W ++ [(⟨qq, e.way ++ [(k : Int)], some q20, cap21, sp22⟩ : WV)]) = mlist W ++ [(qq, slv (some q20) (e.way.length + 1) cap21)] := by rw [mlist_snoc]; simp
                  simp only [e1, e2]
                  exact h3
              exact p_nil
            · refine g_skip ?_
              refine g_n_blk ?_
              refine g_roundQ (i := 0) (k := 0) rfl rfl rfl (fun w2 h2 => ⟨rfl, ⟨W, xs, n, q, cap, pre, sp⟩, ?_, h2⟩)
              rw [tryAdd, if_neg (by simp [hkey]), if_neg (by simp [hmay])]; exact hgk
          · replace hkey := of_not_false hkey
            rw [mget_isSome, hpjW] at hkey
            refine g_skipG rfl rfl rfl rfl rfl rfl ?_
            refine g_skipG rfl rfl rfl rfl rfl rfl ?_
            refine g_skipG rfl rfl rfl rfl rfl rfl ?_
            refine g_skipG rfl rfl rfl rfl rfl rfl ?_
            refine g_val rfl rfl rfl (fun _ _ => v_pickF rfl rfl) ?_
            refine g_nil ?_
            refine g_n_then ?_
            refine g_condF rfl rfl ?_
            refine g_skip ?_
            refine g_n_blk ?_
            refine g_roundQ (i := 0) (k := 0) rfl rfl rfl (fun w2 h2 => ⟨rfl, ⟨W, xs, n, q, cap, pre, sp⟩, ?_, h2⟩)
            rw [tryAdd, if_pos hkey]; exact hgk
      have hh4 : HS w [] ((f3, .cells #[.int .i64 x] 3 (0, 0)) :: (f2, .cells #[ptr bd 0] 139 (0, 0)) :: ([(l, rec .ready), (D, .deferred (some [])), (bp, .cells #[.int .i64 x] 3 (0, 0)), (bq, .cells #[slv (some (q.1, if cap = 1 then q.2 else q.2 + 1)) (n - 1) (cap - 1)] 26 (0, 0)), ((q.1, if cap = 1 then q.2 else q.2 + 1).1, .cells ((pre ++ [Value.int .i64 x]) ++ ints xs ++ sp).toArray 3 (0, 0)), (bm, mobj (mlist W)), (bmp, .cells #[.map (some bm)] 170 (0, 0)), (bmay, .cells #[.func (.func fv) fst cp] 172 (0, 0))] ++ (marks Ds ++ wown W) ++ [])) ((bd, 0, L.cells ++ ints gt) :: L.segs) w1 := by rw [List.append_nil]; exact hh2
      refine (c_from1 w [] ((bd, 0, L.cells ++ ints gt) :: L.segs) (fun g => ([(l, rec .ready), (D, .deferred (some [])), (bp, .cells #[.int .i64 x] 3 (0, 0)), (bq, .cells #[slv (some g.q) g.n g.cap] 26 (0, 0)), (g.q.1, .cells (g.pre ++ ints g.xs ++ g.sp).toArray 3 (0, 0)), (bm, mobj (mlist g.W)), (bmp, .cells #[.map (some bm)] 170 (0, 0)), (bmay, .cells #[.func (.func fv) fst cp] 172 (0, 0))] ++ (marks Ds ++ wown g.W))) (fun k g => WGk (c + 1) (procN L.S may (waysN L.S may c) c k) g) l bd f2 f3 x L hL 3 rfl hG.ne ?_ ?_ ?_ ?_ ⟨W, xs, n - 1, (q.1, if cap = 1 then q.2 else q.2 + 1), cap - 1, pre ++ [Value.int .i64 x], sp⟩ ?_ w1 [] hh4).mono ?_
      · intro g X w2 hg2 hh3
        exact hh3.rcell 0 4 rfl rfl
      · intro j g hj hg2 ha hb2
        show WGk _ (procN _ _ _ _ (j + 1)) g
        rw [procN_succ, wStep, hgd, if_neg ha, if_neg hb2]
        exact hg2
      · intro j g X w2 hj hg2 ha hh3
        have hpi := procN_inv (may := may) hG hV (c := c) (by omega) (k := j) (by omega)
        obtain ⟨hpi1, r, hr⟩ := hpi
        refine (hy _ j _ g X w2 hj (hG.sb j hj).1 (hG.sb j hj).2 hpi1 (by rw [hr, List.getElem?_append_left (by omega), ← hpj]; exact wproj_at hew hkx) hg2 hh3).mono ?_
        rintro en w' ⟨rfl, g', hg', h'⟩
        refine ⟨rfl, g', ?_, h'⟩
        show WGk _ (procN _ _ _ _ (j + 1)) g'
        rw [procN_succ, wStep, hgd, if_pos ha]
        exact hg'
      · intro j g X w2 hj hg2 hb2 hh3
        have ha := fun h => hG.ne j hj (Eq.trans h hb2.symm)
        have hpi := procN_inv (may := may) hG hV (c := c) (by omega) (k := j) (by omega)
        obtain ⟨hpi1, r, hr⟩ := hpi
        refine (hy _ j _ g X w2 hj (hG.sa j hj).1 (hG.sa j hj).2 hpi1 (by rw [hr, List.getElem?_append_left (by omega), ← hpj]; exact wproj_at hew hkx) hg2 hh3).mono ?_
        rintro en w' ⟨rfl, g', hg', h'⟩
        refine ⟨rfl, g', ?_, h'⟩
        show WGk _ (procN _ _ _ _ (j + 1)) g'
        rw [procN_succ, wStep, hgd, if_neg ha, if_pos hb2]
        exact hg'
      · refine ⟨hpj, hI0.2.ok, ?_, hI0.2.qok.pop⟩
        exact drop_tail hxs
      · rintro en w' ⟨v, rfl, g, hg2, h'⟩
        refine ⟨v, rfl, g, hg2, ?_⟩
        simp only [List.append_nil] at h'
        exact h'.swap (A := [_, _]) (B := [_, _])
    · refine g_n_blk ?_
      refine g_n_blk ?_
      refine g_n_then ?_
      refine g_perm (List.perm_middle (l₁ := [_, _, _, _, _, _, _, _])).symm ?_
      exact g_againDV (pre := [_, _, _, _, _, _, _, _]) (i := ⟨c, Ds, ⟨W, x :: xs, n, q, cap, pre, sp⟩⟩) (c + 1, D :: Ds, g) [3, 4, 5, 6, 7] rfl ((.cons rfl (.cons rfl (.cons rfl (.cons rfl .nil))))) (by decide) rfl rfl (⟨by omega, by show WGk _ (if c < (waysN L.S may c).length then _ else _) g; rw [if_pos (by omega)]; exact hp⟩) (by simp only; omega)
  · replace h18 := of_decide_eq_false h18
    simp only at h18
    refine g_exit ?_
    refine g_x_then ?_
    refine g_x_then ?_
    refine g_x_blk ?_
    refine g_n_then ?_
    refine g_seq ?_
    refine g_region ?_
    refine g_val rfl rfl rfl (fun w hh => v_load (Try.isAgg170 w) rfl (hh.cell 3 rfl rfl)) ?_
    refine g_val rfl rfl rfl (fun _ _ => v_assign rfl) ?_
    refine g_nil ?_
    refine g_n_then ?_
    refine g_ret ?_
    have en0 : n = 0 := by omega
    have hnx := hI0.2.qok.hlen
    have hxs := hI0.2.xs
    have hpj := hI0.2.pj
    simp only [ints_length] at hnx hxs hpj
    have hcl : W.length ≤ c := by have := congrArg List.length hxs; simp at this; omega
    have hfin : waysF L.S may = waysN L.S may c := waysN_stop (by rw [← hpj, wproj_length]; exact hcl) hI0.1
    refine g_perm (perm_swap (A := [_, _, _, _, _])) ?_
    refine g_doneM (Ds := Ds) rfl (.tmp rfl .nil) (fun w hh => ⟨bm, W, rfl, hfin ▸ hpj, hI0.2.ok, (HS.pickT (pre := [_, _, _, _, _]) (pre' := [(bm, mobj (mlist W))]) (T := wown W) hh [2] (by decide) rfl).toFresh⟩)

end Go.Proofs

namespace Go.Pl
/-- the numbers met so far, each once -/
def seenN (l : List Int) (k : Nat) : List Int := (l.take k).foldl (fun K x => if K.contains x then K else K ++ [x]) []
def twiceF (l : List Int) : Bool := decide ((seenN l l.length).length < l.length)
theorem seenN_succ {l : List Int} {k : Nat} (h : k < l.length) : seenN l (k + 1) = if (seenN l k).contains (l.getD k 0) then seenN l k else seenN l k ++ [l.getD k 0] := by
  unfold seenN
  rw [take_foldl (d := (0 : Int)) h]
def hasI (l : List Int) (x : Int) : Bool := l.any (fun y => decide (x = y))
def mayFree (sl pl : List Int) (k q : Int) : Bool := !hasI sl k && !hasI pl q
def isSill (s : Sands) (i : Int) : Bool := inr i 0 ((s.sills.length : Int) - 1)
def holdE (s : Sands) (p : Int) (sl pl : List Int) : Int :=
  if check s ≠ 0 then check s else if isPlace s p = false ∨ sl.all (isSill s) = false ∨ pl.all (isPlace s) = false then 1 else
  if twiceF sl = true ∨ twiceF pl = true then 5 else if hasKey (waysF s (mayFree sl pl)) p = true then 8 else if (sl.length : Int) + pl.length = 0 then 6 else 0
def holdS (s : Sands) (sl : List Int) : Int := sl.foldl (fun n i => min n (s.sills.getD i.toNat default).h) 1000
def holdV (s : Sands) (sl pl : List Int) : Int := pl.foldl (fun n i => min n (s.floors.getD i.toNat 0)) (holdS s sl)
def HoldR (s : Sands) (p : Int) (sl pl : List Int) : Int × Int := if holdE s p sl pl ≠ 0 then (0, holdE s p sl pl) else (holdV s sl pl, 0)
theorem isSill_iff {s : Sands} {i : Int} : isSill s i = true ↔ 0 ≤ i ∧ i < s.sills.length := by simp [isSill, inr]; omega
end Go.Pl

namespace Go.Fw
open Go
section
variable {P : Program} {e : EnvL} {w : World} {dst : Option Nat} {ty : TypeId} {pos : String} {after : Array Edge} {g : Option (Nat × Bool)}
theorem v_lookupD {t K E : TypeId} {κ : IntKind} {x i : Operand} {bm : Nat} {k : Int} {l : List (Int × Value)} {z v : Value} (hu : (underlying t).run P w = .ok (.map K E) w) (hk : (underlying K).run P w = .ok (.int κ) w) (hz : (zeroValue E).run P w = .ok z w)
    (hv : (mget l k).getD z = v) (hx : ev e x = some (.map (some bm))) (hi : ev e i = some (.int .i64 k)) (hm : w.heap[bm]? = some (mobj l)) : Val P e w ⟨dst, .lookup t x i false, ty, pos, after, g⟩ v := by
  have := v_lookup (P := P) (dst := dst) (ty := ty) (pos := pos) (after := after) (g := g) hu hk hz hx hi hm
  rw [hv] at this
  exact this
theorem v_lenM {t K E : TypeId} {x : Operand} {bm : Nat} {l : List (Int × Value)} (hu : (underlying t).run P w = .ok (.map K E) w) (hx : ev e x = some (.map (some bm))) (hm : w.heap[bm]? = some (mobj l)) :
    Val P e w ⟨dst, .call ⟨.builtin .len, #[x], #[t]⟩, ty, pos, after, g⟩ (.int .i64 l.length) := fun n ds a he => by
  have h1 := run_getM (P := P) hm
  rw [mobj] at h1
  simp [execOp, he.eval hx, resolve, invoke, builtin, Builtin.len_, hu, h1, goInt, ments_length]
end
section
variable {n : Nat} {ds : List Deferred} {e : EnvL} {P : Program} {r : Option Nat} {Q : Exit → Act → World → Prop} {ops : Array Oper} {w0 : World} {M : List Nat} {own : List (Nat × Obj)} {ro : List Sg}
/-- a call that leaves new blocks, one of them ahead, the others behind -/
theorem g_callW {ι : Type} {o : Oper} {rest : List Oper} {d : Nat} {p : ι → Prop} {A : ι → Nat × Obj} {T : ι → List (Nat × Obj)} {ret : ι → Value} {f : FuncId} {x : Operand} {xs : List Operand} {ts : Array TypeId} {fst cap : Array Value} {vs args : List Value}
    (ho : o.op = .call ⟨.value x, xs.toArray, ts⟩) (hd : o.dst = some d) (hg : o.guard = none) (hn : Nat.blt d n = true)
    (hx : ev e x = some (.func (.func f) fst cap)) (hxs : evs e xs = some vs) (ha : fst.toList ++ vs ++ cap.toList = args)
    (hf : ∀ args w, (callFunc f args).run P w = .ok (.enter f args) w)
    (hc : ∀ w, HS w0 M own ro w → Calls P f args.toArray w (fun en w' => ∃ i, en = .returned (ret i) ∧ p i ∧ Fresh w w' (A i :: T i)))
    (h : ∀ i, p i → G n ds ((d, ret i) :: e) (HS w0 M (A i :: (own ++ T i)) ro) (wpListIn (fw r) 0 P ops Q rest)) : G n ds e (HS w0 M own ro) (wpListIn (fw r) 0 P ops Q (o :: rest)) :=
  g_call (H' := fun i w' => p i ∧ HS w0 M (A i :: (own ++ T i)) ro w') ho hd hg hn hx hxs ha hf (fun w hh => (hc w hh).mono (by
      rintro en w' ⟨i, rfl, hp, hF⟩
      exact ⟨i, rfl, hp, (hh.fresh hF).perm (List.Perm.cons _ List.perm_append_comm)⟩))
    (fun i => g_pure (fun w hh => hh.1) (fun hp => (h i hp).pre (fun w hh => hh.2)))
end
end Go.Fw
namespace Go.Proofs
open Go Go.Fw Go.Pl
theorem way_news {w0 w : World} {own : List (Nat × Obj)} {ro : List Sg} {W : List WV} {e : WV} (hh : HS w0 [] (own ++ wown W) ro w) (he : e ∈ W) (heo : e.ok) : News w0 w [(bk e.q, off e.q, ints e.way)] := by
  have hs := vown_seg (E := 3) hh (fun p hp => List.mem_append_right own (mem_wown he p hp)) heo.hoff heo.noneNil
  refine (News.nil hh.toExt).cons hs (fun hn => ?_)
  cases hq : e.q with
  | none => exact absurd (by simp [heo.noneNil hq]) hn
  | some p =>
    have := hh.new (p.1, .cells (ints e.way ++ e.sp).toArray 3 (0, 0)) (List.mem_append_right own (mem_wown he _ (by rw [hq]; simp [vown])))
    simpa [bk] using this
structure CntOK (k : Nat) (K : List Int) (M : List (Int × Value)) : Prop where
  keys : M.map (·.1) = K
  vals : ∀ p ∈ M, ∃ n : Int, p.2 = .int .i64 n ∧ 0 ≤ n ∧ n ≤ k
theorem mfind_mem : ∀ {M : List (Int × Value)} {x : Int} {i : Nat}, (∃ j v, mfind M x i = some (j, v) ∧ (x, v) ∈ M) ∨ (mfind M x i = none ∧ x ∉ M.map (·.1))
  | [], _, _ => .inr ⟨rfl, by simp⟩
  | (k, v) :: M, x, i => by
    by_cases h : x = k
    · subst h; left; exact ⟨i, v, by simp [mfind], List.mem_cons_self⟩
    · rcases mfind_mem (M := M) (x := x) (i := i + 1) with ⟨j, u, h1, h2⟩ | ⟨h1, h2⟩
      · left; exact ⟨j, u, by simp [mfind, h, h1], List.mem_cons_of_mem _ h2⟩
      · right; exact ⟨by simp [mfind, h, h1], by simp [h]; simpa using h2⟩
theorem CntOK.get {k : Nat} {K : List Int} {M : List (Int × Value)} (h : CntOK k K M) (x : Int) : ∃ n : Int, (mget M x).getD (.int .i64 0) = .int .i64 n ∧ 0 ≤ n ∧ n ≤ k := by
  rcases mfind_mem (M := M) (x := x) (i := 0) with ⟨j, v, h1, h2⟩ | ⟨h1, _⟩
  · obtain ⟨n, h3, h4⟩ := h.vals _ h2
    exact ⟨n, by simp only [mget, h1, Option.map_some, Option.getD_some]; exact h3, h4⟩
  · exact ⟨0, by simp [mget, h1], by omega, by omega⟩
theorem CntOK.set {k : Nat} {K : List Int} {M : List (Int × Value)} (h : CntOK k K M) (x : Int) {n : Int} (hn : 0 ≤ n ∧ n ≤ k) : CntOK (k + 1) (if K.contains x then K else K ++ [x]) (mset M x (.int .i64 (n + 1))) := by
  rcases mfind_mem (M := M) (x := x) (i := 0) with ⟨j, v, h1, h2⟩ | ⟨h1, h2⟩
  · have hm : x ∈ K := by rw [← h.keys]; exact List.mem_map.2 ⟨_, h2, rfl⟩
    have hms : mset M x (.int .i64 (n + 1)) = M.modify j (fun p => (p.1, .int .i64 (n + 1))) := by simp [mset, h1]
    rw [if_pos (by simpa using hm), hms]
    refine ⟨?_, fun p hp => ?_⟩
    · rw [← h.keys]
      apply List.ext_getElem?
      intro i
      rw [List.getElem?_map, List.getElem?_map, List.getElem?_modify]
      cases M[i]? with
      | none => rfl
      | some q => by_cases hji : j = i <;> simp [hji]
    · obtain ⟨i, hi⟩ := List.mem_iff_getElem?.1 hp
      rw [List.getElem?_modify] at hi
      cases hmi : M[i]? with
      | none => rw [hmi] at hi; simp at hi
      | some q =>
        rw [hmi] at hi
        by_cases hji : j = i
        · simp [hji] at hi; subst hi; exact ⟨n + 1, rfl, by omega, by omega⟩
        · simp [hji] at hi; subst hi
          obtain ⟨n', h3, h4, h5⟩ := h.vals q (List.mem_of_getElem? hmi)
          exact ⟨n', h3, h4, by omega⟩
  · have hm : x ∉ K := by rw [← h.keys]; exact h2
    have hms : mset M x (.int .i64 (n + 1)) = M ++ [(x, .int .i64 (n + 1))] := by simp [mset, h1]
    rw [if_neg (by simpa using hm), hms]
    refine ⟨by rw [List.map_append, h.keys]; rfl, fun p hp => ?_⟩
    rcases List.mem_append.1 hp with hp | hp
    · obtain ⟨n', h3, h4, h5⟩ := h.vals p hp
      exact ⟨n', h3, h4, by omega⟩
    · simp at hp; subst hp; exact ⟨n + 1, rfl, by omega, by omega⟩
theorem CntOK.len {k : Nat} {K : List Int} {M : List (Int × Value)} (h : CntOK k K M) : M.length = K.length := by rw [← h.keys]; simp
end Go.Proofs

namespace Go.Proofs
open Go Go.Fw Go.Pl
set_option linter.unusedVariables false
set_option maxRecDepth 100000 in
theorem c_Index (r : Option (Nat × Nat)) (l : List Int) (cp : Nat) (x : Int) (w : World) (hl : l.length ≤ 140737488355328) (hr : 0 < l.length → r ≠ none) (hs : segOK w (bk r, off r, ints l)) : Ret Try.prog 148 [slv r l.length cp, .int .i64 x] w (.int .i64 (idxf (fun y => decide (x = y)) l)) := by
  refine g_enter (args := [slv r l.length cp, .int .i64 x]) Try.func148 rfl Try.ntmps148 rfl (e := [(0, _), (1, _)]) rfl (HS.start w [] [(bk r, off r, ints l)] (segsC hs segsN)) ?_
  refine g_seq ?_
  refine g_region ?_
  refine g_val rfl rfl rfl (fun _ _ => v_assign rfl) ?_
  refine g_nil ?_
  refine g_n_then ?_
  refine g_seq ?_
  refine g_seq ?_
  refine g_region ?_
  refine g_val rfl rfl rfl (fun _ _ => v_move rfl) ?_
  refine g_val rfl rfl rfl (fun w _ => v_lenS (Try.runUnderlying26 w) rfl) ?_
  refine g_val rfl rfl rfl (fun _ _ => v_move rfl) ?_
  refine g_nil ?_
  refine g_n_then ?_
  refine g_block ?_
  refine g_sub (e' := [(8, _), (0, _), (1, _), (7, _)]) ((.cons rfl (.cons rfl (.cons rfl (.cons rfl .nil))))) ?_
  refine g_loopM (ι := Nat) (fun k => [(8, .int .i64 (k : Nat))]) (fun k => []) (fun k => k ≤ l.length ∧ ∀ i, i < k → decide (x = l.getD i 0) = false) (fun k => l.length - k) 0 (⟨Nat.zero_le _, fun i hi => absurd hi (by omega)⟩) ?_
  intro k hI0
  refine g_seq ?_
  refine g_region ?_
  refine g_val rfl rfl rfl (fun _ _ => v_lss rfl rfl) ?_
  refine g_nil ?_
  refine g_n_then ?_
  refine g_seq ?_
  refine g_cond rfl (fun hc9_1 => ?_) (fun hc9_1 => ?_)
  · replace hc9_1 := of_decide_eq_true hc9_1
    refine g_skip ?_
    refine g_n_then ?_
    refine g_seq ?_
    refine g_block ?_
    refine g_seq ?_
    refine g_region ?_
    refine g_val rfl rfl rfl (fun _ _ => v_move rfl) ?_
    refine g_val rfl rfl rfl (fun _ _ => v_assign rfl) ?_
    refine g_nil ?_
    refine g_n_then ?_
    refine g_seq ?_
    refine g_region ?_
    refine g_val rfl rfl rfl (fun _ _ => v_move rfl) ?_
    refine g_val rfl rfl rfl (fun _ _ => v_move rfl) ?_
    refine g_val rfl rfl rfl (fun _ _ => v_move rfl) ?_
    refine g_val rfl rfl rfl (fun w _ => v_indexAddr1 k (Try.runUnderlying26 w) (Try.sizeOf3 w) rfl rfl rfl (by omega) (hr (by omega))) ?_
    refine g_val rfl rfl rfl (fun w hh => v_load (Try.isAgg3 w) rfl (hh.int (j := k) 0 rfl (by omega))) ?_
    refine g_val rfl rfl rfl (fun _ _ => v_eql rfl rfl) ?_
    refine g_nil ?_
    refine g_n_then ?_
    refine g_cond rfl (fun hx => ?_) (fun hx => ?_)
    · refine g_seq ?_
      refine g_region ?_
      refine g_val rfl rfl rfl (fun _ _ => v_move rfl) ?_
      refine g_val rfl rfl rfl (fun _ _ => v_assign rfl) ?_
      refine g_nil ?_
      refine g_n_then ?_
      refine g_ret ?_
      refine g_r_blk ?_
      refine g_r_then ?_
      refine g_r_then ?_
      refine g_r_blk ?_
      refine g_r_then ?_
      refine g_done rfl (fun w hh => (.tmp rfl .nil)) (fun w hh => ⟨?_, hh.toExt⟩)
      rw [idxf_found (d := (0 : Int)) (k := k) (by omega) hI0.2 (by simpa using hx)]; rfl
    · refine g_skip ?_
      refine g_n_blk ?_
      refine g_n_then ?_
      refine g_region ?_
      refine g_val rfl rfl rfl (fun _ _ => v_add rfl rfl (wrap_i64 (by omega))) ?_
      refine g_val rfl rfl rfl (fun _ _ => v_move rfl) ?_
      refine g_nil ?_
      refine g_n_then ?_
      exact g_againM (i := k) (k + 1) [] ((.cons rfl (.cons rfl (.cons rfl (.cons rfl .nil))))) (by decide) rfl (⟨by omega, fun i hi => by rcases Nat.lt_succ_iff_lt_or_eq.1 hi with h | h; exact hI0.2 i h; subst h; simpa using hx⟩) (by omega)
  · replace hc9_1 := of_decide_eq_false hc9_1
    refine g_exit ?_
    refine g_x_then ?_
    refine g_x_then ?_
    refine g_x_blk ?_
    refine g_n_then ?_
    refine g_seq ?_
    refine g_region ?_
    refine g_val rfl rfl rfl (fun _ _ => v_assign rfl) ?_
    refine g_nil ?_
    refine g_n_then ?_
    refine g_ret ?_
    have ek : k = l.length := by omega
    subst ek
    refine g_done rfl (fun w hh => (.tmp rfl .nil)) (fun w hh => ⟨?_, hh.toExt⟩)
    rw [idxf_none (d := (0 : Int)) hI0.2]; rfl

set_option maxRecDepth 100000 in
theorem c_Contains (r : Option (Nat × Nat)) (l : List Int) (cp : Nat) (x : Int) (w : World) (hl : l.length ≤ 140737488355328) (hr : 0 < l.length → r ≠ none) (hs : segOK w (bk r, off r, ints l)) : Ret Try.prog 84 [slv r l.length cp, .int .i64 x] w (.bool (hasI l x)) := by
  refine g_enter (args := [slv r l.length cp, .int .i64 x]) Try.func84 rfl Try.ntmps84 rfl (e := [(0, _), (1, _)]) rfl (HS.start w [] [(bk r, off r, ints l)] (segsC hs segsN)) ?_
  refine g_seq ?_
  refine g_region ?_
  refine g_val rfl rfl rfl (fun _ _ => v_assign rfl) ?_
  refine g_nil ?_
  refine g_n_then ?_
  refine g_seq ?_
  refine g_region ?_
  refine g_val rfl rfl rfl (fun _ _ => v_move rfl) ?_
  refine g_val rfl rfl rfl (fun _ _ => v_move rfl) ?_
  refine g_callv rfl rfl rfl rfl rfl rfl rfl (fun a w => Try.call148 a w) (fun w hh => c_Index r l cp _ w hl hr (hh.seg 0 rfl)) ?_
  refine g_val rfl rfl rfl (fun _ _ => v_geq rfl rfl) ?_
  refine g_val rfl rfl rfl (fun _ _ => v_assign rfl) ?_
  refine g_nil ?_
  refine g_n_then ?_
  refine g_ret ?_
  refine g_done rfl (fun w hh => (.tmp rfl .nil)) (fun w hh => ⟨?_, hh.toExt⟩)
  simp only [retv, idxf_nonneg, hasI]

set_option maxRecDepth 100000 in
theorem c_twice (r : Option (Nat × Nat)) (l : List Int) (cp : Nat) (w : World) (hl : l.length ≤ 140737488355328) (hr : 0 < l.length → r ≠ none) (hs : segOK w (bk r, off r, ints l)) : Ret Try.prog 123 [slv r l.length cp] w (.bool (twiceF l)) := by
  refine g_enter (args := [slv r l.length cp]) Try.func123 rfl Try.ntmps123 rfl (e := [(0, _)]) rfl (HS.start w [] [(bk r, off r, ints l)] (segsC hs segsN)) ?_
  refine g_seq ?_
  refine g_region ?_
  refine g_val rfl rfl rfl (fun _ _ => v_assign rfl) ?_
  refine g_nil ?_
  refine g_n_then ?_
  refine g_seq ?_
  refine g_region ?_
  refine g_makeMap rfl (fun bm hbm => ?_)
  refine g_val rfl rfl rfl (fun _ _ => v_assign rfl) ?_
  refine g_nil ?_
  refine g_n_then ?_
  refine g_seq ?_
  refine g_seq ?_
  refine g_region ?_
  refine g_val rfl rfl rfl (fun _ _ => v_move rfl) ?_
  refine g_val rfl rfl rfl (fun w _ => v_lenS (Try.runUnderlying26 w) rfl) ?_
  refine g_val rfl rfl rfl (fun _ _ => v_move rfl) ?_
  refine g_nil ?_
  refine g_n_then ?_
  refine g_block ?_
  refine g_sub (e' := [(9, _), (0, _), (3, _), (7, _), (8, _)]) ((.cons rfl (.cons rfl (.cons rfl (.cons rfl (.cons rfl .nil)))))) ?_
  refine g_loopM (ι := Nat × List (Int × Value)) (fun (k, M) => [(9, .int .i64 (k : Nat))]) (fun (k, M) => [(bm, mobj M)]) (fun (k, M) => k ≤ l.length ∧ CntOK k (seenN l k) M) (fun (k, M) => l.length - k) (0, []) (⟨Nat.zero_le _, rfl, fun p hp => by cases hp⟩) ?_
  intro ⟨k, M⟩ hI0
  simp only at hI0
  refine g_seq ?_
  refine g_region ?_
  refine g_val rfl rfl rfl (fun _ _ => v_lss rfl rfl) ?_
  refine g_nil ?_
  refine g_n_then ?_
  refine g_seq ?_
  refine g_cond rfl (fun h10 => ?_) (fun h10 => ?_)
  · replace h10 := of_decide_eq_true h10
    refine g_skip ?_
    refine g_n_then ?_
    refine g_seq ?_
    refine g_block ?_
    refine g_seq ?_
    refine g_region ?_
    refine g_val rfl rfl rfl (fun w _ => v_indexAddr1 k (Try.runUnderlying26 w) (Try.sizeOf3 w) rfl rfl rfl (by omega) (hr (by omega))) ?_
    refine g_val rfl rfl rfl (fun w hh => v_load (Try.isAgg3 w) rfl (hh.int (j := k) 0 rfl (by omega))) ?_
    refine g_val rfl rfl rfl (fun _ _ => v_assign rfl) ?_
    refine g_nil ?_
    refine g_n_then ?_
    refine g_region ?_
    refine g_val rfl rfl rfl (fun _ _ => v_move rfl) ?_
    refine g_val rfl rfl rfl (fun _ _ => v_move rfl) ?_
    obtain ⟨cn, hcn, hcb⟩ := hI0.2.get (l.getD k 0)
    refine g_val rfl rfl rfl (fun w hh => v_lookupD (Try.runUnderlying189 w) (Try.runUnderlying3 w) (Try.zeroValue3 w) hcn rfl rfl (hh.get 0 rfl)) ?_
    refine g_val rfl rfl rfl (fun _ _ => v_add rfl rfl (wrap_i64 (by omega))) ?_
    refine g_mapUpdate (own' := [_]) 0 (fun w => Try.runUnderlying189 w) (fun w => Try.runUnderlying3 w) rfl rfl rfl rfl rfl ?_
    refine g_nil ?_
    refine g_n_blk ?_
    refine g_n_then ?_
    refine g_region ?_
    refine g_val rfl rfl rfl (fun _ _ => v_add rfl rfl (wrap_i64 (by omega))) ?_
    refine g_val rfl rfl rfl (fun _ _ => v_move rfl) ?_
    refine g_nil ?_
    refine g_n_then ?_
    exact g_againM (i := ⟨k, M⟩) (k + 1, mset M (l.getD k 0) (.int .i64 (cn + 1))) [0] ((.cons rfl (.cons rfl (.cons rfl (.cons rfl (.cons rfl .nil)))))) (by decide) rfl (⟨by omega, by rw [seenN_succ (by omega)]; exact hI0.2.set _ hcb⟩) (by simp only; omega)
  · replace h10 := of_decide_eq_false h10
    have ek : k = l.length := by omega
    subst ek
    refine g_exit ?_
    refine g_x_then ?_
    refine g_x_then ?_
    refine g_x_blk ?_
    refine g_n_then ?_
    refine g_seq ?_
    refine g_region ?_
    refine g_val rfl rfl rfl (fun _ _ => v_move rfl) ?_
    refine g_val rfl rfl rfl (fun w hh => v_lenM (Try.runUnderlying189 w) rfl (hh.get 0 rfl)) ?_
    refine g_val rfl rfl rfl (fun _ _ => v_move rfl) ?_
    refine g_val rfl rfl rfl (fun w _ => v_lenS (Try.runUnderlying26 w) rfl) ?_
    refine g_val rfl rfl rfl (fun _ _ => v_lss rfl rfl) ?_
    refine g_val rfl rfl rfl (fun _ _ => v_assign rfl) ?_
    refine g_nil ?_
    refine g_n_then ?_
    refine g_ret ?_
    refine g_done rfl (fun w hh => (.tmp rfl .nil)) (fun w hh => ⟨?_, hh.toExt⟩)
    simp only [retv, twiceF, hI0.2.len]
    congr 2
    simp

set_option maxRecDepth 100000 in
theorem c_Way1 (L : LS) (bd : Nat) (g : List Int) (k : Nat) (q most : Int) (b6 b8 : Nat) (w : World) (hL : L.OK w) (hG : Good L.S) (hgl : g.length = 8) (hd : segOK w (bd, 0, L.cells ++ ints g)) (hk : k < L.S.sills.length) (hq : 0 ≤ q ∧ q < L.S.floors.length) (h6 : segOK w (b6, 0, [ptr bd 0])) (h8 : segOK w (b8, 0, [.int .i64 most])) : Ret Try.prog 144 [.int .i64 (k : Nat), .int .i64 q, ptr b6 0, ptr b8 0] w (.bool (mayLe L.S most (k : Nat) q)) := by
  have hlt := hL.tl
  have hlf := hL.fl
  have hls := hL.sl
  have hfl8 := hG.fl
  have htl12 := hG.tl
  refine g_enter (args := [.int .i64 (k : Nat), .int .i64 q, ptr b6 0, ptr b8 0]) Try.func144 rfl Try.ntmps144 rfl (e := [(0, _), (1, _), (2, _), (3, _)]) rfl (HS.start w [] ((b6, 0, [ptr bd 0]) :: (b8, 0, [.int .i64 most]) :: (bd, 0, L.cells ++ ints g) :: L.segs) (segsC h6 (segsC h8 (segsC hd hL.segs)))) ?_
  refine g_seq ?_
  refine g_region ?_
  refine g_val rfl rfl rfl (fun _ _ => v_assign rfl) ?_
  refine g_nil ?_
  refine g_n_then ?_
  refine g_seq ?_
  refine g_draw none (.hoist 0 (.free 1 (.free 2 (.free 3 (.hoist 4 (.free 5 (.hoist 6 (.free 7 (.hoist 8 (.hoist 9 (.free 10 (.free 11 (.free 12 (.hoist 13 (.free 14 (.hoist 15 (.hoist 16 (.hoist 19 (.one 17 (.one 18 (.free 20 (.free 21 .done)))))))))))))))))))))) _ rfl (by decide +kernel) (fun w k hh => hh.draw k) (fun w hh => hh) ?_
  refine p_hoist rfl rfl rfl rfl (fun w hh => v_load (Try.isAgg139 w) rfl (hh.rcell 0 0 rfl rfl)) ?_
  refine p_free rfl rfl rfl rfl (fun _ _ => v_nilCheck rfl) ?_
  refine p_free rfl rfl rfl rfl (fun w _ => v_fieldAddr 0 (Try.runUnderlying157 w) rfl (Try.sizeOf29 w) rfl) ?_
  refine p_free rfl rfl rfl rfl (fun w _ => v_fieldAddr 4 (Try.runUnderlying29 w) rfl (Try.sizeOf27 w) rfl) ?_
  refine p_hoist rfl rfl rfl rfl (fun w hh => v_load (Try.isAgg27 w) rfl (hh.rcell 2 4 rfl rfl)) ?_
  refine p_free rfl rfl rfl rfl (fun _ _ => v_move rfl) ?_
  refine p_hoist rfl rfl rfl rfl (fun w _ => v_indexAddr k (Try.runUnderlying27 w) (Try.sizeOf51 w) rfl rfl rfl (by omega) (hL.s0 (by omega))) ?_
  refine p_free rfl rfl rfl rfl (fun w _ => v_fieldAddr 2 (Try.runUnderlying51 w) rfl (Try.sizeOf3 w) rfl) ?_
  refine p_hoist rfl rfl rfl rfl (fun w hh => v_load (Try.isAgg3 w) rfl (hh.fld (j := k) encS_len 5 2 rfl (by omega) rfl rfl)) ?_
  refine p_hoist rfl rfl rfl rfl (fun w hh => v_load (Try.isAgg139 w) rfl (hh.rcell 0 0 rfl rfl)) ?_
  refine p_free rfl rfl rfl rfl (fun _ _ => v_nilCheck rfl) ?_
  refine p_free rfl rfl rfl rfl (fun w _ => v_fieldAddr 0 (Try.runUnderlying157 w) rfl (Try.sizeOf29 w) rfl) ?_
  refine p_free rfl rfl rfl rfl (fun w _ => v_fieldAddr 3 (Try.runUnderlying29 w) rfl (Try.sizeOf26 w) rfl) ?_
  refine p_hoist rfl rfl rfl rfl (fun w hh => v_load (Try.isAgg26 w) rfl (hh.rcell 2 3 rfl rfl)) ?_
  refine p_free rfl rfl rfl rfl (fun _ _ => v_move rfl) ?_
  refine p_hoist rfl rfl rfl rfl (fun w _ => v_idxI1 (Try.runUnderlying26 w) (Try.sizeOf3 w) rfl rfl (by omega) (by omega) (hL.f0 (by omega))) ?_
  refine p_hoist rfl rfl rfl rfl (fun w hh => v_load (Try.isAgg3 w) rfl (hh.int 4 rfl (by omega))) ?_
  refine p_hoist rfl rfl rfl rfl (fun w hh => v_load (Try.isAgg3 w) rfl (hh.rcell 1 0 rfl rfl)) ?_
  refine p_one rfl ?_
  refine g_buildSlice (vs := [(0, _)]) (cells := [_]) (fun w => Try.runUnderlying26 w) (fun w => Try.sizeOf3 w) (fun w => Try.zeroValue3 w) rfl rfl rfl rfl rfl (fun b1 hb1 => ?_)
  refine p_next (fun w hh => hh.dropN 1 rfl) ?_
  refine p_one rfl ?_
  refine g_callv rfl rfl rfl rfl rfl rfl rfl (fun a w => Try.call134 a w) (fun w hh => c_highest _ [_] (some (_, 0)) 1 w (by simp) (by simp) (hh.ownSeg 0 rfl)) ?_
  refine p_next (fun w hh => hh.dropN 1 rfl) ?_
  refine p_free rfl rfl rfl rfl (fun _ _ => v_leq rfl rfl) ?_
  refine p_free rfl rfl rfl rfl (fun _ _ => v_assign rfl) ?_
  refine p_done ?_
  refine g_n_then ?_
  refine g_ret ?_
  refine g_done rfl (fun w hh => (.tmp rfl .nil)) (fun w hh => ⟨?_, hh.toExt⟩)
  rfl

set_option maxRecDepth 100000 in
theorem c_Way (p : Int) (L : LS) (w : World) (hL : L.OK w) : Calls Try.prog 81 #[L.val, .int .i64 p] w (fun en w' => ∃ q cap, en = .returned (.tuple #[slv q (WayR L.S p).1.length cap, .int .i64 (WayR L.S p).2]) ∧ SlOK q (WayR L.S p).1.length cap ∧ News w w' [(bk q, off q, ints (WayR L.S p).1)]) := by
  have hlt := hL.tl
  have hlf := hL.fl
  have hls := hL.sl
  refine g_enter (args := [L.val, .int .i64 p]) Try.func81 rfl Try.ntmps81 rfl (e := [(0, _), (1, _)]) rfl (HS.start w [] L.segs hL.segs) ?_
  refine g_seq ?_
  refine g_region ?_
  refine g_box rfl rfl (fun b1 hb1 => ?_)
  refine g_val rfl rfl rfl (fun _ _ => v_nilSlice rfl rfl) ?_
  refine g_val rfl rfl rfl (fun _ _ => v_assign rfl) ?_
  refine g_nil ?_
  refine g_n_then ?_
  refine g_seq ?_
  refine g_region ?_
  refine g_val rfl rfl rfl (fun w hh => v_loadAgg (vs := [_, _, _, _, _]) (Try.isAgg29 w) (Try.sizeOf29 w) rfl (hh.cells 0 rfl rfl)) ?_
  refine g_val rfl rfl rfl (fun _ _ => v_move rfl) ?_
  by_cases hg : gatedE L.S p = 0
  · have hc := (gatedE_zero hg).1
    have hpl := isPlace_iff.1 (gatedE_zero hg).2.1
    have hG := good_of_check hc
    have hfl8 := hG.fl
    have htl12 := hG.tl
    have hsl16 := hG.sl
    refine g_callR (ι := Nat) (p := fun _ => True) (S := fun bd => [(bd, 0, L.cells ++ ints (gatesOf L.S))]) (ret := fun bd => .tuple #[ptr bd 0, .int .i64 0]) rfl rfl rfl rfl rfl rfl rfl (fun a w => Try.call106 a w) (fun w hh => c_gatedR p L w (hL.ext hh.toExt) hg) (fun bd _ => ?_)
    refine g_val rfl rfl rfl (fun _ _ => v_move rfl) ?_
    refine g_val rfl rfl rfl (fun _ _ => v_extract rfl rfl) ?_
    refine g_val rfl rfl rfl (fun _ _ => v_extract rfl rfl) ?_
    refine g_alloc (fun w => Try.zeroValue139 w) rfl (fun b2 hb2 => ?_)
    refine g_store1 (own' := (_ :: _)) 0 (fun w => Try.sizeOf139 w) rfl rfl rfl rfl rfl ?_
    refine g_val rfl rfl rfl (fun _ _ => v_assign rfl) ?_
    refine g_nil ?_
    refine g_n_then ?_
    refine g_seq ?_
    refine g_seq ?_
    refine g_region ?_
    refine g_val rfl rfl rfl (fun _ _ => v_move rfl) ?_
    refine g_val rfl rfl rfl (fun _ _ => v_neq rfl rfl) ?_
    refine g_nil ?_
    refine g_n_then ?_
    refine g_condF rfl rfl ?_
    refine g_skip ?_
    refine g_n_then ?_
    refine g_seq ?_
    refine g_region ?_
    refine g_val rfl rfl rfl (fun w hh => v_load (Try.isAgg139 w) rfl (hh.cell 0 rfl rfl)) ?_
    refine g_val rfl rfl rfl (fun _ _ => v_move rfl) ?_
    refine g_val rfl rfl rfl (fun _ _ => v_nilCheck rfl) ?_
    refine g_val rfl rfl rfl (fun w _ => v_fieldAddr 5 (Try.runUnderlying157 w) rfl (Try.sizeOf155 w) rfl) ?_
    refine g_val rfl rfl rfl (fun w _ => v_arrI1 (Try.runUnderlying155 w) (Try.sizeOf3 w) rfl rfl (by omega) (by omega)) ?_
    refine g_val rfl rfl rfl (fun w hh => v_load (Try.isAgg3 w) rfl (hh.rgate 0 rfl (by rw [gates_length]; omega))) ?_
    refine g_alloc (fun w => Try.zeroValue3 w) rfl (fun b3 hb3 => ?_)
    refine g_store1 (own' := (_ :: _)) 0 (fun w => Try.sizeOf3 w) rfl rfl rfl rfl rfl ?_
    refine g_nil ?_
    refine g_n_then ?_
    refine g_seq ?_
    refine g_region ?_
    refine g_val rfl rfl rfl (fun w hh => v_load (Try.isAgg139 w) rfl (hh.cell 1 rfl rfl)) ?_
    refine g_val rfl rfl rfl (fun _ _ => v_makeFunc (u := #[]) (u' := #[_, _]) rfl rfl) ?_
    refine g_callW (ι := Nat × List WV) (p := fun i => wproj i.2 = waysF L.S (mayLe L.S ((gatesOf L.S).getD p.toNat 0)) ∧ ∀ e, e ∈ i.2 → e.ok) (A := fun i => (i.1, mobj (mlist i.2))) (T := fun i => wown i.2) (ret := fun i => .map (some i.1)) rfl rfl rfl rfl rfl rfl rfl (fun a w => Try.call124 a w) (fun w hh => (c_ways L bd (gatesOf L.S) 144 #[] #[ptr b2 0, ptr b3 0] (mayLe L.S ((gatesOf L.S).getD p.toNat 0)) w (hL.ext hh.toExt) hG (hh.seg 0 rfl) (fun a w => Try.call144 a w) (fun w2 hx k q hk hq => c_Way1 L bd (gatesOf L.S) k q ((gatesOf L.S).getD p.toNat 0) b2 b3 w2 ((hL.ext hh.toExt).ext hx) hG gates_length ((hh.seg 0 rfl).ext hx (by simp)) hk hq ((hh.ownSeg 1 rfl).ext hx (by simp)) ((hh.ownSeg 0 rfl).ext hx (by simp)))).mono (by rintro en w' ⟨bm, W, rfl, h1, h2, h3⟩; exact ⟨(bm, W), rfl, ⟨h1, h2⟩, h3⟩)) ?_
    rintro ⟨bm, W⟩ ⟨hWp, hWo⟩
    refine g_val rfl rfl rfl (fun _ _ => v_move rfl) ?_
    rcases wayOf_cons (W := W) (k := p) with ⟨e, he, hek, hme, hwe⟩ | ⟨hme, hwe⟩
    · refine g_val rfl rfl rfl (fun w hh => v_lookupS (Try.runUnderlying170 w) (Try.runUnderlying3 w) (Try.zeroValue26 w) hme rfl rfl (hh.get 0 rfl)) ?_
      refine g_val rfl rfl rfl (fun _ _ => v_assign rfl) ?_
      refine g_val rfl rfl rfl (fun _ _ => v_assign rfl) ?_
      refine g_nil ?_
      refine g_n_then ?_
      refine g_ret ?_
      refine g_done rfl (fun w hh => (.tmp rfl (.tmp rfl .nil))) (fun w hh => ?_)
      have ea : WayR L.S p = (e.way, 0) := by rw [WayR, if_neg (by simp [hg]), ← hWp, hwe]
      rw [ea]
      exact ⟨e.q, e.cap, rfl, (hWo e he).sl, way_news (own := [_, _, _, _]) hh he (hWo e he)⟩
    · refine g_val rfl rfl rfl (fun w hh => v_lookupD (v := slv none 0 0) (Try.runUnderlying170 w) (Try.runUnderlying3 w) (Try.zeroValue26 w) (by rw [hme]; rfl) rfl rfl (hh.get 0 rfl)) ?_
      refine g_val rfl rfl rfl (fun _ _ => v_assign rfl) ?_
      refine g_val rfl rfl rfl (fun _ _ => v_assign rfl) ?_
      refine g_nil ?_
      refine g_n_then ?_
      refine g_ret ?_
      refine g_done rfl (fun w hh => (.tmp rfl (.tmp rfl .nil))) (fun w hh => ?_)
      have ea : WayR L.S p = ([], 0) := by rw [WayR, if_neg (by simp [hg]), ← hWp, hwe]
      rw [ea]
      exact ⟨none, 0, rfl, .nil, (News.nil hh.toExt).cons segOK.nil (fun h => absurd rfl h)⟩
  · refine g_callv rfl rfl rfl rfl rfl rfl rfl (fun a w => Try.call106 a w) (fun w hh => c_gatedE p L w (hL.ext hh.toExt) hg) ?_
    refine g_val rfl rfl rfl (fun _ _ => v_move rfl) ?_
    refine g_val rfl rfl rfl (fun _ _ => v_extract rfl rfl) ?_
    refine g_val rfl rfl rfl (fun _ _ => v_extract rfl rfl) ?_
    refine g_alloc (fun w => Try.zeroValue139 w) rfl (fun b4 hb4 => ?_)
    refine g_store1 (own' := (_ :: _)) 0 (fun w => Try.sizeOf139 w) rfl rfl rfl rfl rfl ?_
    refine g_val rfl rfl rfl (fun _ _ => v_assign rfl) ?_
    refine g_nil ?_
    refine g_n_then ?_
    refine g_seq ?_
    refine g_seq ?_
    refine g_region ?_
    refine g_val rfl rfl rfl (fun _ _ => v_move rfl) ?_
    refine g_val rfl rfl rfl (fun _ _ => v_neq rfl rfl) ?_
    refine g_nil ?_
    refine g_n_then ?_
    refine g_condT rfl (neP hg) ?_
    refine g_seq ?_
    refine g_region ?_
    refine g_val rfl rfl rfl (fun _ _ => v_move rfl) ?_
    refine g_val rfl rfl rfl (fun _ _ => v_nilSlice rfl rfl) ?_
    refine g_val rfl rfl rfl (fun _ _ => v_assign rfl) ?_
    refine g_nil ?_
    refine g_n_then ?_
    refine g_ret ?_
    refine g_r_then ?_
    refine g_done rfl (fun w hh => (.tmp rfl (.tmp rfl .nil))) (fun w hh => ?_)
    have ea : WayR L.S p = ([], gatedE L.S p) := by rw [WayR, if_pos hg]
    rw [ea]
    exact ⟨none, 0, rfl, .nil, (News.nil hh.toExt).cons segOK.nil (fun h => absurd rfl h)⟩

end Go.Proofs

namespace Go.Proofs
open Go Go.Fw Go.Pl
set_option linter.unusedVariables false
set_option maxRecDepth 100000 in
theorem c_Hold1 (i : Int) (bx : Nat) (L : LS) (w : World) (hL : L.OK w) (hb : segOK w (bx, 0, L.cells)) : Ret Try.prog 122 [.int .i64 i, ptr bx 0] w (.bool (isSill L.S i)) := by
  have hlt := hL.tl
  have hlf := hL.fl
  have hls := hL.sl
  refine g_enter (args := [.int .i64 i, ptr bx 0]) Try.func122 rfl Try.ntmps122 rfl (e := [(0, _), (1, _)]) rfl (HS.start w [] ((bx, 0, L.cells) :: L.segs) (segsC hb hL.segs)) ?_
  refine g_seq ?_
  refine g_region ?_
  refine g_val rfl rfl rfl (fun _ _ => v_assign rfl) ?_
  refine g_nil ?_
  refine g_n_then ?_
  refine g_seq ?_
  refine g_region ?_
  refine g_val rfl rfl rfl (fun _ _ => v_move rfl) ?_
  refine g_val rfl rfl rfl (fun w _ => v_fieldAddr 4 (Try.runUnderlying29 w) rfl (Try.sizeOf27 w) rfl) ?_
  refine g_val rfl rfl rfl (fun w hh => v_load (Try.isAgg27 w) rfl (hh.rcell 0 4 rfl rfl)) ?_
  refine g_val rfl rfl rfl (fun w _ => v_lenS (Try.runUnderlying27 w) rfl) ?_
  refine g_val rfl rfl rfl (fun _ _ => v_sub rfl rfl (wrap_i64 (by omega))) ?_
  refine g_callv rfl rfl rfl rfl rfl rfl rfl (fun a w => Try.call90 a w) (fun w hh => c_in _ _ _ w) ?_
  refine g_val rfl rfl rfl (fun _ _ => v_assign rfl) ?_
  refine g_nil ?_
  refine g_n_then ?_
  refine g_ret ?_
  refine g_done rfl (fun w hh => (.tmp rfl .nil)) (fun w hh => ⟨?_, hh.toExt⟩)
  rfl

set_option maxRecDepth 100000 in
theorem c_Hold2 (r1 r2 : Option (Nat × Nat)) (sl pl : List Int) (c1 c2 : Nat) (k q : Int) (b6 b7 : Nat) (w : World) (hl1 : sl.length ≤ 1000000) (hl2 : pl.length ≤ 1000000) (hr1 : 0 < sl.length → r1 ≠ none) (hr2 : 0 < pl.length → r2 ≠ none) (hs1 : segOK w (bk r1, off r1, ints sl)) (hs2 : segOK w (bk r2, off r2, ints pl)) (h6 : segOK w (b6, 0, [slv r1 sl.length c1])) (h7 : segOK w (b7, 0, [slv r2 pl.length c2])) : Ret Try.prog 125 [.int .i64 k, .int .i64 q, ptr b6 0, ptr b7 0] w (.bool (mayFree sl pl k q)) := by
  refine g_enter (args := [.int .i64 k, .int .i64 q, ptr b6 0, ptr b7 0]) Try.func125 rfl Try.ntmps125 rfl (e := [(0, _), (1, _), (2, _), (3, _)]) rfl (HS.start w [] ((b6, 0, [slv r1 sl.length c1]) :: (b7, 0, [slv r2 pl.length c2]) :: (bk r1, off r1, ints sl) :: (bk r2, off r2, ints pl) :: []) (segsC h6 (segsC h7 (segsC hs1 (segsC hs2 segsN))))) ?_
  refine g_seq ?_
  refine g_region ?_
  refine g_val rfl rfl rfl (fun _ _ => v_assign rfl) ?_
  refine g_nil ?_
  refine g_n_then ?_
  refine g_seq ?_
  refine g_region ?_
  refine g_val rfl rfl rfl (fun w hh => v_load (Try.isAgg26 w) rfl (hh.rcell 0 0 rfl rfl)) ?_
  refine g_val rfl rfl rfl (fun _ _ => v_move rfl) ?_
  refine g_callv rfl rfl rfl rfl rfl rfl rfl (fun a w => Try.call84 a w) (fun w hh => c_Contains r1 sl c1 _ w (by omega) hr1 (hh.seg 2 rfl)) ?_
  refine g_val rfl rfl rfl (fun _ _ => v_not rfl) ?_
  refine g_val rfl rfl rfl (fun _ _ => v_move rfl) ?_
  refine g_case 11 rfl (fun hg11_1 => ?_) (fun hg11_1 => ?_)
  · replace hg11_1 := of_not_true hg11_1
    refine g_valG rfl rfl rfl rfl rfl (fun w hh => v_load (Try.isAgg26 w) rfl (hh.rcell 1 0 rfl rfl)) ?_
    refine g_valG rfl rfl rfl rfl rfl (fun _ _ => v_move rfl) ?_
    refine g_callvG rfl rfl rfl rfl rfl rfl rfl rfl rfl (fun a w => Try.call84 a w) (fun w hh => c_Contains r2 pl c2 _ w (by omega) hr2 (hh.seg 3 rfl)) ?_
    refine g_valG rfl rfl rfl rfl rfl (fun _ _ => v_not rfl) ?_
    refine g_val rfl rfl rfl (fun _ _ => v_pickT rfl rfl) ?_
    refine g_val rfl rfl rfl (fun _ _ => v_assign rfl) ?_
    refine g_nil ?_
    refine g_n_then ?_
    refine g_ret ?_
    refine g_done rfl (fun w hh => (.tmp rfl .nil)) (fun w hh => ⟨?_, hh.toExt⟩)
    simp only [retv, mayFree, *]
    rfl
  · replace hg11_1 := of_not_false hg11_1
    refine g_skipG rfl rfl rfl rfl rfl rfl ?_
    refine g_skipG rfl rfl rfl rfl rfl rfl ?_
    refine g_skipG rfl rfl rfl rfl rfl rfl ?_
    refine g_skipG rfl rfl rfl rfl rfl rfl ?_
    refine g_val rfl rfl rfl (fun _ _ => v_pickF rfl rfl) ?_
    refine g_val rfl rfl rfl (fun _ _ => v_assign rfl) ?_
    refine g_nil ?_
    refine g_n_then ?_
    refine g_ret ?_
    refine g_done rfl (fun w hh => (.tmp rfl .nil)) (fun w hh => ⟨?_, hh.toExt⟩)
    simp only [retv, mayFree, *]
    rfl

set_option maxRecDepth 100000 in
theorem c_Hold (p : Int) (r1 r2 : Option (Nat × Nat)) (sl pl : List Int) (c1 c2 : Nat) (L : LS) (w : World) (hL : L.OK w) (hl1 : sl.length ≤ 1000000) (hl2 : pl.length ≤ 1000000) (hr1 : 0 < sl.length → r1 ≠ none) (hr2 : 0 < pl.length → r2 ≠ none) (hs1 : segOK w (bk r1, off r1, ints sl)) (hs2 : segOK w (bk r2, off r2, ints pl)) : Ret Try.prog 51 [L.val, .int .i64 p, slv r1 sl.length c1, slv r2 pl.length c2] w (.tuple #[.int .i64 (HoldR L.S p sl pl).1, .int .i64 (HoldR L.S p sl pl).2]) := by
  have hlt := hL.tl
  have hlf := hL.fl
  have hls := hL.sl
  refine g_enter (args := [L.val, .int .i64 p, slv r1 sl.length c1, slv r2 pl.length c2]) Try.func51 rfl Try.ntmps51 rfl (e := [(0, _), (1, _), (2, _), (3, _)]) rfl (HS.start w [] ((bk r1, off r1, ints sl) :: (bk r2, off r2, ints pl) :: L.segs) (segsC hs1 (segsC hs2 hL.segs))) ?_
  refine g_seq ?_
  refine g_region ?_
  refine g_box rfl rfl (fun b1 hb1 => ?_)
  refine g_box rfl rfl (fun b2 hb2 => ?_)
  refine g_box rfl rfl (fun b3 hb3 => ?_)
  refine g_val rfl rfl rfl (fun _ _ => v_assign rfl) ?_
  refine g_val rfl rfl rfl (fun _ _ => v_assign rfl) ?_
  refine g_nil ?_
  refine g_n_then ?_
  refine g_seq ?_
  refine g_region ?_
  refine g_val rfl rfl rfl (fun w hh => v_loadAgg (vs := [_, _, _, _, _]) (Try.isAgg29 w) (Try.sizeOf29 w) rfl (hh.cells 2 rfl rfl)) ?_
  by_cases hc : check L.S = 0
  · have hG := good_of_check hc
    have hfl8 := hG.fl
    have htl12 := hG.tl
    have hsl16 := hG.sl
    refine g_callR (ι := Nat) (p := fun _ => True) (S := fun bd => [(bd, 0, L.cells ++ ints (gatesOf L.S))]) (ret := fun bd => .tuple #[ptr bd 0, .int .i64 0]) rfl rfl rfl rfl rfl rfl rfl (fun a w => Try.call102 a w) (fun w hh => c_openedR L w (hL.ext hh.toExt) hc) (fun bd _ => ?_)
    refine g_val rfl rfl rfl (fun _ _ => v_move rfl) ?_
    refine g_val rfl rfl rfl (fun _ _ => v_extract rfl rfl) ?_
    refine g_val rfl rfl rfl (fun _ _ => v_extract rfl rfl) ?_
    refine g_val rfl rfl rfl (fun _ _ => v_assign rfl) ?_
    refine g_val rfl rfl rfl (fun _ _ => v_assign rfl) ?_
    refine g_nil ?_
    refine g_n_then ?_
    refine g_seq ?_
    refine g_block ?_
    refine g_seq ?_
    refine g_region ?_
    refine g_val rfl rfl rfl (fun _ _ => v_move rfl) ?_
    refine g_val rfl rfl rfl (fun _ _ => v_neq rfl rfl) ?_
    refine g_val rfl rfl rfl (fun _ _ => v_assign rfl) ?_
    refine g_nil ?_
    refine g_n_then ?_
    refine g_condF rfl rfl ?_
    refine g_seq ?_
    refine g_draw none (.free 0 (.free 1 (.free 2 (.hoist 3 (.free 4 (.one 5 (.free 6 (.free 7 (.hoist 8 (.free 9 (.one 10 (.free 11 (.free 12 (.free 13 (.hoist 14 (.free 15 (.free 16 (.free 17 (.hoist 18 (.free 19 (.one 20 (.free 21 (.free 22 (.free 23 .done)))))))))))))))))))))))) _ rfl (by decide +kernel) (fun w k hh => hh.draw k) (fun w hh => hh) ?_
    refine p_free rfl rfl rfl rfl (fun _ _ => v_move rfl) ?_
    refine p_free rfl rfl rfl rfl (fun _ _ => v_nilCheck rfl) ?_
    refine p_free rfl rfl rfl rfl (fun w _ => v_fieldAddr 0 (Try.runUnderlying157 w) rfl (Try.sizeOf29 w) rfl) ?_
    refine p_hoist rfl rfl rfl rfl (fun w hh => v_loadAgg (vs := [_, _, _, _, _]) (Try.isAgg29 w) (Try.sizeOf29 w) rfl (hh.rcells 0 0 rfl rfl)) ?_
    refine p_free rfl rfl rfl rfl (fun _ _ => v_move rfl) ?_
    refine p_one rfl ?_
    refine g_callv rfl rfl rfl rfl rfl rfl rfl (fun a w => Try.call89 a w) (fun w hh => c_place _ L w (hL.ext hh.toExt)) ?_
    refine p_next (fun w hh => hh) ?_
    refine p_free rfl rfl rfl rfl (fun _ _ => v_not rfl) ?_
    refine p_free rfl rfl rfl rfl (fun _ _ => v_move rfl) ?_
    refine g_case 37 rfl (fun hg37_1 => ?_) (fun hg37_1 => ?_)
    · replace hg37_1 := of_not_true hg37_1
      have hg37_1 := hg37_1
      refine p_skip rfl rfl rfl rfl rfl rfl rfl ?_
      refine p_skipF rfl rfl rfl rfl rfl rfl rfl ?_
      refine p_one rfl ?_
      refine g_skipG rfl rfl rfl rfl rfl rfl ?_
      refine p_next (fun w hh => hh) ?_
      refine p_skipF rfl rfl rfl rfl rfl rfl rfl ?_
      refine p_free rfl rfl rfl rfl (fun _ _ => v_pickT rfl rfl) ?_
      refine p_free rfl rfl rfl rfl (fun _ _ => v_move rfl) ?_
      refine p_skip rfl rfl rfl rfl rfl rfl rfl ?_
      refine p_skipF rfl rfl rfl rfl rfl rfl rfl ?_
      refine p_skipF rfl rfl rfl rfl rfl rfl rfl ?_
      refine p_skipF rfl rfl rfl rfl rfl rfl rfl ?_
      refine p_skip rfl rfl rfl rfl rfl rfl rfl ?_
      refine p_skipF rfl rfl rfl rfl rfl rfl rfl ?_
      refine p_one rfl ?_
      refine g_skipG rfl rfl rfl rfl rfl rfl ?_
      refine p_next (fun w hh => hh) ?_
      refine p_skipF rfl rfl rfl rfl rfl rfl rfl ?_
      refine p_free rfl rfl rfl rfl (fun _ _ => v_pickT rfl rfl) ?_
      refine p_free rfl rfl rfl rfl (fun _ _ => v_assign rfl) ?_
      refine p_done ?_
      refine g_n_then ?_
      refine g_condT rfl rfl ?_
      refine g_seq ?_
      refine g_region ?_
      refine g_val rfl rfl rfl (fun _ _ => v_assign rfl) ?_
      refine g_val rfl rfl rfl (fun _ _ => v_assign rfl) ?_
      refine g_nil ?_
      refine g_n_then ?_
      refine g_ret ?_
      refine g_r_blk ?_
      refine g_r_then ?_
      refine g_done rfl (fun w hh => (.tmp rfl (.tmp rfl .nil))) (fun w hh => ⟨?_, hh.toExt⟩)
      have eE : holdE L.S p sl pl = 1 := by simp only [holdE, *, ne_eq, not_true_eq_false, not_false_eq_true, if_false, if_true, Bool.true_eq_false, Bool.false_eq_true, or_self, or_true, true_or]
      rw [HoldR, if_pos (by rw [eE]; decide), eE]
      rfl
    · replace hg37_1 := of_not_false hg37_1
      have hpl := isPlace_iff.1 hg37_1
      refine p_hoistG rfl rfl rfl rfl rfl rfl (fun w hh => v_load (Try.isAgg26 w) rfl (hh.cell 1 rfl rfl)) ?_
      refine p_freeG rfl rfl rfl rfl rfl rfl (fun _ _ => v_makeFunc (u := #[]) (u' := #[_]) rfl rfl) ?_
      refine p_one rfl ?_
      refine g_callvG rfl rfl rfl rfl rfl rfl rfl rfl rfl (fun a w => Try.call94 a w) (fun w hh => c_every_int 122 #[] #[ptr b1 0] (isSill L.S) sl r1 c1 w (by omega) hr1 (hh.seg 1 rfl) (fun a w => Try.call122 a w) (fun w2 hx j hj => c_Hold1 _ b1 L w2 ((hL.ext hh.toExt).ext hx) ((hh.ownSeg 2 rfl).ext hx (by simp)))) ?_
      refine p_next (fun w hh => hh) ?_
      refine p_freeG rfl rfl rfl rfl rfl rfl (fun _ _ => v_not rfl) ?_
      refine p_free rfl rfl rfl rfl (fun _ _ => v_pickF rfl rfl) ?_
      refine p_free rfl rfl rfl rfl (fun _ _ => v_move rfl) ?_
      refine g_case 43 rfl (fun hev1 => ?_) (fun hev1 => ?_)
      · replace hev1 := of_not_true hev1
        refine p_skip rfl rfl rfl rfl rfl rfl rfl ?_
        refine p_skipF rfl rfl rfl rfl rfl rfl rfl ?_
        refine p_skipF rfl rfl rfl rfl rfl rfl rfl ?_
        refine p_skipF rfl rfl rfl rfl rfl rfl rfl ?_
        refine p_skip rfl rfl rfl rfl rfl rfl rfl ?_
        refine p_skipF rfl rfl rfl rfl rfl rfl rfl ?_
        refine p_one rfl ?_
        refine g_skipG rfl rfl rfl rfl rfl rfl ?_
        refine p_next (fun w hh => hh) ?_
        refine p_skipF rfl rfl rfl rfl rfl rfl rfl ?_
        refine p_free rfl rfl rfl rfl (fun _ _ => v_pickT rfl rfl) ?_
        refine p_free rfl rfl rfl rfl (fun _ _ => v_assign rfl) ?_
        refine p_done ?_
        refine g_n_then ?_
        refine g_condT rfl rfl ?_
        refine g_seq ?_
        refine g_region ?_
        refine g_val rfl rfl rfl (fun _ _ => v_assign rfl) ?_
        refine g_val rfl rfl rfl (fun _ _ => v_assign rfl) ?_
        refine g_nil ?_
        refine g_n_then ?_
        refine g_ret ?_
        refine g_r_blk ?_
        refine g_r_then ?_
        refine g_done rfl (fun w hh => (.tmp rfl (.tmp rfl .nil))) (fun w hh => ⟨?_, hh.toExt⟩)
        have eE : holdE L.S p sl pl = 1 := by simp only [holdE, *, ne_eq, not_true_eq_false, not_false_eq_true, if_false, if_true, Bool.true_eq_false, Bool.false_eq_true, or_self, or_true, true_or]
        rw [HoldR, if_pos (by rw [eE]; decide), eE]
        rfl
      · replace hev1 := of_not_false hev1
        refine p_hoistG rfl rfl rfl rfl rfl rfl (fun w hh => v_load (Try.isAgg26 w) rfl (hh.cell 0 rfl rfl)) ?_
        refine p_freeG rfl rfl rfl rfl rfl rfl (fun _ _ => v_move rfl) ?_
        refine p_freeG rfl rfl rfl rfl rfl rfl (fun _ _ => v_nilCheck rfl) ?_
        refine p_freeG rfl rfl rfl rfl rfl rfl (fun w _ => v_fieldAddr 0 (Try.runUnderlying157 w) rfl (Try.sizeOf29 w) rfl) ?_
        refine p_hoistG rfl rfl rfl rfl rfl rfl (fun w hh => v_loadAgg (vs := [_, _, _, _, _]) (Try.isAgg29 w) (Try.sizeOf29 w) rfl (hh.rcells 0 0 rfl rfl)) ?_
        refine p_freeG rfl rfl rfl rfl rfl rfl (fun _ _ => v_makeFunc (u := #[_]) (u' := #[]) rfl rfl) ?_
        refine p_one rfl ?_
        refine g_callvG rfl rfl rfl rfl rfl rfl rfl rfl rfl (fun a w => Try.call94 a w) (fun w hh => c_every_int 89 #[L.val] #[] (isPlace L.S) pl r2 c2 w (by omega) hr2 (hh.seg 2 rfl) (fun a w => Try.call89 a w) (fun w2 hx j hj => c_place _ L w2 ((hL.ext hh.toExt).ext hx))) ?_
        refine p_next (fun w hh => hh) ?_
        refine p_freeG rfl rfl rfl rfl rfl rfl (fun _ _ => v_not rfl) ?_
        refine p_free rfl rfl rfl rfl (fun _ _ => v_pickF rfl rfl) ?_
        refine p_free rfl rfl rfl rfl (fun _ _ => v_assign rfl) ?_
        refine p_done ?_
        refine g_n_then ?_
        refine g_cond rfl (fun hev2 => ?_) (fun hev2 => ?_)
        · replace hev2 := of_not_true hev2
          refine g_seq ?_
          refine g_region ?_
          refine g_val rfl rfl rfl (fun _ _ => v_assign rfl) ?_
          refine g_val rfl rfl rfl (fun _ _ => v_assign rfl) ?_
          refine g_nil ?_
          refine g_n_then ?_
          refine g_ret ?_
          refine g_r_blk ?_
          refine g_r_then ?_
          refine g_done rfl (fun w hh => (.tmp rfl (.tmp rfl .nil))) (fun w hh => ⟨?_, hh.toExt⟩)
          have eE : holdE L.S p sl pl = 1 := by simp only [holdE, *, ne_eq, not_true_eq_false, not_false_eq_true, if_false, if_true, Bool.true_eq_false, Bool.false_eq_true, or_self, or_true, true_or]
          rw [HoldR, if_pos (by rw [eE]; decide), eE]
          rfl
        · replace hev2 := of_not_false hev2
          refine g_seq ?_
          refine g_region ?_
          refine g_val rfl rfl rfl (fun w hh => v_load (Try.isAgg26 w) rfl (hh.cell 1 rfl rfl)) ?_
          refine g_callv rfl rfl rfl rfl rfl rfl rfl (fun a w => Try.call123 a w) (fun w hh => c_twice r1 sl c1 w (by omega) hr1 (hh.seg 1 rfl)) ?_
          refine g_val rfl rfl rfl (fun _ _ => v_move rfl) ?_
          refine g_case 56 rfl (fun hg56_4 => ?_) (fun hg56_4 => ?_)
          · have hg56_4 := hg56_4
            refine g_skipG rfl rfl rfl rfl rfl rfl ?_
            refine g_skipG rfl rfl rfl rfl rfl rfl ?_
            refine g_val rfl rfl rfl (fun _ _ => v_pickT rfl rfl) ?_
            refine g_val rfl rfl rfl (fun _ _ => v_assign rfl) ?_
            refine g_nil ?_
            refine g_n_then ?_
            refine g_condT rfl rfl ?_
            refine g_seq ?_
            refine g_region ?_
            refine g_val rfl rfl rfl (fun _ _ => v_assign rfl) ?_
            refine g_val rfl rfl rfl (fun _ _ => v_assign rfl) ?_
            refine g_nil ?_
            refine g_n_then ?_
            refine g_ret ?_
            refine g_r_blk ?_
            refine g_r_then ?_
            refine g_done rfl (fun w hh => (.tmp rfl (.tmp rfl .nil))) (fun w hh => ⟨?_, hh.toExt⟩)
            have eE : holdE L.S p sl pl = 5 := by simp only [holdE, *, ne_eq, not_true_eq_false, not_false_eq_true, if_false, if_true, Bool.true_eq_false, Bool.false_eq_true, or_self, or_true, true_or]
            rw [HoldR, if_pos (by rw [eE]; decide), eE]
            rfl
          · have hg56_4 := hg56_4
            refine g_valG rfl rfl rfl rfl rfl (fun w hh => v_load (Try.isAgg26 w) rfl (hh.cell 0 rfl rfl)) ?_
            refine g_callvG rfl rfl rfl rfl rfl rfl rfl rfl rfl (fun a w => Try.call123 a w) (fun w hh => c_twice r2 pl c2 w (by omega) hr2 (hh.seg 2 rfl)) ?_
            refine g_val rfl rfl rfl (fun _ _ => v_pickF rfl rfl) ?_
            refine g_val rfl rfl rfl (fun _ _ => v_assign rfl) ?_
            refine g_nil ?_
            refine g_n_then ?_
            refine g_cond rfl (fun hc53_5 => ?_) (fun hc53_5 => ?_)
            · have hc53_5 := hc53_5
              refine g_seq ?_
              refine g_region ?_
              refine g_val rfl rfl rfl (fun _ _ => v_assign rfl) ?_
              refine g_val rfl rfl rfl (fun _ _ => v_assign rfl) ?_
              refine g_nil ?_
              refine g_n_then ?_
              refine g_ret ?_
              refine g_r_blk ?_
              refine g_r_then ?_
              refine g_done rfl (fun w hh => (.tmp rfl (.tmp rfl .nil))) (fun w hh => ⟨?_, hh.toExt⟩)
              have eE : holdE L.S p sl pl = 5 := by simp only [holdE, *, ne_eq, not_true_eq_false, not_false_eq_true, if_false, if_true, Bool.true_eq_false, Bool.false_eq_true, or_self, or_true, true_or]
              rw [HoldR, if_pos (by rw [eE]; decide), eE]
              rfl
            · have hc53_5 := hc53_5
              refine g_skip ?_
              refine g_n_blk ?_
              refine g_n_then ?_
              refine g_seq ?_
              refine g_region ?_
              refine g_val rfl rfl rfl (fun _ _ => v_move rfl) ?_
              refine g_val rfl rfl rfl (fun _ _ => v_makeFunc (u := #[]) (u' := #[_, _]) rfl rfl) ?_
              refine g_callW (ι := Nat × List WV) (p := fun i => wproj i.2 = waysF L.S (mayFree sl pl) ∧ ∀ e, e ∈ i.2 → e.ok) (A := fun i => (i.1, mobj (mlist i.2))) (T := fun i => wown i.2) (ret := fun i => .map (some i.1)) rfl rfl rfl rfl rfl rfl rfl (fun a w => Try.call124 a w) (fun w hh => (c_ways L bd (gatesOf L.S) 125 #[] #[ptr b2 0, ptr b3 0] (mayFree sl pl) w (hL.ext hh.toExt) hG (hh.seg 0 rfl) (fun a w => Try.call125 a w) (fun w2 hx k q hk hq => c_Hold2 r1 r2 sl pl c1 c2 _ _ b2 b3 w2 hl1 hl2 hr1 hr2 ((hh.seg 1 rfl).ext hx (by simp)) ((hh.seg 2 rfl).ext hx (by simp)) ((hh.ownSeg 1 rfl).ext hx (by simp)) ((hh.ownSeg 0 rfl).ext hx (by simp)))).mono (by rintro en w' ⟨bm, W, rfl, h1, h2, h3⟩; exact ⟨(bm, W), rfl, ⟨h1, h2⟩, h3⟩)) ?_
              rintro ⟨bm, W⟩ ⟨hWp, hWo⟩
              refine g_val rfl rfl rfl (fun _ _ => v_assign rfl) ?_
              refine g_nil ?_
              refine g_n_then ?_
              refine g_seq ?_
              refine g_seq ?_
              refine g_region ?_
              refine g_val rfl rfl rfl (fun _ _ => v_move rfl) ?_
              refine g_val rfl rfl rfl (fun _ _ => v_move rfl) ?_
              refine g_val rfl rfl rfl (fun w hh => v_lookup2 (Try.runUnderlying170 w) (Try.runUnderlying3 w) (Try.zeroValue26 w) rfl rfl (hh.get 0 rfl)) ?_
              refine g_val rfl rfl rfl (fun _ _ => v_move rfl) ?_
              refine g_val rfl rfl rfl (fun _ _ => v_extract rfl rfl) ?_
              refine g_val rfl rfl rfl (fun _ _ => v_extract rfl rfl) ?_
              refine g_val rfl rfl rfl (fun _ _ => v_assign rfl) ?_
              refine g_val rfl rfl rfl (fun _ _ => v_assign rfl) ?_
              refine g_nil ?_
              refine g_n_then ?_
              refine g_seq ?_
              refine g_region ?_
              refine g_val rfl rfl rfl (fun _ _ => v_move rfl) ?_
              refine g_nil ?_
              refine g_n_then ?_
              refine g_cond rfl (fun hme => ?_) (fun hme => ?_)
              · rw [mget_isSome, hWp] at hme
                refine g_seq ?_
                refine g_region ?_
                refine g_val rfl rfl rfl (fun _ _ => v_assign rfl) ?_
                refine g_val rfl rfl rfl (fun _ _ => v_assign rfl) ?_
                refine g_nil ?_
                refine g_n_then ?_
                refine g_ret ?_
                refine g_r_then ?_
                refine g_done rfl (fun w hh => (.tmp rfl (.tmp rfl .nil))) (fun w hh => ⟨?_, hh.toExt⟩)
                have eE : holdE L.S p sl pl = 8 := by simp only [holdE, *, ne_eq, not_true_eq_false, not_false_eq_true, if_false, if_true, Bool.true_eq_false, Bool.false_eq_true, or_self, or_true, true_or]
                rw [HoldR, if_pos (by rw [eE]; decide), eE]
                rfl
              · rw [mget_isSome, hWp] at hme
                refine g_skip ?_
                refine g_n_then ?_
                refine g_seq ?_
                refine g_seq ?_
                refine g_region ?_
                refine g_val rfl rfl rfl (fun w hh => v_load (Try.isAgg26 w) rfl (hh.cell 2 rfl rfl)) ?_
                refine g_val rfl rfl rfl (fun w _ => v_lenS (Try.runUnderlying26 w) rfl) ?_
                refine g_val rfl rfl rfl (fun w hh => v_load (Try.isAgg26 w) rfl (hh.cell 1 rfl rfl)) ?_
                refine g_val rfl rfl rfl (fun w _ => v_lenS (Try.runUnderlying26 w) rfl) ?_
                refine g_val rfl rfl rfl (fun _ _ => v_add rfl rfl (wrap_i64 (by omega))) ?_
                refine g_val rfl rfl rfl (fun _ _ => v_eql rfl rfl) ?_
                refine g_nil ?_
                refine g_n_then ?_
                refine g_cond rfl (fun hc75_7 => ?_) (fun hc75_7 => ?_)
                · replace hc75_7 := of_decide_eq_true hc75_7
                  refine g_seq ?_
                  refine g_region ?_
                  refine g_val rfl rfl rfl (fun _ _ => v_assign rfl) ?_
                  refine g_val rfl rfl rfl (fun _ _ => v_assign rfl) ?_
                  refine g_nil ?_
                  refine g_n_then ?_
                  refine g_ret ?_
                  refine g_r_then ?_
                  refine g_done rfl (fun w hh => (.tmp rfl (.tmp rfl .nil))) (fun w hh => ⟨?_, hh.toExt⟩)
                  have eE : holdE L.S p sl pl = 6 := by simp only [holdE, *, ne_eq, not_true_eq_false, not_false_eq_true, if_false, if_true, Bool.true_eq_false, Bool.false_eq_true, or_self, or_true, true_or]
                  rw [HoldR, if_pos (by rw [eE]; decide), eE]
                  rfl
                · replace hc75_7 := of_decide_eq_false hc75_7
                  refine g_skip ?_
                  refine g_n_then ?_
                  refine g_seq ?_
                  refine g_region ?_
                  refine g_val rfl rfl rfl (fun _ _ => v_assign rfl) ?_
                  refine g_nil ?_
                  refine g_n_then ?_
                  refine g_seq ?_
                  refine g_seq ?_
                  refine g_region ?_
                  refine g_val rfl rfl rfl (fun w hh => v_load (Try.isAgg26 w) rfl (hh.cell 2 rfl rfl)) ?_
                  refine g_val rfl rfl rfl (fun w _ => v_lenS (Try.runUnderlying26 w) rfl) ?_
                  refine g_val rfl rfl rfl (fun _ _ => v_move rfl) ?_
                  refine g_nil ?_
                  refine g_n_then ?_
                  refine g_block ?_
                  refine g_sub (e' := [(78, _), (15, _), (4, _), (7, _), (76, _), (77, _)]) ((.cons rfl (.cons rfl (.cons rfl (.cons rfl (.cons rfl (.cons rfl .nil))))))) ?_
                  refine g_loopM (ι := Nat) (fun k => [(78, .int .i64 (k : Nat)), (15, .int .i64 (holdS L.S (sl.take k)))]) (fun k => []) (fun k => k ≤ sl.length) (fun k => sl.length - k) 0 (Nat.zero_le _) ?_
                  intro k hI1
                  refine g_seq ?_
                  refine g_region ?_
                  refine g_val rfl rfl rfl (fun _ _ => v_lss rfl rfl) ?_
                  refine g_nil ?_
                  refine g_n_then ?_
                  refine g_seq ?_
                  refine g_cond rfl (fun h79 => ?_) (fun h79 => ?_)
                  · replace h79 := of_decide_eq_true h79
                    have hin := isSill_iff.1 (all_getD (d := (0 : Int)) hev1 (j := k) (by omega))
                    refine g_skip ?_
                    refine g_n_then ?_
                    refine g_seq ?_
                    refine g_block ?_
                    refine g_seq ?_
                    refine g_region ?_
                    refine g_val rfl rfl rfl (fun w _ => v_indexAddr1 k (Try.runUnderlying26 w) (Try.sizeOf3 w) rfl rfl rfl (by omega) (hr1 (by omega))) ?_
                    refine g_val rfl rfl rfl (fun w hh => v_load (Try.isAgg3 w) rfl (hh.int (j := k) 1 rfl (by omega))) ?_
                    refine g_val rfl rfl rfl (fun _ _ => v_assign rfl) ?_
                    refine g_nil ?_
                    refine g_n_then ?_
                    refine g_region ?_
                    refine g_val rfl rfl rfl (fun _ _ => v_move rfl) ?_
                    refine g_val rfl rfl rfl (fun w _ => v_fieldAddr 4 (Try.runUnderlying29 w) rfl (Try.sizeOf27 w) rfl) ?_
                    refine g_val rfl rfl rfl (fun w hh => v_load (Try.isAgg27 w) rfl (hh.cell 3 rfl rfl)) ?_
                    refine g_val rfl rfl rfl (fun _ _ => v_move rfl) ?_
                    refine g_val rfl rfl rfl (fun w _ => v_idxI (Try.runUnderlying27 w) (Try.sizeOf51 w) rfl rfl (by omega) (by omega) (hL.s0 (by omega))) ?_
                    refine g_val rfl rfl rfl (fun w _ => v_fieldAddr 2 (Try.runUnderlying51 w) rfl (Try.sizeOf3 w) rfl) ?_
                    refine g_val rfl rfl rfl (fun w hh => v_load (Try.isAgg3 w) rfl (hh.fld encS_len 5 2 rfl (by omega) rfl rfl)) ?_
                    refine g_val rfl rfl rfl (fun _ _ => v_min rfl rfl) ?_
                    refine g_val rfl rfl rfl (fun _ _ => v_assign rfl) ?_
                    refine g_nil ?_
                    refine g_n_blk ?_
                    refine g_n_then ?_
                    refine g_region ?_
                    refine g_val rfl rfl rfl (fun _ _ => v_add rfl rfl (wrap_i64 (by omega))) ?_
                    refine g_val rfl rfl rfl (fun _ _ => v_move rfl) ?_
                    refine g_nil ?_
                    refine g_n_then ?_
                    have e1 : holdS L.S (sl.take (k + 1)) = min (holdS L.S (sl.take k)) (L.S.sills.getD (sl.getD k 0).toNat default).h := take_foldl (d := (0 : Int)) (by omega)
                    refine g_set 15 rfl (congrArg (Value.int .i64) e1.symm) ?_
                    exact g_againD (i := k) (k + 1) 0 ((.cons rfl (.cons rfl (.cons rfl (.cons rfl (.cons rfl (.cons rfl .nil))))))) rfl (by omega) (by omega)
                  · replace h79 := of_decide_eq_false h79
                    have ek : k = sl.length := by omega
                    subst ek
                    rw [List.take_length]
                    refine g_exit ?_
                    refine g_x_then ?_
                    refine g_x_then ?_
                    refine g_x_blk ?_
                    refine g_n_then ?_
                    refine g_seq ?_
                    refine g_seq ?_
                    refine g_region ?_
                    refine g_val rfl rfl rfl (fun w hh => v_load (Try.isAgg26 w) rfl (hh.cell 1 rfl rfl)) ?_
                    refine g_val rfl rfl rfl (fun w _ => v_lenS (Try.runUnderlying26 w) rfl) ?_
                    refine g_val rfl rfl rfl (fun _ _ => v_move rfl) ?_
                    refine g_nil ?_
                    refine g_n_then ?_
                    refine g_block ?_
                    refine g_sub (e' := [(93, _), (15, _), (4, _), (91, _), (92, _)]) ((.cons rfl (.cons rfl (.cons rfl (.cons rfl (.cons rfl .nil)))))) ?_
                    refine g_loopM (ι := Nat) (fun k => [(93, .int .i64 (k : Nat)), (15, .int .i64 (holdV L.S sl (pl.take k)))]) (fun k => []) (fun k => k ≤ pl.length) (fun k => pl.length - k) 0 (Nat.zero_le _) ?_
                    intro k hI3
                    refine g_seq ?_
                    refine g_region ?_
                    refine g_val rfl rfl rfl (fun _ _ => v_lss rfl rfl) ?_
                    refine g_nil ?_
                    refine g_n_then ?_
                    refine g_seq ?_
                    refine g_cond rfl (fun h94 => ?_) (fun h94 => ?_)
                    · replace h94 := of_decide_eq_true h94
                      have hin := isPlace_iff.1 (all_getD (d := (0 : Int)) hev2 (j := k) (by omega))
                      refine g_skip ?_
                      refine g_n_then ?_
                      refine g_seq ?_
                      refine g_block ?_
                      refine g_seq ?_
                      refine g_region ?_
                      refine g_val rfl rfl rfl (fun w _ => v_indexAddr1 k (Try.runUnderlying26 w) (Try.sizeOf3 w) rfl rfl rfl (by omega) (hr2 (by omega))) ?_
                      refine g_val rfl rfl rfl (fun w hh => v_load (Try.isAgg3 w) rfl (hh.int (j := k) 2 rfl (by omega))) ?_
                      refine g_val rfl rfl rfl (fun _ _ => v_assign rfl) ?_
                      refine g_nil ?_
                      refine g_n_then ?_
                      refine g_region ?_
                      refine g_val rfl rfl rfl (fun _ _ => v_move rfl) ?_
                      refine g_val rfl rfl rfl (fun w _ => v_fieldAddr 3 (Try.runUnderlying29 w) rfl (Try.sizeOf26 w) rfl) ?_
                      refine g_val rfl rfl rfl (fun w hh => v_load (Try.isAgg26 w) rfl (hh.cell 3 rfl rfl)) ?_
                      refine g_val rfl rfl rfl (fun _ _ => v_move rfl) ?_
                      refine g_val rfl rfl rfl (fun w _ => v_idxI1 (Try.runUnderlying26 w) (Try.sizeOf3 w) rfl rfl (by omega) (by omega) (hL.f0 (by omega))) ?_
                      refine g_val rfl rfl rfl (fun w hh => v_load (Try.isAgg3 w) rfl (hh.int 4 rfl (by omega))) ?_
                      refine g_val rfl rfl rfl (fun _ _ => v_min rfl rfl) ?_
                      refine g_val rfl rfl rfl (fun _ _ => v_assign rfl) ?_
                      refine g_nil ?_
                      refine g_n_blk ?_
                      refine g_n_then ?_
                      refine g_region ?_
                      refine g_val rfl rfl rfl (fun _ _ => v_add rfl rfl (wrap_i64 (by omega))) ?_
                      refine g_val rfl rfl rfl (fun _ _ => v_move rfl) ?_
                      refine g_nil ?_
                      refine g_n_then ?_
                      have e1 : holdV L.S sl (pl.take (k + 1)) = min (holdV L.S sl (pl.take k)) (L.S.floors.getD (pl.getD k 0).toNat 0) := take_foldl (d := (0 : Int)) (by omega)
                      refine g_set 15 rfl (congrArg (Value.int .i64) e1.symm) ?_
                      exact g_againD (i := k) (k + 1) 0 ((.cons rfl (.cons rfl (.cons rfl (.cons rfl (.cons rfl .nil)))))) rfl (by omega) (by omega)
                    · replace h94 := of_decide_eq_false h94
                      have ek : k = pl.length := by omega
                      subst ek
                      rw [List.take_length]
                      refine g_exit ?_
                      refine g_x_then ?_
                      refine g_x_then ?_
                      refine g_x_blk ?_
                      refine g_n_then ?_
                      refine g_seq ?_
                      refine g_region ?_
                      refine g_val rfl rfl rfl (fun _ _ => v_move rfl) ?_
                      refine g_val rfl rfl rfl (fun _ _ => v_assign rfl) ?_
                      refine g_val rfl rfl rfl (fun _ _ => v_assign rfl) ?_
                      refine g_nil ?_
                      refine g_n_then ?_
                      refine g_ret ?_
                      refine g_done rfl (fun w hh => (.tmp rfl (.tmp rfl .nil))) (fun w hh => ⟨?_, hh.toExt⟩)
                      have eE : holdE L.S p sl pl = 0 := by simp only [holdE, *, ne_eq, not_true_eq_false, if_false, Bool.true_eq_false, Bool.false_eq_true, or_self]
                      rw [HoldR, if_neg (by simp [eE])]
                      rfl
  · refine g_callv rfl rfl rfl rfl rfl rfl rfl (fun a w => Try.call102 a w) (fun w hh => c_openedE L w (hL.ext hh.toExt) hc) ?_
    refine g_val rfl rfl rfl (fun _ _ => v_move rfl) ?_
    refine g_val rfl rfl rfl (fun _ _ => v_extract rfl rfl) ?_
    refine g_val rfl rfl rfl (fun _ _ => v_extract rfl rfl) ?_
    refine g_val rfl rfl rfl (fun _ _ => v_assign rfl) ?_
    refine g_val rfl rfl rfl (fun _ _ => v_assign rfl) ?_
    refine g_nil ?_
    refine g_n_then ?_
    refine g_seq ?_
    refine g_block ?_
    refine g_seq ?_
    refine g_region ?_
    refine g_val rfl rfl rfl (fun _ _ => v_move rfl) ?_
    refine g_val rfl rfl rfl (fun _ _ => v_neq rfl rfl) ?_
    refine g_val rfl rfl rfl (fun _ _ => v_assign rfl) ?_
    refine g_nil ?_
    refine g_n_then ?_
    refine g_condT rfl (neP hc) ?_
    refine g_seq ?_
    refine g_region ?_
    refine g_val rfl rfl rfl (fun _ _ => v_move rfl) ?_
    refine g_val rfl rfl rfl (fun _ _ => v_assign rfl) ?_
    refine g_val rfl rfl rfl (fun _ _ => v_assign rfl) ?_
    refine g_nil ?_
    refine g_n_then ?_
    refine g_ret ?_
    refine g_r_blk ?_
    refine g_r_then ?_
    refine g_done rfl (fun w hh => (.tmp rfl (.tmp rfl .nil))) (fun w hh => ⟨?_, hh.toExt⟩)
    have eE : holdE L.S p sl pl = check L.S := by simp only [holdE, *, ne_eq, not_true_eq_false, not_false_eq_true, if_false, if_true, Bool.true_eq_false, Bool.false_eq_true, or_self, or_true, true_or]
    rw [HoldR, if_pos (by rw [eE]; exact hc), eE]
    rfl

end Go.Proofs

namespace Go.Fw
open Go
section
variable {n : Nat} {ds : List Deferred} {e : EnvL} {P : Program} {r : Option Nat} {Q : Exit → Act → World → Prop} {ops : Array Oper} {w0 : World} {M : List Nat} {own : List (Nat × Obj)} {ro : List Sg}
end
end Go.Fw
namespace Go.Proofs
open Go Go.Fw Go.Pl
theorem ext_getDd {α : Type} {d : α} {a b : List α} (hl : a.length = b.length) (h : ∀ j, j < a.length → a.getD j d = b.getD j d) : a = b := by
  apply List.ext_getElem hl
  intro j h1 h2
  have := h j h1
  simpa [List.getD_eq_getElem?_getD, h1, h2] using this
end Go.Proofs

namespace Go.Proofs
open Go Go.Fw Go.Pl
set_option linter.unusedVariables false
set_option maxRecDepth 100000 in
theorem eqg25 : Try.prog.eqGuardType Try.prog.depth 25 = false := by decide +kernel
set_option maxRecDepth 100000 in
theorem sth25 : Try.prog.stoodInHeld 25 = false := by decide +kernel
set_option maxRecDepth 100000 in
theorem eq25 (x y : Span) (w : World) : (Op.equalIn 10000 25 (.agg (encP x).toArray) (.agg (encP y).toArray)).run Try.prog w = .ok (decide (x = y)) w := by
  have h := equal_struct (xs := (encP x).toArray) (ys := (encP y).toArray) Try.underlying25 sth25 (.int rfl (fun w => Try.isAgg3 w) ⟨_, Try.underlying3⟩ rfl rfl (.int rfl (fun w => Try.isAgg3 w) ⟨_, Try.underlying3⟩ rfl rfl .nil)) w
  rw [h]
  congr 1
  cases x; cases y
  rw [Bool.eq_iff_iff]
  simp only [Bool.and_eq_true, decide_eq_true_eq, Span.mk.injEq, and_true]
set_option maxRecDepth 100000 in
set_option maxHeartbeats 4000000 in
theorem c_Equal_int (ra rb : Option (Nat × Nat)) (a c : List Int) (ca cb : Nat) (w : World) (hla : a.length ≤ 1000000) (hlb : c.length ≤ 1000000) (hra : 0 < a.length → ra ≠ none) (hrb : 0 < c.length → rb ≠ none) (hsa : segOK w (bk ra, off ra, ints a)) (hsb : segOK w (bk rb, off rb, ints c)) : Ret Try.prog 130 [slv ra a.length ca, slv rb c.length cb] w (.bool (decide (a = c))) := by
  refine g_enter (args := [slv ra a.length ca, slv rb c.length cb]) Try.func130 rfl Try.ntmps130 rfl (e := [(0, _), (1, _)]) rfl (HS.start w [] [(bk ra, off ra, ints a), (bk rb, off rb, ints c)] (segsC hsa (segsC hsb segsN))) ?_
  refine g_seq ?_
  refine g_region ?_
  refine g_val rfl rfl rfl (fun _ _ => v_assign rfl) ?_
  refine g_nil ?_
  refine g_n_then ?_
  refine g_seq ?_
  refine g_seq ?_
  refine g_region ?_
  refine g_val rfl rfl rfl (fun _ _ => v_move rfl) ?_
  refine g_val rfl rfl rfl (fun w _ => v_lenS (Try.runUnderlying26 w) rfl) ?_
  refine g_val rfl rfl rfl (fun _ _ => v_move rfl) ?_
  refine g_val rfl rfl rfl (fun w _ => v_lenS (Try.runUnderlying26 w) rfl) ?_
  refine g_val rfl rfl rfl (fun _ _ => v_neq rfl rfl) ?_
  refine g_nil ?_
  refine g_n_then ?_
  refine g_cond rfl (fun hlen => ?_) (fun hlen => ?_)
  · replace hlen := of_ndec_true hlen
    replace hlen : ¬ a.length = c.length := by omega
    refine g_seq ?_
    refine g_region ?_
    refine g_val rfl rfl rfl (fun _ _ => v_assign rfl) ?_
    refine g_nil ?_
    refine g_n_then ?_
    refine g_ret ?_
    refine g_r_then ?_
    refine g_done rfl (fun w hh => (.tmp rfl .nil)) (fun w hh => ⟨?_, hh.toExt⟩)
    have hne : a ≠ c := fun h => hlen (by rw [h])
    simp [retv, hne]
  · replace hlen := of_ndec_false hlen
    replace hlen : a.length = c.length := by omega
    refine g_skip ?_
    refine g_n_then ?_
    refine g_seq ?_
    refine g_seq ?_
    refine g_region ?_
    refine g_val rfl rfl rfl (fun _ _ => v_move rfl) ?_
    refine g_val rfl rfl rfl (fun w _ => v_lenS (Try.runUnderlying26 w) rfl) ?_
    refine g_val rfl rfl rfl (fun _ _ => v_move rfl) ?_
    refine g_nil ?_
    refine g_n_then ?_
    refine g_block ?_
    refine g_sub (e' := [(13, _), (0, _), (1, _), (12, _)]) ((.cons rfl (.cons rfl (.cons rfl (.cons rfl .nil))))) ?_
    refine g_loopM (ι := Nat) (fun k => [(13, .int .i64 (k : Nat))]) (fun k => []) (fun k => k ≤ a.length ∧ ∀ i, i < k → a.getD i (0 : Int) = c.getD i (0 : Int)) (fun k => a.length - k) 0 (⟨Nat.zero_le _, fun i hi => absurd hi (by omega)⟩) ?_
    intro k hI0
    refine g_seq ?_
    refine g_region ?_
    refine g_val rfl rfl rfl (fun _ _ => v_lss rfl rfl) ?_
    refine g_nil ?_
    refine g_n_then ?_
    refine g_seq ?_
    refine g_cond rfl (fun hc14_2 => ?_) (fun hc14_2 => ?_)
    · replace hc14_2 := of_decide_eq_true hc14_2
      refine g_skip ?_
      refine g_n_then ?_
      refine g_seq ?_
      refine g_block ?_
      refine g_seq ?_
      refine g_region ?_
      refine g_val rfl rfl rfl (fun _ _ => v_move rfl) ?_
      refine g_val rfl rfl rfl (fun _ _ => v_assign rfl) ?_
      refine g_nil ?_
      refine g_n_then ?_
      refine g_seq ?_
      refine g_draw none (.free 0 (.free 1 (.hoist 2 (.hoist 3 (.free 4 (.free 5 (.hoist 6 (.hoist 7 (.free 8 .done))))))))) _ rfl (by decide +kernel) (fun w k hh => hh.draw k) (fun w hh => hh) ?_
      refine p_free rfl rfl rfl rfl (fun _ _ => v_move rfl) ?_
      refine p_free rfl rfl rfl rfl (fun _ _ => v_move rfl) ?_
      refine p_hoist rfl rfl rfl rfl (fun w _ => v_indexAddr1 k (Try.runUnderlying26 w) (Try.sizeOf3 w) rfl rfl rfl (by omega) (hra (by omega))) ?_
      refine p_hoist rfl rfl rfl rfl (fun w hh => v_load (Try.isAgg3 w) rfl (hh.int (j := k) 0 rfl (by omega))) ?_
      refine p_free rfl rfl rfl rfl (fun _ _ => v_move rfl) ?_
      refine p_free rfl rfl rfl rfl (fun _ _ => v_move rfl) ?_
      refine p_hoist rfl rfl rfl rfl (fun w _ => v_indexAddr1 k (Try.runUnderlying26 w) (Try.sizeOf3 w) rfl rfl rfl (by omega) (hrb (by omega))) ?_
      refine p_hoist rfl rfl rfl rfl (fun w hh => v_load (Try.isAgg3 w) rfl (hh.int (j := k) 1 rfl (by omega))) ?_
      refine p_free rfl rfl rfl rfl (fun _ _ => v_neq rfl rfl) ?_
      refine p_done ?_
      refine g_n_then ?_
      refine g_cond rfl (fun hq => ?_) (fun hq => ?_)
      · replace hq := of_ndec_true hq
        refine g_seq ?_
        refine g_region ?_
        refine g_val rfl rfl rfl (fun _ _ => v_assign rfl) ?_
        refine g_nil ?_
        refine g_n_then ?_
        refine g_ret ?_
        refine g_r_blk ?_
        refine g_r_then ?_
        refine g_r_then ?_
        refine g_r_blk ?_
        refine g_r_then ?_
        refine g_done rfl (fun w hh => (.tmp rfl .nil)) (fun w hh => ⟨?_, hh.toExt⟩)
        have hne : a ≠ c := fun h => hq (by rw [h])
        simp [retv, hne]
      · replace hq := of_ndec_false hq
        refine g_skip ?_
        refine g_n_blk ?_
        refine g_n_then ?_
        refine g_region ?_
        refine g_val rfl rfl rfl (fun _ _ => v_add rfl rfl (wrap_i64 (by omega))) ?_
        refine g_val rfl rfl rfl (fun _ _ => v_move rfl) ?_
        refine g_nil ?_
        refine g_n_then ?_
        exact g_againM (i := k) (k + 1) [] ((.cons rfl (.cons rfl (.cons rfl (.cons rfl .nil))))) (by decide) rfl (⟨by omega, fun i hi => by rcases Nat.lt_succ_iff_lt_or_eq.1 hi with h | h; exact hI0.2 i h; subst h; exact hq⟩) (by omega)
    · replace hc14_2 := of_decide_eq_false hc14_2
      refine g_exit ?_
      refine g_x_then ?_
      refine g_x_then ?_
      refine g_x_blk ?_
      refine g_n_then ?_
      refine g_seq ?_
      refine g_region ?_
      refine g_val rfl rfl rfl (fun _ _ => v_assign rfl) ?_
      refine g_nil ?_
      refine g_n_then ?_
      refine g_ret ?_
      have ek : k = a.length := by omega
      subst ek
      have he : a = c := ext_getDd (d := (0 : Int)) (by omega) hI0.2
      refine g_done rfl (fun w hh => (.tmp rfl .nil)) (fun w hh => ⟨?_, hh.toExt⟩)
      simp [retv, he]

set_option maxRecDepth 100000 in
set_option maxHeartbeats 4000000 in
theorem c_Eq_int (ra rb : Option (Nat × Nat)) (a c : List Int) (ca cb : Nat) (w : World) (hla : a.length ≤ 1000000) (hlb : c.length ≤ 1000000) (hra : 0 < a.length → ra ≠ none) (hrb : 0 < c.length → rb ≠ none) (hsa : segOK w (bk ra, off ra, ints a)) (hsb : segOK w (bk rb, off rb, ints c)) : Ret Try.prog 59 [slv ra a.length ca, slv rb c.length cb] w (.bool (decide (a = c))) := by
  refine g_enter (args := [slv ra a.length ca, slv rb c.length cb]) Try.func59 rfl Try.ntmps59 rfl (e := [(0, _), (1, _)]) rfl (HS.start w [] [(bk ra, off ra, ints a), (bk rb, off rb, ints c)] (segsC hsa (segsC hsb segsN))) ?_
  refine g_seq ?_
  refine g_region ?_
  refine g_val rfl rfl rfl (fun _ _ => v_assign rfl) ?_
  refine g_nil ?_
  refine g_n_then ?_
  refine g_seq ?_
  refine g_region ?_
  refine g_val rfl rfl rfl (fun _ _ => v_move rfl) ?_
  refine g_val rfl rfl rfl (fun _ _ => v_move rfl) ?_
  refine g_callv rfl rfl rfl rfl rfl rfl rfl (fun a w => Try.call130 a w) (fun w hh => c_Equal_int ra rb a c ca cb w hla hlb hra hrb (hh.seg 0 rfl) (hh.seg 1 rfl)) ?_
  refine g_val rfl rfl rfl (fun _ _ => v_assign rfl) ?_
  refine g_nil ?_
  refine g_n_then ?_
  refine g_ret ?_
  refine g_done rfl (fun w hh => (.tmp rfl .nil)) (fun w hh => ⟨?_, hh.toExt⟩)
  rfl

set_option maxRecDepth 100000 in
set_option maxHeartbeats 4000000 in
theorem c_Equal_State (ra rb : Option (Nat × Nat)) (a c : List Int) (ca cb : Nat) (w : World) (hla : a.length ≤ 1000000) (hlb : c.length ≤ 1000000) (hra : 0 < a.length → ra ≠ none) (hrb : 0 < c.length → rb ≠ none) (hsa : segOK w (bk ra, off ra, ints a)) (hsb : segOK w (bk rb, off rb, ints c)) : Ret Try.prog 114 [slv ra a.length ca, slv rb c.length cb] w (.bool (decide (a = c))) := by
  refine g_enter (args := [slv ra a.length ca, slv rb c.length cb]) Try.func114 rfl Try.ntmps114 rfl (e := [(0, _), (1, _)]) rfl (HS.start w [] [(bk ra, off ra, ints a), (bk rb, off rb, ints c)] (segsC hsa (segsC hsb segsN))) ?_
  refine g_seq ?_
  refine g_region ?_
  refine g_val rfl rfl rfl (fun _ _ => v_assign rfl) ?_
  refine g_nil ?_
  refine g_n_then ?_
  refine g_seq ?_
  refine g_seq ?_
  refine g_region ?_
  refine g_val rfl rfl rfl (fun _ _ => v_move rfl) ?_
  refine g_val rfl rfl rfl (fun w _ => v_lenS (Try.runUnderlying43 w) rfl) ?_
  refine g_val rfl rfl rfl (fun _ _ => v_move rfl) ?_
  refine g_val rfl rfl rfl (fun w _ => v_lenS (Try.runUnderlying43 w) rfl) ?_
  refine g_val rfl rfl rfl (fun _ _ => v_neq rfl rfl) ?_
  refine g_nil ?_
  refine g_n_then ?_
  refine g_cond rfl (fun hlen => ?_) (fun hlen => ?_)
  · replace hlen := of_ndec_true hlen
    replace hlen : ¬ a.length = c.length := by omega
    refine g_seq ?_
    refine g_region ?_
    refine g_val rfl rfl rfl (fun _ _ => v_assign rfl) ?_
    refine g_nil ?_
    refine g_n_then ?_
    refine g_ret ?_
    refine g_r_then ?_
    refine g_done rfl (fun w hh => (.tmp rfl .nil)) (fun w hh => ⟨?_, hh.toExt⟩)
    have hne : a ≠ c := fun h => hlen (by rw [h])
    simp [retv, hne]
  · replace hlen := of_ndec_false hlen
    replace hlen : a.length = c.length := by omega
    refine g_skip ?_
    refine g_n_then ?_
    refine g_seq ?_
    refine g_seq ?_
    refine g_region ?_
    refine g_val rfl rfl rfl (fun _ _ => v_move rfl) ?_
    refine g_val rfl rfl rfl (fun w _ => v_lenS (Try.runUnderlying43 w) rfl) ?_
    refine g_val rfl rfl rfl (fun _ _ => v_move rfl) ?_
    refine g_nil ?_
    refine g_n_then ?_
    refine g_block ?_
    refine g_sub (e' := [(13, _), (0, _), (1, _), (12, _)]) ((.cons rfl (.cons rfl (.cons rfl (.cons rfl .nil))))) ?_
    refine g_loopM (ι := Nat) (fun k => [(13, .int .i64 (k : Nat))]) (fun k => []) (fun k => k ≤ a.length ∧ ∀ i, i < k → a.getD i (0 : Int) = c.getD i (0 : Int)) (fun k => a.length - k) 0 (⟨Nat.zero_le _, fun i hi => absurd hi (by omega)⟩) ?_
    intro k hI0
    refine g_seq ?_
    refine g_region ?_
    refine g_val rfl rfl rfl (fun _ _ => v_lss rfl rfl) ?_
    refine g_nil ?_
    refine g_n_then ?_
    refine g_seq ?_
    refine g_cond rfl (fun hc14_2 => ?_) (fun hc14_2 => ?_)
    · replace hc14_2 := of_decide_eq_true hc14_2
      refine g_skip ?_
      refine g_n_then ?_
      refine g_seq ?_
      refine g_block ?_
      refine g_seq ?_
      refine g_region ?_
      refine g_val rfl rfl rfl (fun _ _ => v_move rfl) ?_
      refine g_val rfl rfl rfl (fun _ _ => v_assign rfl) ?_
      refine g_nil ?_
      refine g_n_then ?_
      refine g_seq ?_
      refine g_draw none (.free 0 (.free 1 (.hoist 2 (.hoist 3 (.free 4 (.free 5 (.hoist 6 (.hoist 7 (.free 8 .done))))))))) _ rfl (by decide +kernel) (fun w k hh => hh.draw k) (fun w hh => hh) ?_
      refine p_free rfl rfl rfl rfl (fun _ _ => v_move rfl) ?_
      refine p_free rfl rfl rfl rfl (fun _ _ => v_move rfl) ?_
      refine p_hoist rfl rfl rfl rfl (fun w _ => v_indexAddr1 k (Try.runUnderlying43 w) (Try.sizeOf46 w) rfl rfl rfl (by omega) (hra (by omega))) ?_
      refine p_hoist rfl rfl rfl rfl (fun w hh => v_load (Try.isAgg46 w) rfl (hh.int (j := k) 0 rfl (by omega))) ?_
      refine p_free rfl rfl rfl rfl (fun _ _ => v_move rfl) ?_
      refine p_free rfl rfl rfl rfl (fun _ _ => v_move rfl) ?_
      refine p_hoist rfl rfl rfl rfl (fun w _ => v_indexAddr1 k (Try.runUnderlying43 w) (Try.sizeOf46 w) rfl rfl rfl (by omega) (hrb (by omega))) ?_
      refine p_hoist rfl rfl rfl rfl (fun w hh => v_load (Try.isAgg46 w) rfl (hh.int (j := k) 1 rfl (by omega))) ?_
      refine p_free rfl rfl rfl rfl (fun _ _ => v_neq rfl rfl) ?_
      refine p_done ?_
      refine g_n_then ?_
      refine g_cond rfl (fun hq => ?_) (fun hq => ?_)
      · replace hq := of_ndec_true hq
        refine g_seq ?_
        refine g_region ?_
        refine g_val rfl rfl rfl (fun _ _ => v_assign rfl) ?_
        refine g_nil ?_
        refine g_n_then ?_
        refine g_ret ?_
        refine g_r_blk ?_
        refine g_r_then ?_
        refine g_r_then ?_
        refine g_r_blk ?_
        refine g_r_then ?_
        refine g_done rfl (fun w hh => (.tmp rfl .nil)) (fun w hh => ⟨?_, hh.toExt⟩)
        have hne : a ≠ c := fun h => hq (by rw [h])
        simp [retv, hne]
      · replace hq := of_ndec_false hq
        refine g_skip ?_
        refine g_n_blk ?_
        refine g_n_then ?_
        refine g_region ?_
        refine g_val rfl rfl rfl (fun _ _ => v_add rfl rfl (wrap_i64 (by omega))) ?_
        refine g_val rfl rfl rfl (fun _ _ => v_move rfl) ?_
        refine g_nil ?_
        refine g_n_then ?_
        exact g_againM (i := k) (k + 1) [] ((.cons rfl (.cons rfl (.cons rfl (.cons rfl .nil))))) (by decide) rfl (⟨by omega, fun i hi => by rcases Nat.lt_succ_iff_lt_or_eq.1 hi with h | h; exact hI0.2 i h; subst h; exact hq⟩) (by omega)
    · replace hc14_2 := of_decide_eq_false hc14_2
      refine g_exit ?_
      refine g_x_then ?_
      refine g_x_then ?_
      refine g_x_blk ?_
      refine g_n_then ?_
      refine g_seq ?_
      refine g_region ?_
      refine g_val rfl rfl rfl (fun _ _ => v_assign rfl) ?_
      refine g_nil ?_
      refine g_n_then ?_
      refine g_ret ?_
      have ek : k = a.length := by omega
      subst ek
      have he : a = c := ext_getDd (d := (0 : Int)) (by omega) hI0.2
      refine g_done rfl (fun w hh => (.tmp rfl .nil)) (fun w hh => ⟨?_, hh.toExt⟩)
      simp [retv, he]

set_option maxRecDepth 100000 in
set_option maxHeartbeats 4000000 in
theorem c_Eq_State (ra rb : Option (Nat × Nat)) (a c : List Int) (ca cb : Nat) (w : World) (hla : a.length ≤ 1000000) (hlb : c.length ≤ 1000000) (hra : 0 < a.length → ra ≠ none) (hrb : 0 < c.length → rb ≠ none) (hsa : segOK w (bk ra, off ra, ints a)) (hsb : segOK w (bk rb, off rb, ints c)) : Ret Try.prog 39 [slv ra a.length ca, slv rb c.length cb] w (.bool (decide (a = c))) := by
  refine g_enter (args := [slv ra a.length ca, slv rb c.length cb]) Try.func39 rfl Try.ntmps39 rfl (e := [(0, _), (1, _)]) rfl (HS.start w [] [(bk ra, off ra, ints a), (bk rb, off rb, ints c)] (segsC hsa (segsC hsb segsN))) ?_
  refine g_seq ?_
  refine g_region ?_
  refine g_val rfl rfl rfl (fun _ _ => v_assign rfl) ?_
  refine g_nil ?_
  refine g_n_then ?_
  refine g_seq ?_
  refine g_region ?_
  refine g_val rfl rfl rfl (fun _ _ => v_move rfl) ?_
  refine g_val rfl rfl rfl (fun _ _ => v_move rfl) ?_
  refine g_callv rfl rfl rfl rfl rfl rfl rfl (fun a w => Try.call114 a w) (fun w hh => c_Equal_State ra rb a c ca cb w hla hlb hra hrb (hh.seg 0 rfl) (hh.seg 1 rfl)) ?_
  refine g_val rfl rfl rfl (fun _ _ => v_assign rfl) ?_
  refine g_nil ?_
  refine g_n_then ?_
  refine g_ret ?_
  refine g_done rfl (fun w hh => (.tmp rfl .nil)) (fun w hh => ⟨?_, hh.toExt⟩)
  rfl

end Go.Proofs

namespace Go.Pl
def twoS : Sands := ⟨[⟨0, 100⟩, ⟨360, 400⟩, ⟨700, 150⟩], ⟨-10, 20⟩, [180, 220], [⟨-1, 0, 200⟩, ⟨0, 1, 160⟩, ⟨-1, 1, 300⟩]⟩
theorem two_H1 : HeightR twoS 91 = (175, 0) := by decide +kernel
theorem two_H2 : HeightR twoS 400 = (370, 0) := by decide +kernel
theorem two_G : GateR twoS 1 = (220, 0) := by decide +kernel
theorem two_W : WayR twoS 1 = ([0, 1], 0) := by decide +kernel
theorem two_Ho : HoldR twoS 1 [] [1] = (220, 0) := by decide +kernel
theorem two_A : AllR twoS 150 = ([2, 1], 0) := by decide +kernel
theorem two_L : LooksR twoS [⟨120, 0, true⟩] = (⟨1, 20⟩, 0) := by decide +kernel
theorem two_T : TurnR twoS 0 0 = (97, 0) := by decide +kernel
end Go.Pl

namespace Go.Pl
def gCond (s : Sands) (h : Int) (out : List Int) (y : Sill) : Prop := y.h ≤ h ∧ y.b ≠ -1 ∧ s.floors.getD y.b.toNat 0 ≤ h ∧ (y.a = -1 ∨ out.getD y.a.toNat 0 ≤ h)
instance {s : Sands} {h : Int} {out : List Int} {y : Sill} : Decidable (gCond s h out y) := by unfold gCond; infer_instance
end Go.Pl

namespace Go.Proofs
open Go Go.Fw Go.Pl
/-- what of sands does not hang on the world -/
structure LS.Bd (L : LS) : Prop where
  t0 : 0 < L.S.table.length → L.rt ≠ none
  f0 : 0 < L.S.floors.length → L.rf ≠ none
  s0 : 0 < L.S.sills.length → L.rs ≠ none
  tl : L.S.table.length ≤ 8796093022208
  fl : L.S.floors.length ≤ 17592186044416
  sl : L.S.sills.length ≤ 5864062014805
  tc : L.S.table.length ≤ L.ct
  fc : L.S.floors.length ≤ L.cf
  sc : L.S.sills.length ≤ L.cs
theorem LS.OK.bd {L : LS} {w : World} (h : L.OK w) : L.Bd := ⟨h.t0, h.f0, h.s0, h.tl, h.fl, h.sl, h.tc, h.fc, h.sc⟩
theorem LS.Bd.ok {L : LS} {w : World} (h : L.Bd) (hs : ∀ s, s ∈ L.segs → segOK w s) : L.OK w := ⟨hs, h.t0, h.f0, h.s0, h.tl, h.fl, h.sl, h.tc, h.fc, h.sc⟩
theorem LS.Bd.at {L : LS} {w0 w : World} {M : List Nat} {own : List (Nat × Obj)} {ro : List Sg} (h : L.Bd) (hh : HS w0 M own ro w) (i : Nat) (h1 : ro[i]? = some (bk L.rt, off L.rt, flat encW L.S.table)) (h2 : ro[i + 1]? = some (bk L.rf, off L.rf, ints L.S.floors)) (h3 : ro[i + 2]? = some (bk L.rs, off L.rs, flat encS L.S.sills)) : L.OK w :=
  h.ok (fun s hs => by
    simp only [LS.segs, List.mem_cons, List.not_mem_nil, or_false] at hs
    rcases hs with rfl | rfl | rfl
    · exact hh.seg i h1
    · exact hh.seg (i + 1) h2
    · exact hh.seg (i + 2) h3)
end Go.Proofs
namespace Go.Fw
open Go
theorem News.of3 {w0 w : World} {own : List (Nat × Obj)} {ro : List Sg} {a b c : Sg} (hh : HS w0 [] own ro w) (h1 : segOK w a ∧ (a.2.2 ≠ [] → w0.heap.size ≤ a.1)) (h2 : segOK w b ∧ (b.2.2 ≠ [] → w0.heap.size ≤ b.1)) (h3 : segOK w c ∧ (c.2.2 ≠ [] → w0.heap.size ≤ c.1)) : News w0 w [a, b, c] :=
  (((News.nil hh.toExt).cons h3.1 h3.2).cons h2.1 h2.2).cons h1.1 h1.2
theorem HS.newSeg {w0 w : World} {own : List (Nat × Obj)} {ro : List Sg} (hh : HS w0 [] own ro w) (i : Nat) {b : Nat} {cs : Array Value} {T : TypeId} {fr : Nat × Nat} (hi : own[i]? = some (b, .cells cs T fr)) : segOK w (b, 0, cs.toList) ∧ (cs.toList ≠ [] → w0.heap.size ≤ b) :=
  ⟨hh.ownSeg i hi, fun _ => (hh.new _ (List.mem_of_getElem? hi)).resolve_right (by simp)⟩
end Go.Fw
namespace Go.Fw
open Go
/-- a guarded operation that is wanted: as if it had no guard -/
theorem g_unguard {n : Nat} {ds : List Deferred} {e : EnvL} {P : Program} {r : Option Nat} {Q : Exit → Act → World → Prop} {ops : Array Oper} {H : World → Prop} {rest : List Oper} {dst : Option Nat} {op : Op} {ty : TypeId} {pos : String} {after : Array Edge} {j t : Nat} {want : Bool} (hj : (ops[j]?).bind (·.dst) = some t) (ht : lk e t = some (.bool want))
    (h : G n ds e H (wpListIn (fw r) 0 P ops Q (⟨dst, op, ty, pos, after, none⟩ :: rest))) : G n ds e H (wpListIn (fw r) 0 P ops Q (⟨dst, op, ty, pos, after, some (j, want)⟩ :: rest)) := fun a w he hh => by
  have := h a w he hh
  unfold wpListIn at this ⊢
  rw [if_pos (wanted_none rfl _)] at this
  rw [if_pos (by rw [wanted_some he rfl hj ht]; simp)]
  exact this
end Go.Fw
namespace Go.Fw
open Go
section
variable {n : Nat} {ds : List Deferred} {e : EnvL} {P : Program} {r : Option Nat} {Q : Exit → Act → World → Prop} {ops : Array Oper} {w0 : World} {M : List Nat} {own : List (Nat × Obj)} {ro : List Sg}
end
end Go.Fw
namespace Go.Proofs
open Go Go.Fw Go.Pl
end Go.Proofs
namespace Go.Fw
open Go
section
variable {n : Nat} {ds : List Deferred} {e : EnvL} {H : World → Prop} {P : Program} {r : Option Nat} {Q : Exit → Act → World → Prop} {ops : Array Oper} {C : World → Prop} {X : Act → World → Prop}
end
end Go.Fw
namespace Go.Fw
open Go
end Go.Fw

namespace Go.Proofs
open Go Go.Fw Go.Pl
set_option linter.unusedVariables false
set_option maxRecDepth 100000 in
set_option maxHeartbeats 4000000 in
theorem c_Two (w : World) : Calls Try.prog 105 #[.int .i64 700] w (fun en w' => ∃ L : LS, en = .returned L.val ∧ (L.S = twoS ∧ L.Bd) ∧ News w w' L.segs) := by
  refine g_enter (args := [.int .i64 700]) Try.func105 rfl Try.ntmps105 rfl (e := [(0, _)]) rfl (HS.start w [] [] segsN) ?_
  refine g_seq ?_
  refine g_region ?_
  refine g_alloc (fun w => Try.zeroValue29 w) rfl (fun b1 hb1 => ?_)
  refine g_nil ?_
  refine g_n_then ?_
  refine g_seq ?_
  refine g_region ?_
  refine g_val rfl rfl rfl (fun _ _ => v_build (vs := [(0, _), (1, _)]) (cells := [_, _]) rfl rfl) ?_
  refine g_val rfl rfl rfl (fun _ _ => v_build (vs := [(0, _), (1, _)]) (cells := [_, _]) rfl rfl) ?_
  refine g_val rfl rfl rfl (fun _ _ => v_build (vs := [(0, _), (1, _)]) (cells := [_, _]) rfl rfl) ?_
  refine g_buildSlice (vs := [(0, _), (1, _), (2, _)]) (cells := [_, _, _, _, _, _]) (fun w => Try.runUnderlying23 w) (fun w => Try.sizeOf68 w) (fun w => Try.zeroValue68 w) rfl rfl rfl rfl rfl (fun b2 hb2 => ?_)
  refine g_val rfl rfl rfl (fun _ _ => v_assign rfl) ?_
  refine g_nil ?_
  refine g_n_then ?_
  refine g_seq ?_
  refine g_seq ?_
  refine g_region ?_
  refine g_val rfl rfl rfl (fun _ _ => v_move rfl) ?_
  refine g_val rfl rfl rfl (fun _ _ => v_lss rfl rfl) ?_
  refine g_nil ?_
  refine g_n_then ?_
  refine g_condF rfl (by decide) ?_
  refine g_skip ?_
  refine g_n_then ?_
  refine g_seq ?_
  refine g_region ?_
  refine g_val rfl rfl rfl (fun _ _ => v_move rfl) ?_
  refine g_val rfl rfl rfl (fun _ _ => v_build (vs := [(0, _), (1, _)]) (cells := [_, _]) rfl rfl) ?_
  refine g_buildSlice (vs := [(0, _), (1, _)]) (cells := [_, _]) (fun w => Try.runUnderlying26 w) (fun w => Try.sizeOf3 w) (fun w => Try.zeroValue3 w) rfl rfl rfl rfl rfl (fun b3 hb3 => ?_)
  refine g_val rfl rfl rfl (fun _ _ => v_build (vs := [(0, _), (1, _), (2, _)]) (cells := [_, _, _]) rfl rfl) ?_
  refine g_val rfl rfl rfl (fun _ _ => v_build (vs := [(0, _), (1, _), (2, _)]) (cells := [_, _, _]) rfl rfl) ?_
  refine g_val rfl rfl rfl (fun _ _ => v_build (vs := [(0, _), (1, _), (2, _)]) (cells := [_, _, _]) rfl rfl) ?_
  refine g_buildSlice (vs := [(0, _), (1, _), (2, _)]) (cells := [_, _, _, _, _, _, _, _, _]) (fun w => Try.runUnderlying27 w) (fun w => Try.sizeOf51 w) (fun w => Try.zeroValue51 w) rfl rfl rfl rfl rfl (fun b4 hb4 => ?_)
  refine g_val rfl rfl rfl (fun _ _ => v_build (vs := [(0, _), (1, _), (2, _), (3, _)]) (cells := [_, _, _, _, _]) rfl rfl) ?_
  refine g_storeAgg (vs := #[_, _, _, _, _]) (own' := (_ :: _ :: _ :: _ :: _)) 3 (fun w => Try.sizeOf29 w) rfl rfl rfl rfl rfl rfl ?_
  refine g_nil ?_
  refine g_n_then ?_
  refine g_ret ?_
  refine g_done rfl (fun w hh => (.cell rfl (loadVar_agg (vs := [_, _, _, _, _]) (Try.isAgg29 _) (Try.sizeOf29 _) (hh.cells 3 rfl rfl)) .nil)) (fun w hh => ?_)
  have hN := News.of3 hh (hh.newSeg 2 rfl) (hh.newSeg 1 rfl) (hh.newSeg 0 rfl)
  exact ⟨⟨some (b2, 0), 3, some (b3, 0), 2, some (b4, 0), 3, twoS⟩, rfl, ⟨rfl, by simp, by simp, by simp, by simp [twoS], by simp [twoS], by simp [twoS], by simp [twoS], by simp [twoS], by simp [twoS]⟩, hN⟩

set_option maxRecDepth 100000 in
set_option maxHeartbeats 4000000 in
theorem c_awake (w : World) : Ret Try.prog 30 [] w (.bool true) := by
  refine g_enter (args := []) Try.func30 rfl Try.ntmps30 rfl (e := []) rfl (HS.start w [] [] segsN) ?_
  refine g_seq ?_
  refine g_region ?_
  refine g_val rfl rfl rfl (fun _ _ => v_assign rfl) ?_
  refine g_nil ?_
  refine g_n_then ?_
  refine g_seq ?_
  refine g_region ?_
  refine g_callR (ι := LS) (p := fun L => L.S = twoS ∧ L.Bd) (S := fun L => L.segs) (ret := fun L => L.val) rfl rfl rfl rfl rfl rfl rfl (fun a w => Try.call105 a w) (fun w hh => c_Two w) ?_
  rintro L1 ⟨hSL1, hBL1⟩
  refine g_callv rfl rfl rfl rfl rfl rfl rfl (fun a w => Try.call36 a w) (fun w hh => c_Height 91 L1 w (hBL1.at hh 0 rfl rfl rfl)) ?_
  refine g_set 15 (u := .tuple #[.int .i64 175, .int .i64 0]) rfl (by rw [hSL1, two_H1]) ?_
  refine g_val rfl rfl rfl (fun _ _ => v_move rfl) ?_
  refine g_val rfl rfl rfl (fun _ _ => v_extract rfl rfl) ?_
  refine g_val rfl rfl rfl (fun _ _ => v_extract rfl rfl) ?_
  refine g_val rfl rfl rfl (fun _ _ => v_assign rfl) ?_
  refine g_val rfl rfl rfl (fun _ _ => v_assign rfl) ?_
  refine g_nil ?_
  refine g_n_then ?_
  refine g_seq ?_
  refine g_region ?_
  refine g_callR (ι := LS) (p := fun L => L.S = twoS ∧ L.Bd) (S := fun L => L.segs) (ret := fun L => L.val) rfl rfl rfl rfl rfl rfl rfl (fun a w => Try.call105 a w) (fun w hh => c_Two w) ?_
  rintro L2 ⟨hSL2, hBL2⟩
  refine g_callv rfl rfl rfl rfl rfl rfl rfl (fun a w => Try.call36 a w) (fun w hh => c_Height 400 L2 w (hBL2.at hh 0 rfl rfl rfl)) ?_
  refine g_set 20 (u := .tuple #[.int .i64 370, .int .i64 0]) rfl (by rw [hSL2, two_H2]) ?_
  refine g_val rfl rfl rfl (fun _ _ => v_move rfl) ?_
  refine g_val rfl rfl rfl (fun _ _ => v_extract rfl rfl) ?_
  refine g_val rfl rfl rfl (fun _ _ => v_extract rfl rfl) ?_
  refine g_val rfl rfl rfl (fun _ _ => v_assign rfl) ?_
  refine g_val rfl rfl rfl (fun _ _ => v_assign rfl) ?_
  refine g_nil ?_
  refine g_n_then ?_
  refine g_seq ?_
  refine g_region ?_
  refine g_callR (ι := LS) (p := fun L => L.S = twoS ∧ L.Bd) (S := fun L => L.segs) (ret := fun L => L.val) rfl rfl rfl rfl rfl rfl rfl (fun a w => Try.call105 a w) (fun w hh => c_Two w) ?_
  rintro L3 ⟨hSL3, hBL3⟩
  refine g_callv rfl rfl rfl rfl rfl rfl rfl (fun a w => Try.call31 a w) (fun w hh => c_Gate 1 L3 w (hBL3.at hh 0 rfl rfl rfl)) ?_
  refine g_set 25 (u := .tuple #[.int .i64 220, .int .i64 0]) rfl (by rw [hSL3, two_G]) ?_
  refine g_val rfl rfl rfl (fun _ _ => v_move rfl) ?_
  refine g_val rfl rfl rfl (fun _ _ => v_extract rfl rfl) ?_
  refine g_val rfl rfl rfl (fun _ _ => v_extract rfl rfl) ?_
  refine g_val rfl rfl rfl (fun _ _ => v_assign rfl) ?_
  refine g_val rfl rfl rfl (fun _ _ => v_assign rfl) ?_
  refine g_nil ?_
  refine g_n_then ?_
  refine g_seq ?_
  refine g_region ?_
  refine g_callR (ι := LS) (p := fun L => L.S = twoS ∧ L.Bd) (S := fun L => L.segs) (ret := fun L => L.val) rfl rfl rfl rfl rfl rfl rfl (fun a w => Try.call105 a w) (fun w hh => c_Two w) ?_
  rintro L4 ⟨hSL4, hBL4⟩
  refine g_callv rfl rfl rfl rfl rfl rfl rfl (fun a w => Try.call41 a w) (fun w hh => c_Turn 0 0 L4 w (hBL4.at hh 0 rfl rfl rfl)) ?_
  refine g_set 30 (u := .tuple #[.int .i64 97, .int .i64 0]) rfl (by rw [hSL4, two_T]) ?_
  refine g_val rfl rfl rfl (fun _ _ => v_move rfl) ?_
  refine g_val rfl rfl rfl (fun _ _ => v_extract rfl rfl) ?_
  refine g_val rfl rfl rfl (fun _ _ => v_extract rfl rfl) ?_
  refine g_val rfl rfl rfl (fun _ _ => v_assign rfl) ?_
  refine g_val rfl rfl rfl (fun _ _ => v_assign rfl) ?_
  refine g_nil ?_
  refine g_n_then ?_
  refine g_seq ?_
  refine g_seq ?_
  refine g_region ?_
  refine g_val rfl rfl rfl (fun _ _ => v_move rfl) ?_
  refine g_val rfl rfl rfl (fun _ _ => v_neq rfl rfl) ?_
  refine g_val rfl rfl rfl (fun _ _ => v_move rfl) ?_
  refine g_valG rfl rfl rfl rfl rfl (fun _ _ => v_move rfl) ?_
  refine g_valG rfl rfl rfl rfl rfl (fun _ _ => v_neq rfl rfl) ?_
  refine g_val rfl rfl rfl (fun _ _ => v_pickF rfl rfl) ?_
  refine g_val rfl rfl rfl (fun _ _ => v_move rfl) ?_
  refine g_valG rfl rfl rfl rfl rfl (fun _ _ => v_move rfl) ?_
  refine g_valG rfl rfl rfl rfl rfl (fun _ _ => v_neq rfl rfl) ?_
  refine g_val rfl rfl rfl (fun _ _ => v_pickF rfl rfl) ?_
  refine g_val rfl rfl rfl (fun _ _ => v_move rfl) ?_
  refine g_valG rfl rfl rfl rfl rfl (fun _ _ => v_move rfl) ?_
  refine g_valG rfl rfl rfl rfl rfl (fun _ _ => v_neq rfl rfl) ?_
  refine g_val rfl rfl rfl (fun _ _ => v_pickF rfl rfl) ?_
  refine g_val rfl rfl rfl (fun _ _ => v_move rfl) ?_
  refine g_valG rfl rfl rfl rfl rfl (fun _ _ => v_move rfl) ?_
  refine g_valG rfl rfl rfl rfl rfl (fun _ _ => v_neq rfl rfl) ?_
  refine g_val rfl rfl rfl (fun _ _ => v_pickF rfl rfl) ?_
  refine g_val rfl rfl rfl (fun _ _ => v_move rfl) ?_
  refine g_valG rfl rfl rfl rfl rfl (fun _ _ => v_move rfl) ?_
  refine g_valG rfl rfl rfl rfl rfl (fun _ _ => v_neq rfl rfl) ?_
  refine g_val rfl rfl rfl (fun _ _ => v_pickF rfl rfl) ?_
  refine g_val rfl rfl rfl (fun _ _ => v_move rfl) ?_
  refine g_valG rfl rfl rfl rfl rfl (fun _ _ => v_move rfl) ?_
  refine g_valG rfl rfl rfl rfl rfl (fun _ _ => v_neq rfl rfl) ?_
  refine g_val rfl rfl rfl (fun _ _ => v_pickF rfl rfl) ?_
  refine g_val rfl rfl rfl (fun _ _ => v_move rfl) ?_
  refine g_valG rfl rfl rfl rfl rfl (fun _ _ => v_move rfl) ?_
  refine g_valG rfl rfl rfl rfl rfl (fun _ _ => v_neq rfl rfl) ?_
  refine g_val rfl rfl rfl (fun _ _ => v_pickF rfl rfl) ?_
  refine g_nil ?_
  refine g_n_then ?_
  refine g_condF rfl rfl ?_
  refine g_skip ?_
  refine g_n_then ?_
  refine g_seq ?_
  refine g_region ?_
  refine g_callR (ι := LS) (p := fun L => L.S = twoS ∧ L.Bd) (S := fun L => L.segs) (ret := fun L => L.val) rfl rfl rfl rfl rfl rfl rfl (fun a w => Try.call105 a w) (fun w hh => c_Two w) ?_
  rintro L5 ⟨hSL5, hBL5⟩
  refine g_callR (ι := Option (Nat × Nat) × Nat) (p := fun i => SlOK i.1 ([0, 1] : List Int).length i.2) (S := fun i => [(bk i.1, off i.1, ints [0, 1])]) (ret := fun i => .tuple #[slv i.1 ([0, 1] : List Int).length i.2, .int .i64 0]) rfl rfl rfl rfl rfl rfl rfl (fun a w => Try.call81 a w) (fun w hh => (c_Way 1 L5 w (hBL5.at hh 0 rfl rfl rfl)).mono (by rw [hSL5, two_W]; rintro en w' ⟨q, cap, rfl, h1, h2⟩; exact ⟨(q, cap), rfl, h1, h2⟩)) (fun q6 hq6 => ?_)
  refine g_val rfl rfl rfl (fun _ _ => v_move rfl) ?_
  refine g_val rfl rfl rfl (fun _ _ => v_extract rfl rfl) ?_
  refine g_val rfl rfl rfl (fun _ _ => v_extract rfl rfl) ?_
  refine g_val rfl rfl rfl (fun _ _ => v_assign rfl) ?_
  refine g_val rfl rfl rfl (fun _ _ => v_assign rfl) ?_
  refine g_nil ?_
  refine g_n_then ?_
  refine g_seq ?_
  refine g_region ?_
  refine g_callR (ι := LS) (p := fun L => L.S = twoS ∧ L.Bd) (S := fun L => L.segs) (ret := fun L => L.val) rfl rfl rfl rfl rfl rfl rfl (fun a w => Try.call105 a w) (fun w hh => c_Two w) ?_
  rintro L7 ⟨hSL7, hBL7⟩
  refine g_buildSlice (vs := [(0, _)]) (cells := [_]) (fun w => Try.runUnderlying26 w) (fun w => Try.sizeOf3 w) (fun w => Try.zeroValue3 w) rfl rfl rfl rfl rfl (fun b8 hb8 => ?_)
  refine g_callv rfl rfl rfl rfl rfl rfl rfl (fun a w => Try.call51 a w) (fun w hh => c_Hold 1 none (some (_, 0)) [] [1] 0 1 L7 w (hBL7.at hh 0 rfl rfl rfl) (by decide) (by decide) (by simp) (by simp) segOK.nil (hh.ownSeg 0 rfl)) ?_
  refine g_set 71 (u := .tuple #[.int .i64 220, .int .i64 0]) rfl (by rw [hSL7, two_Ho]) ?_
  refine g_val rfl rfl rfl (fun _ _ => v_move rfl) ?_
  refine g_val rfl rfl rfl (fun _ _ => v_extract rfl rfl) ?_
  refine g_val rfl rfl rfl (fun _ _ => v_extract rfl rfl) ?_
  refine g_val rfl rfl rfl (fun _ _ => v_assign rfl) ?_
  refine g_val rfl rfl rfl (fun _ _ => v_assign rfl) ?_
  refine g_nil ?_
  refine g_n_then ?_
  refine g_seq ?_
  refine g_region ?_
  refine g_callR (ι := LS) (p := fun L => L.S = twoS ∧ L.Bd) (S := fun L => L.segs) (ret := fun L => L.val) rfl rfl rfl rfl rfl rfl rfl (fun a w => Try.call105 a w) (fun w hh => c_Two w) ?_
  rintro L9 ⟨hSL9, hBL9⟩
  refine g_callR (ι := Option (Nat × Nat) × Nat) (p := fun i => SlOK i.1 ([2, 1] : List Int).length i.2) (S := fun i => [(bk i.1, off i.1, ints [2, 1])]) (ret := fun i => .tuple #[slv i.1 ([2, 1] : List Int).length i.2, .int .i64 0]) rfl rfl rfl rfl rfl rfl rfl (fun a w => Try.call28 a w) (fun w hh => (c_All 150 L9 w (hBL9.at hh 0 rfl rfl rfl)).mono (by rw [hSL9, two_A]; rintro en w' ⟨q, cap, rfl, h1, h2⟩; exact ⟨(q, cap), rfl, h1, h2⟩)) (fun q10 hq10 => ?_)
  refine g_val rfl rfl rfl (fun _ _ => v_move rfl) ?_
  refine g_val rfl rfl rfl (fun _ _ => v_extract rfl rfl) ?_
  refine g_val rfl rfl rfl (fun _ _ => v_extract rfl rfl) ?_
  refine g_val rfl rfl rfl (fun _ _ => v_assign rfl) ?_
  refine g_val rfl rfl rfl (fun _ _ => v_assign rfl) ?_
  refine g_nil ?_
  refine g_n_then ?_
  refine g_seq ?_
  refine g_region ?_
  refine g_callR (ι := LS) (p := fun L => L.S = twoS ∧ L.Bd) (S := fun L => L.segs) (ret := fun L => L.val) rfl rfl rfl rfl rfl rfl rfl (fun a w => Try.call105 a w) (fun w hh => c_Two w) ?_
  rintro L11 ⟨hSL11, hBL11⟩
  refine g_val rfl rfl rfl (fun _ _ => v_build (vs := [(0, _), (2, _)]) (cells := [_, _, _]) rfl rfl) ?_
  refine g_buildSlice (vs := [(0, _)]) (cells := [_, _, _]) (fun w => Try.runUnderlying35 w) (fun w => Try.sizeOf89 w) (fun w => Try.zeroValue89 w) rfl rfl rfl rfl rfl (fun b12 hb12 => ?_)
  refine g_callv rfl rfl rfl rfl rfl rfl rfl (fun a w => Try.call23 a w) (fun w hh => c_Looks (some (_, 0)) [⟨120, 0, true⟩] 1 L11 w (hBL11.at hh 0 rfl rfl rfl) (by decide) (by simp) (hh.ownSeg 0 rfl)) ?_
  refine g_set 83 (u := .tuple #[.agg #[.int .i64 1, .int .i64 20], .int .i64 0]) rfl (by rw [hSL11, two_L]; rfl) ?_
  refine g_val rfl rfl rfl (fun _ _ => v_move rfl) ?_
  refine g_val rfl rfl rfl (fun _ _ => v_extract rfl rfl) ?_
  refine g_val rfl rfl rfl (fun _ _ => v_extract rfl rfl) ?_
  refine g_alloc (fun w => Try.zeroValue25 w) rfl (fun b13 hb13 => ?_)
  refine g_storeAgg (vs := #[_, _]) (own' := (_ :: _)) 0 (fun w => Try.sizeOf25 w) rfl rfl rfl rfl rfl rfl ?_
  refine g_val rfl rfl rfl (fun _ _ => v_assign rfl) ?_
  refine g_nil ?_
  refine g_n_then ?_
  refine g_seq ?_
  refine g_region ?_
  refine g_val rfl rfl rfl (fun _ _ => v_move rfl) ?_
  refine g_val rfl rfl rfl (fun _ _ => v_eql rfl rfl) ?_
  refine g_val rfl rfl rfl (fun _ _ => v_move rfl) ?_
  refine g_valG rfl rfl rfl rfl rfl (fun _ _ => v_move rfl) ?_
  refine g_valG rfl rfl rfl rfl rfl (fun _ _ => v_eql rfl rfl) ?_
  refine g_val rfl rfl rfl (fun _ _ => v_pickT rfl rfl) ?_
  refine g_val rfl rfl rfl (fun _ _ => v_move rfl) ?_
  refine g_valG rfl rfl rfl rfl rfl (fun _ _ => v_move rfl) ?_
  refine g_valG rfl rfl rfl rfl rfl (fun _ _ => v_eql rfl rfl) ?_
  refine g_val rfl rfl rfl (fun _ _ => v_pickT rfl rfl) ?_
  refine g_val rfl rfl rfl (fun _ _ => v_move rfl) ?_
  refine g_valG rfl rfl rfl rfl rfl (fun _ _ => v_move rfl) ?_
  refine g_valG rfl rfl rfl rfl rfl (fun _ _ => v_eql rfl rfl) ?_
  refine g_val rfl rfl rfl (fun _ _ => v_pickT rfl rfl) ?_
  refine g_val rfl rfl rfl (fun _ _ => v_move rfl) ?_
  refine g_valG rfl rfl rfl rfl rfl (fun _ _ => v_move rfl) ?_
  refine g_unguard rfl rfl ?_
  refine g_buildSlice (vs := [(0, _), (1, _)]) (cells := [_, _]) (fun w => Try.runUnderlying26 w) (fun w => Try.sizeOf3 w) (fun w => Try.zeroValue3 w) rfl rfl rfl rfl rfl (fun b14 hb14 => ?_)
  refine g_callvG rfl rfl rfl rfl rfl rfl rfl rfl rfl (fun a w => Try.call59 a w) (fun w hh => c_Eq_int q6.1 (some (_, 0)) [0, 1] [0, 1] q6.2 2 w (by decide) (by decide) hq6.ne (by simp) (hh.seg 10 rfl) (hh.ownSeg 0 rfl)) ?_
  refine g_set 103 (u := .bool true) rfl (congrArg Value.bool (decide_eq_true rfl)) ?_
  refine g_val rfl rfl rfl (fun _ _ => v_pickT rfl rfl) ?_
  refine g_val rfl rfl rfl (fun _ _ => v_move rfl) ?_
  refine g_valG rfl rfl rfl rfl rfl (fun _ _ => v_move rfl) ?_
  refine g_valG rfl rfl rfl rfl rfl (fun _ _ => v_eql rfl rfl) ?_
  refine g_val rfl rfl rfl (fun _ _ => v_pickT rfl rfl) ?_
  refine g_val rfl rfl rfl (fun _ _ => v_move rfl) ?_
  refine g_valG rfl rfl rfl rfl rfl (fun _ _ => v_move rfl) ?_
  refine g_unguard rfl rfl ?_
  refine g_buildSlice (vs := [(0, _), (1, _)]) (cells := [_, _]) (fun w => Try.runUnderlying43 w) (fun w => Try.sizeOf46 w) (fun w => Try.zeroValue46 w) rfl rfl rfl rfl rfl (fun b15 hb15 => ?_)
  refine g_callvG rfl rfl rfl rfl rfl rfl rfl rfl rfl (fun a w => Try.call39 a w) (fun w hh => c_Eq_State q10.1 (some (_, 0)) [2, 1] [2, 1] q10.2 2 w (by decide) (by decide) hq10.ne (by simp) (hh.seg 3 rfl) (hh.ownSeg 0 rfl)) ?_
  refine g_set 112 (u := .bool true) rfl (congrArg Value.bool (decide_eq_true rfl)) ?_
  refine g_val rfl rfl rfl (fun _ _ => v_pickT rfl rfl) ?_
  refine g_val rfl rfl rfl (fun _ _ => v_move rfl) ?_
  refine g_valG rfl rfl rfl rfl rfl (fun w hh => v_loadAgg (vs := [_, _]) (Try.isAgg25 w) (Try.sizeOf25 w) rfl (hh.cells 2 rfl rfl)) ?_
  refine g_valG rfl rfl rfl rfl rfl (fun _ _ => v_build (vs := [(0, _), (1, _)]) (cells := [_, _]) rfl rfl) ?_
  refine g_valG rfl rfl rfl rfl rfl (fun w _ => v_eqlAgg (eq25 ⟨1, 20⟩ ⟨1, 20⟩ w) eqg25 rfl rfl) ?_
  refine g_set 117 (u := .bool true) rfl (congrArg Value.bool (decide_eq_true rfl)) ?_
  refine g_val rfl rfl rfl (fun _ _ => v_pickT rfl rfl) ?_
  refine g_val rfl rfl rfl (fun _ _ => v_assign rfl) ?_
  refine g_nil ?_
  refine g_n_then ?_
  refine g_ret ?_
  refine g_done rfl (fun w hh => (.tmp rfl .nil)) (fun w hh => ⟨rfl, hh.toExt⟩)

end Go.Proofs

namespace Go.Proofs.Wk
open Go Go.Fw Go.Gx Go.Pl
set_option linter.unusedVariables false
def x_At (s : Sands) (m : Int) (p : Int) : Option (Int × Int) := if s.table.length ≤ 8796093022208 ∧ s.floors.length ≤ 17592186044416 ∧ s.sills.length ≤ 5864062014805 then some (AtR s m p) else none
theorem cx_At (s : Sands) (m : Int) (p : Int) (q_s_table : Option (Nat × Nat)) (n_s_table c_s_table : Nat) (q_s_floors : Option (Nat × Nat)) (n_s_floors c_s_floors : Nat) (q_s_sills : Option (Nat × Nat)) (n_s_sills c_s_sills : Nat) (w : World) (hw : HV w (keys [] []) [] [] [(bk q_s_table, off q_s_table, RW.enc s.table), (bk q_s_floors, off q_s_floors, RI.enc s.floors), (bk q_s_sills, off q_s_sills, RS.enc s.sills)] w) (hn_s_table : s.table.length = n_s_table) (hne_s_table : 0 < n_s_table → q_s_table ≠ none) (hle_s_table : n_s_table ≤ c_s_table) (hn_s_floors : s.floors.length = n_s_floors) (hne_s_floors : 0 < n_s_floors → q_s_floors ≠ none) (hle_s_floors : n_s_floors ≤ c_s_floors) (hn_s_sills : s.sills.length = n_s_sills) (hne_s_sills : 0 < n_s_sills → q_s_sills ≠ none) (hle_s_sills : n_s_sills ≤ c_s_sills) {res : (Int × Int)} (hm : x_At s m p = some res) :
    Calls Try.prog 46 #[.agg #[slv q_s_table n_s_table c_s_table, .int .i64 s.wind.lo, .int .i64 s.wind.hi, slv q_s_floors n_s_floors c_s_floors, slv q_s_sills n_s_sills c_s_sills], .int .i64 m, .int .i64 p] w (fun en w' => ∃ l : Unit, en = .returned (.tuple #[.int .i64 res.1, .int .i64 res.2]) ∧ True ∧ HV w (keys [] []) [] [] [] w') := by
  unfold x_At at hm
  obtain ⟨hb, hm⟩ := ifO hm
  subst hn_s_table
  subst hn_s_floors
  subst hn_s_sills
  obtain ⟨hb0, hb1, hb2⟩ := hb
  obtain rfl := Option.some.inj hm
  have hL : LS.OK (⟨q_s_table, c_s_table, q_s_floors, c_s_floors, q_s_sills, c_s_sills, s⟩ : LS) w := ⟨segsC (hw.seg 0 rfl) (segsC (by have h := hw.seg 1 rfl; rw [RI_enc] at h; exact h) (segsC (hw.seg 2 rfl) segsN)), hne_s_table, hne_s_floors, hne_s_sills, hb0, hb1, hb2, hle_s_table, hle_s_floors, hle_s_sills⟩
  exact Calls.mono (c_At m p (⟨q_s_table, c_s_table, q_s_floors, c_s_floors, q_s_sills, c_s_sills, s⟩ : LS) w hL) (fun en w' hr => ⟨(), hr.1, trivial, HV.ofExt hr.2⟩)

def x_Turn (s : Sands) (p : Int) (m : Int) : Option (Int × Int) := if s.table.length ≤ 8796093022208 ∧ s.floors.length ≤ 17592186044416 ∧ s.sills.length ≤ 5864062014805 then some (TurnR s p m) else none
theorem cx_Turn (s : Sands) (p : Int) (m : Int) (q_s_table : Option (Nat × Nat)) (n_s_table c_s_table : Nat) (q_s_floors : Option (Nat × Nat)) (n_s_floors c_s_floors : Nat) (q_s_sills : Option (Nat × Nat)) (n_s_sills c_s_sills : Nat) (w : World) (hw : HV w (keys [] []) [] [] [(bk q_s_table, off q_s_table, RW.enc s.table), (bk q_s_floors, off q_s_floors, RI.enc s.floors), (bk q_s_sills, off q_s_sills, RS.enc s.sills)] w) (hn_s_table : s.table.length = n_s_table) (hne_s_table : 0 < n_s_table → q_s_table ≠ none) (hle_s_table : n_s_table ≤ c_s_table) (hn_s_floors : s.floors.length = n_s_floors) (hne_s_floors : 0 < n_s_floors → q_s_floors ≠ none) (hle_s_floors : n_s_floors ≤ c_s_floors) (hn_s_sills : s.sills.length = n_s_sills) (hne_s_sills : 0 < n_s_sills → q_s_sills ≠ none) (hle_s_sills : n_s_sills ≤ c_s_sills) {res : (Int × Int)} (hm : x_Turn s p m = some res) :
    Calls Try.prog 41 #[.agg #[slv q_s_table n_s_table c_s_table, .int .i64 s.wind.lo, .int .i64 s.wind.hi, slv q_s_floors n_s_floors c_s_floors, slv q_s_sills n_s_sills c_s_sills], .int .i64 p, .int .i64 m] w (fun en w' => ∃ l : Unit, en = .returned (.tuple #[.int .i64 res.1, .int .i64 res.2]) ∧ True ∧ HV w (keys [] []) [] [] [] w') := by
  unfold x_Turn at hm
  obtain ⟨hb, hm⟩ := ifO hm
  subst hn_s_table
  subst hn_s_floors
  subst hn_s_sills
  obtain ⟨hb0, hb1, hb2⟩ := hb
  obtain rfl := Option.some.inj hm
  have hL : LS.OK (⟨q_s_table, c_s_table, q_s_floors, c_s_floors, q_s_sills, c_s_sills, s⟩ : LS) w := ⟨segsC (hw.seg 0 rfl) (segsC (by have h := hw.seg 1 rfl; rw [RI_enc] at h; exact h) (segsC (hw.seg 2 rfl) segsN)), hne_s_table, hne_s_floors, hne_s_sills, hb0, hb1, hb2, hle_s_table, hle_s_floors, hle_s_sills⟩
  exact Calls.mono (c_Turn p m (⟨q_s_table, c_s_table, q_s_floors, c_s_floors, q_s_sills, c_s_sills, s⟩ : LS) w hL) (fun en w' hr => ⟨(), hr.1, trivial, HV.ofExt hr.2⟩)

def x_Spans (s : Sands) (p : Int) (k : Int) : Option ((List Span) × Int) := if s.table.length ≤ 8796093022208 ∧ s.floors.length ≤ 17592186044416 ∧ s.sills.length ≤ 5864062014805 then some (SpansR s p k) else none
theorem cx_Spans (s : Sands) (p : Int) (k : Int) (q_s_table : Option (Nat × Nat)) (n_s_table c_s_table : Nat) (q_s_floors : Option (Nat × Nat)) (n_s_floors c_s_floors : Nat) (q_s_sills : Option (Nat × Nat)) (n_s_sills c_s_sills : Nat) (w : World) (hw : HV w (keys [] []) [] [] [(bk q_s_table, off q_s_table, RW.enc s.table), (bk q_s_floors, off q_s_floors, RI.enc s.floors), (bk q_s_sills, off q_s_sills, RS.enc s.sills)] w) (hn_s_table : s.table.length = n_s_table) (hne_s_table : 0 < n_s_table → q_s_table ≠ none) (hle_s_table : n_s_table ≤ c_s_table) (hn_s_floors : s.floors.length = n_s_floors) (hne_s_floors : 0 < n_s_floors → q_s_floors ≠ none) (hle_s_floors : n_s_floors ≤ c_s_floors) (hn_s_sills : s.sills.length = n_s_sills) (hne_s_sills : 0 < n_s_sills → q_s_sills ≠ none) (hle_s_sills : n_s_sills ≤ c_s_sills) {res : ((List Span) × Int)} (hm : x_Spans s p k = some res) :
    Calls Try.prog 47 #[.agg #[slv q_s_table n_s_table c_s_table, .int .i64 s.wind.lo, .int .i64 s.wind.hi, slv q_s_floors n_s_floors c_s_floors, slv q_s_sills n_s_sills c_s_sills], .int .i64 p, .int .i64 k] w (fun en w' => ∃ l : Option (Nat × Nat) × Nat, en = .returned (.tuple #[slv l.1 res.1.length l.2, .int .i64 res.2]) ∧ (SlOK l.1 res.1.length l.2) ∧ News w w' [(bk l.1, off l.1, RP.enc res.1)]) := by
  unfold x_Spans at hm
  obtain ⟨hb, hm⟩ := ifO hm
  subst hn_s_table
  subst hn_s_floors
  subst hn_s_sills
  obtain ⟨hb0, hb1, hb2⟩ := hb
  obtain rfl := Option.some.inj hm
  have hL : LS.OK (⟨q_s_table, c_s_table, q_s_floors, c_s_floors, q_s_sills, c_s_sills, s⟩ : LS) w := ⟨segsC (hw.seg 0 rfl) (segsC (by have h := hw.seg 1 rfl; rw [RI_enc] at h; exact h) (segsC (hw.seg 2 rfl) segsN)), hne_s_table, hne_s_floors, hne_s_sills, hb0, hb1, hb2, hle_s_table, hle_s_floors, hle_s_sills⟩
  exact Calls.mono (c_Spans p k (⟨q_s_table, c_s_table, q_s_floors, c_s_floors, q_s_sills, c_s_sills, s⟩ : LS) w hL) (by rintro en w' ⟨q, cap, rfl, h1, h2⟩; exact ⟨(q, cap), rfl, h1, by first | exact h2 | (simp only [RI_enc]; exact h2)⟩)

def x_awake  : Option Bool := some (true)
theorem cx_awake   (w : World) (hw : HV w (keys [] []) [] [] [] w)  {res : Bool} (hm : x_awake  = some res) :
    Calls Try.prog 30 #[] w (fun en w' => ∃ l : Unit, en = .returned (.bool res) ∧ True ∧ HV w (keys [] []) [] [] [] w') := by
  unfold x_awake at hm
  obtain rfl := Option.some.inj hm
  exact Calls.mono (c_awake w) (fun en w' hr => ⟨(), hr.1, trivial, HV.ofExt hr.2⟩)

def x_place (s : Sands) (p : Int) : Option Bool := if s.table.length ≤ 8796093022208 ∧ s.floors.length ≤ 17592186044416 ∧ s.sills.length ≤ 5864062014805 then some (isPlace s p) else none
theorem cx_place (s : Sands) (p : Int) (q_s_table : Option (Nat × Nat)) (n_s_table c_s_table : Nat) (q_s_floors : Option (Nat × Nat)) (n_s_floors c_s_floors : Nat) (q_s_sills : Option (Nat × Nat)) (n_s_sills c_s_sills : Nat) (w : World) (hw : HV w (keys [] []) [] [] [(bk q_s_table, off q_s_table, RW.enc s.table), (bk q_s_floors, off q_s_floors, RI.enc s.floors), (bk q_s_sills, off q_s_sills, RS.enc s.sills)] w) (hn_s_table : s.table.length = n_s_table) (hne_s_table : 0 < n_s_table → q_s_table ≠ none) (hle_s_table : n_s_table ≤ c_s_table) (hn_s_floors : s.floors.length = n_s_floors) (hne_s_floors : 0 < n_s_floors → q_s_floors ≠ none) (hle_s_floors : n_s_floors ≤ c_s_floors) (hn_s_sills : s.sills.length = n_s_sills) (hne_s_sills : 0 < n_s_sills → q_s_sills ≠ none) (hle_s_sills : n_s_sills ≤ c_s_sills) {res : Bool} (hm : x_place s p = some res) :
    Calls Try.prog 89 #[.agg #[slv q_s_table n_s_table c_s_table, .int .i64 s.wind.lo, .int .i64 s.wind.hi, slv q_s_floors n_s_floors c_s_floors, slv q_s_sills n_s_sills c_s_sills], .int .i64 p] w (fun en w' => ∃ l : Unit, en = .returned (.bool res) ∧ True ∧ HV w (keys [] []) [] [] [] w') := by
  unfold x_place at hm
  obtain ⟨hb, hm⟩ := ifO hm
  subst hn_s_table
  subst hn_s_floors
  subst hn_s_sills
  obtain ⟨hb0, hb1, hb2⟩ := hb
  obtain rfl := Option.some.inj hm
  have hL : LS.OK (⟨q_s_table, c_s_table, q_s_floors, c_s_floors, q_s_sills, c_s_sills, s⟩ : LS) w := ⟨segsC (hw.seg 0 rfl) (segsC (by have h := hw.seg 1 rfl; rw [RI_enc] at h; exact h) (segsC (hw.seg 2 rfl) segsN)), hne_s_table, hne_s_floors, hne_s_sills, hb0, hb1, hb2, hle_s_table, hle_s_floors, hle_s_sills⟩
  exact Calls.mono (c_place p (⟨q_s_table, c_s_table, q_s_floors, c_s_floors, q_s_sills, c_s_sills, s⟩ : LS) w hL) (fun en w' hr => ⟨(), hr.1, trivial, HV.ofExt hr.2⟩)

/-- the gates, one by one -/
def gates8 (s : Sands) : List Int := [(gatesOf s).getD 0 0, (gatesOf s).getD 1 0, (gatesOf s).getD 2 0, (gatesOf s).getD 3 0, (gatesOf s).getD 4 0, (gatesOf s).getD 5 0, (gatesOf s).getD 6 0, (gatesOf s).getD 7 0]
theorem gates8_eq (s : Sands) : gates8 s = gatesOf s := by
  have h := gates_length (s := s)
  unfold gates8
  generalize gatesOf s = g at h
  match g, h with
  | [a, b, c, d, e, f, x, y], _ => rfl
theorem deskSeg {L : LS} {bd : Nat} {w : World} (h : segOK w (bd, 0, L.cells ++ ints (gates8 L.S))) : segOK w (bd, 0, L.cells ++ ints (gatesOf L.S)) := gates8_eq L.S ▸ h
theorem deskFresh {L : LS} {w w' : World} {bd : Nat} (h : Fresh w w' [(bd, deskObj L (gatesOf L.S))]) : Fresh w w' [(bd, .cells (L.cells ++ ints (gates8 L.S)).toArray 157 (0, 0))] := by
  rw [gates8_eq]; exact h
theorem cx_opened (s : Sands) (q_table : Option (Nat × Nat)) (n_table c_table : Nat) (q_floors : Option (Nat × Nat)) (n_floors c_floors : Nat) (q_sills : Option (Nat × Nat)) (n_sills c_sills : Nat) (w : World) (hw : HV w (keys [] []) [] [] [(bk q_table, off q_table, RW.enc s.table), (bk q_floors, off q_floors, RI.enc s.floors), (bk q_sills, off q_sills, RS.enc s.sills)] w) (hn_table : s.table.length = n_table) (hne_table : 0 < n_table → q_table ≠ none) (hle_table : n_table ≤ c_table) (hn_floors : s.floors.length = n_floors) (hne_floors : 0 < n_floors → q_floors ≠ none) (hle_floors : n_floors ≤ c_floors) (hn_sills : s.sills.length = n_sills) (hne_sills : 0 < n_sills → q_sills ≠ none) (hle_sills : n_sills ≤ c_sills) (hb : s.table.length ≤ 8796093022208 ∧ s.floors.length ≤ 17592186044416 ∧ s.sills.length ≤ 5864062014805) (hc : check s = 0) :
    Calls Try.prog 102 #[.agg #[slv q_table n_table c_table, .int .i64 s.wind.lo, .int .i64 s.wind.hi, slv q_floors n_floors c_floors, slv q_sills n_sills c_sills]] w (fun en w' => ∃ bd : Nat, en = .returned (.tuple #[ptr bd 0, .int .i64 0]) ∧ Fresh w w' [(bd, .cells #[slv q_table n_table c_table, .int .i64 s.wind.lo, .int .i64 s.wind.hi, slv q_floors n_floors c_floors, slv q_sills n_sills c_sills, .int .i64 ((gatesOf s).getD 0 0), .int .i64 ((gatesOf s).getD 1 0), .int .i64 ((gatesOf s).getD 2 0), .int .i64 ((gatesOf s).getD 3 0), .int .i64 ((gatesOf s).getD 4 0), .int .i64 ((gatesOf s).getD 5 0), .int .i64 ((gatesOf s).getD 6 0), .int .i64 ((gatesOf s).getD 7 0)] 157 (0, 0))]) := by
  subst hn_table
  subst hn_floors
  subst hn_sills
  have hL : LS.OK (⟨q_table, c_table, q_floors, c_floors, q_sills, c_sills, s⟩ : LS) w := ⟨segsC (hw.seg 0 rfl) (segsC (by have h := hw.seg 1 rfl; rw [RI_enc] at h; exact h) (segsC (hw.seg 2 rfl) segsN)), hne_table, hne_floors, hne_sills, hb.1, hb.2.1, hb.2.2, hle_table, hle_floors, hle_sills⟩
  exact Calls.mono (c_opened (⟨q_table, c_table, q_floors, c_floors, q_sills, c_sills, s⟩ : LS) w hL (good_of_check hc) hc) (by rintro en w' ⟨bd, rfl, hf⟩; exact ⟨bd, rfl, deskFresh hf⟩)
theorem cx_openedE (s : Sands) (q_table : Option (Nat × Nat)) (n_table c_table : Nat) (q_floors : Option (Nat × Nat)) (n_floors c_floors : Nat) (q_sills : Option (Nat × Nat)) (n_sills c_sills : Nat) (w : World) (hw : HV w (keys [] []) [] [] [(bk q_table, off q_table, RW.enc s.table), (bk q_floors, off q_floors, RI.enc s.floors), (bk q_sills, off q_sills, RS.enc s.sills)] w) (hn_table : s.table.length = n_table) (hne_table : 0 < n_table → q_table ≠ none) (hle_table : n_table ≤ c_table) (hn_floors : s.floors.length = n_floors) (hne_floors : 0 < n_floors → q_floors ≠ none) (hle_floors : n_floors ≤ c_floors) (hn_sills : s.sills.length = n_sills) (hne_sills : 0 < n_sills → q_sills ≠ none) (hle_sills : n_sills ≤ c_sills) (hb : s.table.length ≤ 8796093022208 ∧ s.floors.length ≤ 17592186044416 ∧ s.sills.length ≤ 5864062014805) (hc : check s ≠ 0) :
    Calls Try.prog 102 #[.agg #[slv q_table n_table c_table, .int .i64 s.wind.lo, .int .i64 s.wind.hi, slv q_floors n_floors c_floors, slv q_sills n_sills c_sills]] w (fun en w' => ∃ l : Unit, en = .returned (.tuple #[.pointer none, .int .i64 (check s)]) ∧ True ∧ News w w' []) := by
  subst hn_table
  subst hn_floors
  subst hn_sills
  have hL : LS.OK (⟨q_table, c_table, q_floors, c_floors, q_sills, c_sills, s⟩ : LS) w := ⟨segsC (hw.seg 0 rfl) (segsC (by have h := hw.seg 1 rfl; rw [RI_enc] at h; exact h) (segsC (hw.seg 2 rfl) segsN)), hne_table, hne_floors, hne_sills, hb.1, hb.2.1, hb.2.2, hle_table, hle_floors, hle_sills⟩
  exact Calls.mono (c_openedE (⟨q_table, c_table, q_floors, c_floors, q_sills, c_sills, s⟩ : LS) w hL hc) (fun en w' hr => ⟨(), hr.1, trivial, News.nil hr.2⟩)

def x_day (s : Sands) (m : Int) : Option Bool := if (s.table.length ≤ 8796093022208 ∧ s.floors.length ≤ 17592186044416 ∧ s.sills.length ≤ 5864062014805) ∧ check s = 0 then some (dayF s m) else none
theorem cx_day (s : Sands) (m : Int) (bd : Nat) (q_table : Option (Nat × Nat)) (n_table c_table : Nat) (q_floors : Option (Nat × Nat)) (n_floors c_floors : Nat) (q_sills : Option (Nat × Nat)) (n_sills c_sills : Nat) (w : World) (hw : HV w (keys [] []) [] [] [(bd, 0, [slv q_table n_table c_table, .int .i64 s.wind.lo, .int .i64 s.wind.hi, slv q_floors n_floors c_floors, slv q_sills n_sills c_sills, .int .i64 ((gatesOf s).getD 0 0), .int .i64 ((gatesOf s).getD 1 0), .int .i64 ((gatesOf s).getD 2 0), .int .i64 ((gatesOf s).getD 3 0), .int .i64 ((gatesOf s).getD 4 0), .int .i64 ((gatesOf s).getD 5 0), .int .i64 ((gatesOf s).getD 6 0), .int .i64 ((gatesOf s).getD 7 0)]), (bk q_table, off q_table, RW.enc s.table), (bk q_floors, off q_floors, RI.enc s.floors), (bk q_sills, off q_sills, RS.enc s.sills)] w) (hn_table : s.table.length = n_table) (hne_table : 0 < n_table → q_table ≠ none) (hle_table : n_table ≤ c_table) (hn_floors : s.floors.length = n_floors) (hne_floors : 0 < n_floors → q_floors ≠ none) (hle_floors : n_floors ≤ c_floors) (hn_sills : s.sills.length = n_sills) (hne_sills : 0 < n_sills → q_sills ≠ none) (hle_sills : n_sills ≤ c_sills) {res : Bool} (hm : x_day s m = some res) :
    Calls Try.prog 103 #[ptr bd 0, .int .i64 m] w (fun en w' => ∃ l : Unit, en = .returned (.bool res) ∧ True ∧ News w w' []) := by
  unfold x_day at hm
  obtain ⟨hb0, hm⟩ := ifO hm
  obtain ⟨hb, hc, hp⟩ : (s.table.length ≤ 8796093022208 ∧ s.floors.length ≤ 17592186044416 ∧ s.sills.length ≤ 5864062014805) ∧ check s = 0 ∧ True := ⟨hb0.1, hb0.2, trivial⟩
  subst hn_table
  subst hn_floors
  subst hn_sills
  obtain rfl := Option.some.inj hm
  have hL : LS.OK (⟨q_table, c_table, q_floors, c_floors, q_sills, c_sills, s⟩ : LS) w := ⟨segsC (hw.seg 1 rfl) (segsC (by have h := hw.seg 2 rfl; rw [RI_enc] at h; exact h) (segsC (hw.seg 3 rfl) segsN)), hne_table, hne_floors, hne_sills, hb.1, hb.2.1, hb.2.2, hle_table, hle_floors, hle_sills⟩
  have hd : segOK w (bd, 0, (⟨q_table, c_table, q_floors, c_floors, q_sills, c_sills, s⟩ : LS).cells ++ ints (gatesOf (⟨q_table, c_table, q_floors, c_floors, q_sills, c_sills, s⟩ : LS).S)) := deskSeg (L := (⟨q_table, c_table, q_floors, c_floors, q_sills, c_sills, s⟩ : LS)) (hw.seg 0 rfl)
  exact Calls.mono (c_day (⟨q_table, c_table, q_floors, c_floors, q_sills, c_sills, s⟩ : LS) bd (gatesOf s) m w hL (good_of_check hc) gates_length hd) (fun en w' hr => ⟨(), hr.1, trivial, News.nil hr.2⟩)

def x_at (s : Sands) (m : Int) (p : Int) : Option Int := if (s.table.length ≤ 8796093022208 ∧ s.floors.length ≤ 17592186044416 ∧ s.sills.length ≤ 5864062014805) ∧ check s = 0 ∧ dayF s m = true ∧ 0 ≤ p ∧ p < 8 then some (stateF s m p) else none
theorem cx_at (s : Sands) (m : Int) (p : Int) (bd : Nat) (q_table : Option (Nat × Nat)) (n_table c_table : Nat) (q_floors : Option (Nat × Nat)) (n_floors c_floors : Nat) (q_sills : Option (Nat × Nat)) (n_sills c_sills : Nat) (w : World) (hw : HV w (keys [] []) [] [] [(bd, 0, [slv q_table n_table c_table, .int .i64 s.wind.lo, .int .i64 s.wind.hi, slv q_floors n_floors c_floors, slv q_sills n_sills c_sills, .int .i64 ((gatesOf s).getD 0 0), .int .i64 ((gatesOf s).getD 1 0), .int .i64 ((gatesOf s).getD 2 0), .int .i64 ((gatesOf s).getD 3 0), .int .i64 ((gatesOf s).getD 4 0), .int .i64 ((gatesOf s).getD 5 0), .int .i64 ((gatesOf s).getD 6 0), .int .i64 ((gatesOf s).getD 7 0)]), (bk q_table, off q_table, RW.enc s.table), (bk q_floors, off q_floors, RI.enc s.floors), (bk q_sills, off q_sills, RS.enc s.sills)] w) (hn_table : s.table.length = n_table) (hne_table : 0 < n_table → q_table ≠ none) (hle_table : n_table ≤ c_table) (hn_floors : s.floors.length = n_floors) (hne_floors : 0 < n_floors → q_floors ≠ none) (hle_floors : n_floors ≤ c_floors) (hn_sills : s.sills.length = n_sills) (hne_sills : 0 < n_sills → q_sills ≠ none) (hle_sills : n_sills ≤ c_sills) {res : Int} (hm : x_at s m p = some res) :
    Calls Try.prog 104 #[ptr bd 0, .int .i64 m, .int .i64 p] w (fun en w' => ∃ l : Unit, en = .returned (.int .i64 res) ∧ True ∧ News w w' []) := by
  unfold x_at at hm
  obtain ⟨hb0, hm⟩ := ifO hm
  obtain ⟨hb, hc, hp⟩ : (s.table.length ≤ 8796093022208 ∧ s.floors.length ≤ 17592186044416 ∧ s.sills.length ≤ 5864062014805) ∧ check s = 0 ∧ dayF s m = true ∧ 0 ≤ p ∧ p < 8 := hb0
  subst hn_table
  subst hn_floors
  subst hn_sills
  obtain rfl := Option.some.inj hm
  have hL : LS.OK (⟨q_table, c_table, q_floors, c_floors, q_sills, c_sills, s⟩ : LS) w := ⟨segsC (hw.seg 1 rfl) (segsC (by have h := hw.seg 2 rfl; rw [RI_enc] at h; exact h) (segsC (hw.seg 3 rfl) segsN)), hne_table, hne_floors, hne_sills, hb.1, hb.2.1, hb.2.2, hle_table, hle_floors, hle_sills⟩
  have hd : segOK w (bd, 0, (⟨q_table, c_table, q_floors, c_floors, q_sills, c_sills, s⟩ : LS).cells ++ ints (gatesOf (⟨q_table, c_table, q_floors, c_floors, q_sills, c_sills, s⟩ : LS).S)) := deskSeg (L := (⟨q_table, c_table, q_floors, c_floors, q_sills, c_sills, s⟩ : LS)) (hw.seg 0 rfl)
  exact Calls.mono (c_at (⟨q_table, c_table, q_floors, c_floors, q_sills, c_sills, s⟩ : LS) bd (gatesOf s) m p w hL (good_of_check hc) gates_length hd hp.1 hp.2) (fun en w' hr => ⟨(), hr.1, trivial, News.nil hr.2⟩)

end Go.Proofs.Wk

