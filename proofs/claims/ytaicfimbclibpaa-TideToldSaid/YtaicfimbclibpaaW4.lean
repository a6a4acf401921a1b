/- What the functions of the sands come to: part 4. It is needed by the statements of this seat. -/
import Derived.Test.YtaicfimbclibpaaW3
namespace Go.Proofs
open Go Go.Fw Go.Pl
set_option maxRecDepth 100000 in
theorem inf25 : (Try.prog.info? 25).map (fun i => (i.zero, i.size, i.bytes)) = some (some (.agg #[.int .i64 0, .int .i64 0]), 2, 16) := by kernel_rfl
set_option maxRecDepth 100000 in
theorem c_shut_true (w0 : World) (M : List Nat) (ro : List Sg) (X : List (Nat × Obj)) (bo bf bs : Nat) (acc : List Span) (fr : Int) (n cap : Nat) (sp : List Value) (q : Option (Nat × Nat)) (m : Int) (hv : VOK 2 n cap (flat encP acc) sp q) (hn : n ≤ 100000) (hm : -100000 ≤ m ∧ m ≤ 100000) (w : World) (hh : HS w0 M ([(bo, .cells #[.bool true] 4 (0, 0)), (bf, .cells #[.int .i64 fr] 3 (0, 0)), (bs, .cells #[slv q n cap] 77 (0, 0))] ++ (vown 25 (flat encP acc) sp q ++ X)) ro w) : Calls Try.prog 159 #[.int .i64 m, ptr bo 0, ptr bs 0, ptr bf 0] w (fun en w' => ∃ v, en = .returned v ∧ ∃ n' sp' q' cap', VOK 2 n' cap' (flat encP (acc ++ [⟨fr, m - 1⟩])) sp' q' ∧ HS w0 M ([(bo, .cells #[.bool false] 4 (0, 0)), (bf, .cells #[.int .i64 fr] 3 (0, 0)), (bs, .cells #[slv q' n' cap'] 77 (0, 0))] ++ (vown 25 (flat encP (acc ++ [⟨fr, m - 1⟩])) sp' q' ++ X)) ro w') := by
  refine g_enter (args := [.int .i64 m, ptr bo 0, ptr bs 0, ptr bf 0]) Try.func159 rfl Try.ntmps159 rfl (e := [(0, _), (1, _), (2, _), (3, _)]) rfl (hh) ?_
  refine g_seq ?_
  refine g_seq ?_
  refine g_region ?_
  refine g_val rfl rfl rfl (fun w hh => v_load (Try.isAgg4 w) rfl (hh.cell 0 rfl rfl)) ?_
  refine g_nil ?_
  refine g_n_then ?_
  refine g_condT rfl rfl ?_
  refine g_region ?_
  refine g_val rfl rfl rfl (fun w hh => v_load (Try.isAgg77 w) rfl (hh.cell 2 rfl rfl)) ?_
  refine g_val rfl rfl rfl (fun w hh => v_load (Try.isAgg3 w) rfl (hh.cell 1 rfl rfl)) ?_
  refine g_val rfl rfl rfl (fun _ _ => v_move rfl) ?_
  refine g_val rfl rfl rfl (fun _ _ => v_sub rfl rfl (wrap_i64 (by omega))) ?_
  refine g_val rfl rfl rfl (fun _ _ => v_build (vs := [(0, _), (1, _)]) (cells := [_, _]) rfl rfl) ?_
  refine g_buildSlice (vs := [(0, _)]) (cells := [_, _]) (fun w => Try.runUnderlying77 w) (fun w => Try.sizeOf25 w) (fun w => Try.zeroValue25 w) rfl rfl rfl rfl rfl (fun b1 hb1 => ?_)
  refine g_appendM [_, _, _, _] (news := [_, _]) (xs := (flat encP acc)) (sp := sp) (q := q) Try.underlying77 inf25 rfl rfl rfl hv (by simp) (by decide) rfl (fun w hh => hh.ownSeg 0 rfl) (ones_all rfl) (by simp only [maxLen]; omega) (by omega) rfl (fun q2 cap3 sp4 hv5 => ?_)
  rw [show flat encP acc ++ [.int .i64 fr, .int .i64 (m - 1)] = (flat encP (acc ++ [⟨fr, m - 1⟩])) from flat_snoc (enc := encP) (x := ⟨fr, m - 1⟩)] at hv5 ⊢
  refine g_store1 (own' := (_ :: _ :: _ :: _ :: _)) 3 (fun w => Try.sizeOf77 w) rfl rfl rfl rfl rfl ?_
  refine g_nil ?_
  refine g_n_then ?_
  refine g_region ?_
  refine g_store1 (own' := (_ :: _ :: _)) 1 (fun w => Try.sizeOf4 w) rfl rfl rfl rfl rfl ?_
  refine g_nil ?_
  refine g_doneN rfl (fun w hh => .nil) (fun w hh => ⟨_, rfl, (n + 1), sp4, (some q2), cap3, hv5, hh.dropN 1 rfl⟩)

set_option maxRecDepth 100000 in
theorem c_shut_false (w0 : World) (M : List Nat) (ro : List Sg) (X : List (Nat × Obj)) (bo bf bs : Nat) (acc : List Span) (fr : Int) (n cap : Nat) (sp : List Value) (q : Option (Nat × Nat)) (m : Int) (hv : VOK 2 n cap (flat encP acc) sp q) (hn : n ≤ 100000) (hm : -100000 ≤ m ∧ m ≤ 100000) (w : World) (hh : HS w0 M ([(bo, .cells #[.bool false] 4 (0, 0)), (bf, .cells #[.int .i64 fr] 3 (0, 0)), (bs, .cells #[slv q n cap] 77 (0, 0))] ++ (vown 25 (flat encP acc) sp q ++ X)) ro w) : Calls Try.prog 159 #[.int .i64 m, ptr bo 0, ptr bs 0, ptr bf 0] w (fun en w' => ∃ v, en = .returned v ∧ ∃ n' sp' q' cap', VOK 2 n' cap' (flat encP acc) sp' q' ∧ HS w0 M ([(bo, .cells #[.bool false] 4 (0, 0)), (bf, .cells #[.int .i64 fr] 3 (0, 0)), (bs, .cells #[slv q' n' cap'] 77 (0, 0))] ++ (vown 25 (flat encP acc) sp' q' ++ X)) ro w') := by
  refine g_enter (args := [.int .i64 m, ptr bo 0, ptr bs 0, ptr bf 0]) Try.func159 rfl Try.ntmps159 rfl (e := [(0, _), (1, _), (2, _), (3, _)]) rfl (hh) ?_
  refine g_seq ?_
  refine g_seq ?_
  refine g_region ?_
  refine g_val rfl rfl rfl (fun w hh => v_load (Try.isAgg4 w) rfl (hh.cell 0 rfl rfl)) ?_
  refine g_nil ?_
  refine g_n_then ?_
  refine g_condF rfl rfl ?_
  refine g_skip ?_
  refine g_n_then ?_
  refine g_region ?_
  refine g_store1 (own' := (_ :: _)) 0 (fun w => Try.sizeOf4 w) rfl rfl rfl rfl rfl ?_
  refine g_nil ?_
  refine g_doneN rfl (fun w hh => .nil) (fun w hh => ⟨_, rfl, n, sp, q, cap, hv, hh⟩)

structure ShutI where
  n : Nat
  sp : List Value
  q : Option (Nat × Nat)
  cap : Nat
  v : Value
theorem c_shut (w0 : World) (M : List Nat) (ro : List Sg) (B1 : Nat × Obj) (bo bf bs : Nat) (x : SpanSt) (n cap : Nat) (sp : List Value) (q : Option (Nat × Nat)) (m : Int) (hv : VOK 2 n cap (flat encP x.acc) sp q) (hn : n ≤ 100000) (hm : -100000 ≤ m ∧ m ≤ 100000) (w : World)
    (hh : HS w0 M (([(bo, .cells #[.bool x.op] 4 (0, 0)), (bf, .cells #[.int .i64 x.fr] 3 (0, 0)), (bs, .cells #[slv q n cap] 77 (0, 0))] ++ [B1]) ++ (vown 25 (flat encP x.acc) sp q ++ [])) ro w) :
    Calls Try.prog 159 #[.int .i64 m, ptr bo 0, ptr bs 0, ptr bf 0] w (fun en w' => ∃ i : ShutI, en = .returned i.v ∧ (VOK 2 i.n i.cap (flat encP (shutF x m).acc) i.sp i.q ∧ HS w0 M (([(bo, .cells #[.bool (shutF x m).op] 4 (0, 0)), (bf, .cells #[.int .i64 (shutF x m).fr] 3 (0, 0)), (bs, .cells #[slv i.q i.n i.cap] 77 (0, 0))] ++ [B1]) ++ (vown 25 (flat encP (shutF x m).acc) i.sp i.q ++ [])) ro w')) := by
  have hh2 := hh.perm (perm_call (A := [B1]) (B := [_, _, _]) (V := vown 25 (flat encP x.acc) sp q))
  obtain ⟨acc, fr, op⟩ := x
  cases op
  · refine (c_shut_false w0 M ro [B1] bo bf bs acc fr n cap sp q m hv hn hm w hh2).mono ?_
    rintro en w' ⟨v, rfl, n', sp', q', cap', hv', h'⟩
    exact ⟨⟨n', sp', q', cap', v⟩, rfl, hv', h'.perm (perm_call (A := [B1]) (B := [_, _, _]) (V := vown 25 (flat encP acc) sp' q')).symm⟩
  · refine (c_shut_true w0 M ro [B1] bo bf bs acc fr n cap sp q m hv hn hm w hh2).mono ?_
    rintro en w' ⟨v, rfl, n', sp', q', cap', hv', h'⟩
    exact ⟨⟨n', sp', q', cap', v⟩, rfl, hv', h'.perm (perm_call (A := [B1]) (B := [_, _, _]) (V := vown 25 (flat encP (acc ++ [⟨fr, m - 1⟩])) sp' q')).symm⟩

set_option maxRecDepth 100000 in
theorem c_spans (L : LS) (bd : Nat) (g : List Int) (fv : FuncId) (fst cp : Array Value) (p : Int → Bool) (w : World) (hL : L.OK w) (hG : Good L.S) (hgl : g.length = 8) (hd : segOK w (bd, 0, L.cells ++ ints g)) (hcall : ∀ a w, (callFunc fv a).run Try.prog w = .ok (.enter fv a) w) (hf : ∀ w', Ext [] w w' → ∀ m, dayF L.S m = true → Ret Try.prog fv (fst.toList ++ [.int .i64 m] ++ cp.toList) w' (.bool (p m))) : Calls Try.prog 118 #[ptr bd 0, .agg #[.func (.func fv) fst cp]] w (fun en w' => ∃ q cap, en = .returned (slv q (spansF L.S p).length cap) ∧ SlOK q (spansF L.S p).length cap ∧ News w w' [(bk q, off q, flat encP (spansF L.S p))]) := by
  have hlt := hL.tl
  have hlf := hL.fl
  have hls := hL.sl
  have hfl8 := hG.fl
  have htl12 := hG.tl
  have hds := day_span hG
  have hdn := dayN_eq hG
  have efm : firstM L.S = (L.S.table.getD 0 default).min := rfl
  have elm : lastM L.S = (L.S.table.getD (L.S.table.length - 1) default).min := rfl
  refine g_enter (args := [ptr bd 0, .agg #[.func (.func fv) fst cp]]) Try.func118 rfl Try.ntmps118 rfl (e := [(0, _), (1, _)]) rfl (HS.start w [] ((bd, 0, L.cells ++ ints g) :: L.segs) (segsC hd hL.segs)) ?_
  refine g_seq ?_
  refine g_region ?_
  refine g_box rfl rfl (fun b1 hb1 => ?_)
  refine g_val rfl rfl rfl (fun _ _ => v_nilSlice rfl rfl) ?_
  refine g_nil ?_
  refine g_n_then ?_
  refine g_seq ?_
  refine g_region ?_
  refine g_alloc (fun w => Try.zeroValue77 w) rfl (fun b2 hb2 => ?_)
  refine g_nil ?_
  refine g_n_then ?_
  refine g_seq ?_
  refine g_draw none (.free 0 (.free 1 (.free 2 (.free 3 (.hoist 4 (.hoist 5 (.free 6 (.hoist 7 (.free 8 (.free 9 (.free 10 (.free 11 (.hoist 12 (.free 13 (.free 14 (.free 15 (.free 16 (.hoist 17 (.free 18 (.free 19 (.hoist 20 (.free 21 (.hoist 22 (.free 23 (.free 24 .done))))))))))))))))))))))))) _ rfl (by decide +kernel) (fun w k hh => hh.draw k) (fun w hh => hh) ?_
  refine p_free rfl rfl rfl rfl (fun _ _ => v_move rfl) ?_
  refine p_free rfl rfl rfl rfl (fun _ _ => v_nilCheck rfl) ?_
  refine p_free rfl rfl rfl rfl (fun w _ => v_fieldAddr 0 (Try.runUnderlying157 w) rfl (Try.sizeOf29 w) rfl) ?_
  refine p_free rfl rfl rfl rfl (fun w _ => v_fieldAddr 0 (Try.runUnderlying29 w) rfl (Try.sizeOf23 w) rfl) ?_
  refine p_hoist rfl rfl rfl rfl (fun w hh => v_load (Try.isAgg23 w) rfl (hh.rcell 0 0 rfl rfl)) ?_
  refine p_hoist rfl rfl rfl rfl (fun w _ => v_indexAddr 0 (Try.runUnderlying23 w) (Try.sizeOf68 w) rfl rfl rfl (by omega) (hL.t0 (by omega))) ?_
  refine p_free rfl rfl rfl rfl (fun w _ => v_fieldAddr 0 (Try.runUnderlying68 w) rfl (Try.sizeOf3 w) rfl) ?_
  refine p_hoist rfl rfl rfl rfl (fun w hh => v_load (Try.isAgg3 w) rfl (hh.fld (j := 0) encW_len 1 0 rfl (by omega) rfl rfl)) ?_
  refine p_free rfl rfl rfl rfl (fun _ _ => v_move rfl) ?_
  refine p_free rfl rfl rfl rfl (fun _ _ => v_nilCheck rfl) ?_
  refine p_free rfl rfl rfl rfl (fun w _ => v_fieldAddr 0 (Try.runUnderlying157 w) rfl (Try.sizeOf29 w) rfl) ?_
  refine p_free rfl rfl rfl rfl (fun w _ => v_fieldAddr 0 (Try.runUnderlying29 w) rfl (Try.sizeOf23 w) rfl) ?_
  refine p_hoist rfl rfl rfl rfl (fun w hh => v_load (Try.isAgg23 w) rfl (hh.rcell 0 0 rfl rfl)) ?_
  refine p_free rfl rfl rfl rfl (fun _ _ => v_move rfl) ?_
  refine p_free rfl rfl rfl rfl (fun _ _ => v_nilCheck rfl) ?_
  refine p_free rfl rfl rfl rfl (fun w _ => v_fieldAddr 0 (Try.runUnderlying157 w) rfl (Try.sizeOf29 w) rfl) ?_
  refine p_free rfl rfl rfl rfl (fun w _ => v_fieldAddr 0 (Try.runUnderlying29 w) rfl (Try.sizeOf23 w) rfl) ?_
  refine p_hoist rfl rfl rfl rfl (fun w hh => v_load (Try.isAgg23 w) rfl (hh.rcell 0 0 rfl rfl)) ?_
  refine p_free rfl rfl rfl rfl (fun w _ => v_lenS (Try.runUnderlying23 w) rfl) ?_
  refine p_free rfl rfl rfl rfl (fun _ _ => v_sub rfl rfl (wrap_i64 (by omega))) ?_
  refine p_hoist rfl rfl rfl rfl (fun w _ => v_indexAddr (L.S.table.length - 1) (Try.runUnderlying23 w) (Try.sizeOf68 w) rfl rfl (by omega) (by omega) (hL.t0 (by omega))) ?_
  refine p_free rfl rfl rfl rfl (fun w _ => v_fieldAddr 0 (Try.runUnderlying68 w) rfl (Try.sizeOf3 w) rfl) ?_
  refine p_hoist rfl rfl rfl rfl (fun w hh => v_load (Try.isAgg3 w) rfl (hh.fld (j := (L.S.table.length - 1)) encW_len 1 0 rfl (by omega) rfl rfl)) ?_
  refine p_free rfl rfl rfl rfl (fun _ _ => v_assign rfl) ?_
  refine p_free rfl rfl rfl rfl (fun _ _ => v_assign rfl) ?_
  refine p_done ?_
  refine g_n_then ?_
  refine g_seq ?_
  refine g_region ?_
  refine g_alloc (fun w => Try.zeroValue3 w) rfl (fun b3 hb3 => ?_)
  refine g_alloc (fun w => Try.zeroValue4 w) rfl (fun b4 hb4 => ?_)
  refine g_store1 (own' := (_ :: _ :: _)) 1 (fun w => Try.sizeOf3 w) rfl rfl rfl rfl rfl ?_
  refine g_store1 (own' := (_ :: _)) 0 (fun w => Try.sizeOf4 w) rfl rfl rfl rfl rfl ?_
  refine g_nil ?_
  refine g_n_then ?_
  refine g_seq ?_
  refine g_region ?_
  refine g_val rfl rfl rfl (fun _ _ => v_makeFunc (u := #[]) (u' := #[_, _, _]) rfl rfl) ?_
  refine g_val rfl rfl rfl (fun _ _ => v_assign rfl) ?_
  refine g_nil ?_
  refine g_n_then ?_
  refine g_seq ?_
  refine g_seq ?_
  refine g_region ?_
  refine g_val rfl rfl rfl (fun _ _ => v_move rfl) ?_
  refine g_val rfl rfl rfl (fun _ _ => v_move rfl) ?_
  refine g_val rfl rfl rfl (fun _ _ => v_sub rfl rfl (wrap_i64 (by omega))) ?_
  refine g_val rfl rfl rfl (fun _ _ => v_add rfl rfl (wrap_i64 (by omega))) ?_
  refine g_val rfl rfl rfl (fun _ _ => v_move rfl) ?_
  refine g_nil ?_
  refine g_n_then ?_
  refine g_block ?_
  refine g_sub (e' := [(41, _), (3, _), (5, _), (6, _), (7, _), (8, _), (9, _), (10, _), (40, _)]) ((.cons rfl (.cons rfl (.cons rfl (.cons rfl (.cons rfl (.cons rfl (.cons rfl (.cons rfl (.cons rfl .nil)))))))))) ?_
  refine g_loopV (ι := Nat × SpanSt × Nat × List Value × Option (Nat × Nat) × Nat) (ofix := [_]) (fun (k, x, n, sp, q, cap) => [(41, .int .i64 (k : Nat))]) (fun (k, x, n, sp, q, cap) => [(b4, .cells #[.bool x.op] 4 (0, 0)), (b3, .cells #[.int .i64 x.fr] 3 (0, 0)), (b2, .cells #[slv q n cap] 77 (0, 0))]) (fun (k, x, n, sp, q, cap) => vown 25 (flat encP x.acc) sp q ++ []) (fun (k, x, n, sp, q, cap) => k ≤ dayN L.S ∧ VOK 2 n cap (flat encP x.acc) sp q ∧ x = spansN p (firstM L.S) k) (fun (k, x, n, sp, q, cap) => dayN L.S - k) (0, ⟨[], 0, false⟩, 0, [], none, 0) (⟨Nat.zero_le _, VOK.nil, rfl⟩) ?_
  intro ⟨k, x, n, sp, q, cap⟩ hI0
  simp only at hI0
  have hxl : x.acc.length ≤ k := by rw [hI0.2.2]; exact spansN_len
  have hnl := vok_len encP_len (by decide) hI0.2.1
  refine g_seq ?_
  refine g_region ?_
  refine g_val rfl rfl rfl (fun _ _ => v_lss rfl rfl) ?_
  refine g_nil ?_
  refine g_n_then ?_
  refine g_seq ?_
  refine g_cond rfl (fun h42 => ?_) (fun h42 => ?_)
  · replace h42 := of_decide_eq_true h42
    have hkk : firstM L.S + (k : Nat) ≤ lastM L.S := by omega
    have hday := day_of (s := L.S) (m := firstM L.S + (k : Nat)) ⟨by omega, hkk⟩
    refine g_skip ?_
    refine g_n_then ?_
    refine g_seq ?_
    refine g_block ?_
    refine g_seq ?_
    refine g_region ?_
    refine g_val rfl rfl rfl (fun _ _ => v_move rfl) ?_
    refine g_val rfl rfl rfl (fun _ _ => v_assign rfl) ?_
    refine g_nil ?_
    refine g_n_then ?_
    refine g_seq ?_
    refine g_region ?_
    refine g_val rfl rfl rfl (fun w _ => v_fieldAddr 0 (Try.runUnderlying168 w) rfl (Try.sizeOf129 w) rfl) ?_
    refine g_val rfl rfl rfl (fun w hh => v_load (Try.isAgg129 w) rfl (hh.cell 3 rfl rfl)) ?_
    refine g_val rfl rfl rfl (fun _ _ => v_move rfl) ?_
    refine g_val rfl rfl rfl (fun _ _ => v_move rfl) ?_
    refine g_val rfl rfl rfl (fun _ _ => v_add rfl rfl (wrap_i64 (by omega))) ?_
    refine g_callv rfl rfl rfl rfl rfl rfl rfl hcall (fun w hh => hf w hh.toExt _ hday) ?_
    refine g_val rfl rfl rfl (fun _ _ => v_assign rfl) ?_
    refine g_nil ?_
    refine g_n_then ?_
    refine g_block ?_
    refine g_seq ?_
    refine g_region ?_
    refine g_val rfl rfl rfl (fun _ _ => v_move rfl) ?_
    refine g_val rfl rfl rfl (fun _ _ => v_not rfl) ?_
    refine g_val rfl rfl rfl (fun _ _ => v_assign rfl) ?_
    refine g_nil ?_
    refine g_n_then ?_
    refine g_cond rfl (fun hp => ?_) (fun hp => ?_)
    · replace hp := of_not_true hp
      refine g_region ?_
      refine g_val rfl rfl rfl (fun _ _ => v_move rfl) ?_
      refine g_val rfl rfl rfl (fun _ _ => v_move rfl) ?_
      refine g_val rfl rfl rfl (fun _ _ => v_move rfl) ?_
      refine g_val rfl rfl rfl (fun _ _ => v_add rfl rfl (wrap_i64 (by omega))) ?_
      refine g_call rfl rfl rfl rfl rfl rfl rfl (fun a w => Try.call159 a w) (fun w hh => c_shut _ _ _ _ b4 b3 b2 x n cap sp q (firstM L.S + (k : Nat)) hI0.2.1 (by omega) (by omega) w hh) (fun i5 => ?_)
      refine g_pure (fun w hh => hh.1) (fun hvi5 => ?_)
      refine G.pre ?_ (fun w hh => hh.2)
      refine g_nil ?_
      refine g_n_blk ?_
      refine g_n_blk ?_
      refine g_n_then ?_
      refine g_region ?_
      refine g_val rfl rfl rfl (fun _ _ => v_add rfl rfl (wrap_i64 (by omega))) ?_
      refine g_val rfl rfl rfl (fun _ _ => v_move rfl) ?_
      refine g_nil ?_
      refine g_n_then ?_
      exact g_againV (pre := [_, _, _, _]) (i := ⟨k, x, n, sp, q, cap⟩) (k + 1, shutF x (firstM L.S + (k : Nat)), i5.n, i5.sp, i5.q, i5.cap) [0, 1, 2, 3] ((.cons rfl (.cons rfl (.cons rfl (.cons rfl (.cons rfl (.cons rfl (.cons rfl (.cons rfl (.cons rfl .nil)))))))))) (by decide) rfl rfl (⟨by omega, hvi5, by rw [spansN_succ, ← hI0.2.2]; exact (stepF hp).symm⟩) (by simp only; omega)
    · replace hp := of_not_false hp
      refine g_seq ?_
      refine g_region ?_
      refine g_val rfl rfl rfl (fun w hh => v_load (Try.isAgg4 w) rfl (hh.cell 0 rfl rfl)) ?_
      refine g_val rfl rfl rfl (fun _ _ => v_not rfl) ?_
      refine g_val rfl rfl rfl (fun _ _ => v_assign rfl) ?_
      refine g_nil ?_
      refine g_n_then ?_
      refine g_cond rfl (fun ho => ?_) (fun ho => ?_)
      · replace ho := of_not_true ho
        refine g_region ?_
        refine g_val rfl rfl rfl (fun _ _ => v_move rfl) ?_
        refine g_val rfl rfl rfl (fun _ _ => v_move rfl) ?_
        refine g_val rfl rfl rfl (fun _ _ => v_add rfl rfl (wrap_i64 (by omega))) ?_
        refine g_store1 (own' := (_ :: _ :: _)) 1 (fun w => Try.sizeOf3 w) rfl rfl rfl rfl rfl ?_
        refine g_store1 (own' := (_ :: _)) 0 (fun w => Try.sizeOf4 w) rfl rfl rfl rfl rfl ?_
        refine g_nil ?_
        refine g_n_blk ?_
        refine g_n_blk ?_
        refine g_n_then ?_
        refine g_region ?_
        refine g_val rfl rfl rfl (fun _ _ => v_add rfl rfl (wrap_i64 (by omega))) ?_
        refine g_val rfl rfl rfl (fun _ _ => v_move rfl) ?_
        refine g_nil ?_
        refine g_n_then ?_
        exact g_againV (pre := [_, _, _, _]) (i := ⟨k, x, n, sp, q, cap⟩) (k + 1, ⟨x.acc, firstM L.S + (k : Nat), true⟩, n, sp, q, cap) [0, 1, 2, 3] ((.cons rfl (.cons rfl (.cons rfl (.cons rfl (.cons rfl (.cons rfl (.cons rfl (.cons rfl (.cons rfl .nil)))))))))) (by decide) rfl rfl (⟨by omega, hI0.2.1, by rw [spansN_succ, ← hI0.2.2]; exact (stepTF hp ho).symm⟩) (by simp only; omega)
      · replace ho := of_not_false ho
        refine g_skip ?_
        refine g_n_blk ?_
        refine g_n_blk ?_
        refine g_n_then ?_
        refine g_region ?_
        refine g_val rfl rfl rfl (fun _ _ => v_add rfl rfl (wrap_i64 (by omega))) ?_
        refine g_val rfl rfl rfl (fun _ _ => v_move rfl) ?_
        refine g_nil ?_
        refine g_n_then ?_
        exact g_againV (pre := [_, _, _, _]) (i := ⟨k, x, n, sp, q, cap⟩) (k + 1, x, n, sp, q, cap) [0, 1, 2, 3] ((.cons rfl (.cons rfl (.cons rfl (.cons rfl (.cons rfl (.cons rfl (.cons rfl (.cons rfl (.cons rfl .nil)))))))))) (by decide) rfl rfl (⟨by omega, hI0.2.1, by rw [spansN_succ, ← hI0.2.2]; exact (stepTT hp ho).symm⟩) (by simp only; omega)
  · replace h42 := of_decide_eq_false h42
    have ek : k = dayN L.S := by omega
    subst ek
    refine g_exit ?_
    refine g_x_then ?_
    refine g_x_then ?_
    refine g_x_blk ?_
    refine g_n_then ?_
    refine g_seq ?_
    refine g_region ?_
    refine g_val rfl rfl rfl (fun _ _ => v_move rfl) ?_
    refine g_val rfl rfl rfl (fun _ _ => v_move rfl) ?_
    refine g_val rfl rfl rfl (fun _ _ => v_add rfl rfl (wrap_i64 (by omega))) ?_
    refine g_call rfl rfl rfl rfl rfl rfl rfl (fun a w => Try.call159 a w) (fun w hh => c_shut _ _ _ _ b4 b3 b2 x n cap sp q (lastM L.S + 1) hI0.2.1 (by omega) (by omega) w hh) (fun i6 => ?_)
    refine g_pure (fun w hh => hh.1) (fun hvi6 => ?_)
    refine G.pre ?_ (fun w hh => hh.2)
    refine g_nil ?_
    refine g_n_then ?_
    refine g_seq ?_
    refine g_region ?_
    refine g_val rfl rfl rfl (fun w hh => v_load (Try.isAgg77 w) rfl (hh.cell 2 rfl rfl)) ?_
    refine g_val rfl rfl rfl (fun _ _ => v_assign rfl) ?_
    refine g_nil ?_
    refine g_n_then ?_
    refine g_ret ?_
    have eF : spansF L.S p = (shutF x (lastM L.S + 1)).acc := by rw [hI0.2.2]; rfl
    refine g_done rfl (fun w hh => (.tmp rfl .nil)) (fun w hh => ?_)
    rw [eF]
    exact ⟨i6.q, i6.cap, by rw [vok_len encP_len (by decide) hvi6]; rfl, by rw [vok_len encP_len (by decide) hvi6]; exact hvi6.sl, hh.vec [_, _, _, _] hvi6.hoff hvi6.noneNil⟩

end Go.Proofs

namespace Go.Proofs
open Go Go.Fw Go.Pl
set_option maxRecDepth 100000 in
theorem c_Spans1 (L : LS) (bd : Nat) (g : List Int) (m p st : Int) (b8 b4 b5 : Nat) (w : World) (hL : L.OK w) (hG : Good L.S) (hgl : g.length = 8) (hd : segOK w (bd, 0, L.cells ++ ints g)) (hday : dayF L.S m = true) (hp : 0 ≤ p ∧ p < 8) (h8 : segOK w (b8, 0, [ptr bd 0])) (h4 : segOK w (b4, 0, [.int .i64 p])) (h5 : segOK w (b5, 0, [.int .i64 st])) : Ret Try.prog 119 [.int .i64 m, ptr b8 0, ptr b4 0, ptr b5 0] w (.bool (decide (stateG L.S (g.getD p.toNat 0) m = st))) := by
  have hlt := hL.tl
  have hlf := hL.fl
  have hls := hL.sl
  have hfl8 := hG.fl
  have htl12 := hG.tl
  refine g_enter (args := [.int .i64 m, ptr b8 0, ptr b4 0, ptr b5 0]) Try.func119 rfl Try.ntmps119 rfl (e := [(0, _), (1, _), (2, _), (3, _)]) rfl (HS.start w [] ((b8, 0, [ptr bd 0]) :: (b4, 0, [.int .i64 p]) :: (b5, 0, [.int .i64 st]) :: (bd, 0, L.cells ++ ints g) :: L.segs) (segsC h8 (segsC h4 (segsC h5 (segsC hd hL.segs))))) ?_
  refine g_seq ?_
  refine g_region ?_
  refine g_val rfl rfl rfl (fun _ _ => v_assign rfl) ?_
  refine g_nil ?_
  refine g_n_then ?_
  refine g_seq ?_
  refine g_draw none (.hoist 0 (.free 1 (.hoist 2 (.hoist 4 (.one 3 (.free 5 (.free 6 .done))))))) _ rfl (by decide +kernel) (fun w k hh => hh.draw k) (fun w hh => hh) ?_
  refine p_hoist rfl rfl rfl rfl (fun w hh => v_load (Try.isAgg139 w) rfl (hh.rcell 0 0 rfl rfl)) ?_
  refine p_free rfl rfl rfl rfl (fun _ _ => v_move rfl) ?_
  refine p_hoist rfl rfl rfl rfl (fun w hh => v_load (Try.isAgg3 w) rfl (hh.rcell 1 0 rfl rfl)) ?_
  refine p_hoist rfl rfl rfl rfl (fun w hh => v_load (Try.isAgg46 w) rfl (hh.rcell 2 0 rfl rfl)) ?_
  refine p_one rfl ?_
  refine g_callv rfl rfl rfl rfl rfl rfl rfl (fun a w => Try.call104 a w) (fun w hh => c_at L bd g _ _ w (hL.ext hh.toExt) hG hgl (hh.seg 3 rfl) (by assumption) (by omega)) ?_
  refine p_next (fun w hh => hh) ?_
  refine p_free rfl rfl rfl rfl (fun _ _ => v_eql rfl rfl) ?_
  refine p_free rfl rfl rfl rfl (fun _ _ => v_assign rfl) ?_
  refine p_done ?_
  refine g_n_then ?_
  refine g_ret ?_
  refine g_done rfl (fun w hh => (.tmp rfl .nil)) (fun w hh => ⟨?_, hh.toExt⟩)
  rfl

set_option maxRecDepth 100000 in
theorem c_Spans (p st : Int) (L : LS) (w : World) (hL : L.OK w) : Calls Try.prog 47 #[L.val, .int .i64 p, .int .i64 st] w (fun en w' => ∃ q cap, en = .returned (.tuple #[slv q (SpansR L.S p st).1.length cap, .int .i64 (SpansR L.S p st).2]) ∧ SlOK q (SpansR L.S p st).1.length cap ∧ News w w' [(bk q, off q, flat encP (SpansR L.S p st).1)]) := by
  have hlt := hL.tl
  have hlf := hL.fl
  have hls := hL.sl
  refine g_enter (args := [L.val, .int .i64 p, .int .i64 st]) Try.func47 rfl Try.ntmps47 rfl (e := [(0, _), (1, _), (2, _)]) rfl (HS.start w [] L.segs hL.segs) ?_
  refine g_seq ?_
  refine g_region ?_
  refine g_box rfl rfl (fun b1 hb1 => ?_)
  refine g_box rfl rfl (fun b2 hb2 => ?_)
  refine g_box rfl rfl (fun b3 hb3 => ?_)
  refine g_val rfl rfl rfl (fun _ _ => v_nilSlice rfl rfl) ?_
  refine g_val rfl rfl rfl (fun _ _ => v_assign rfl) ?_
  refine g_nil ?_
  refine g_n_then ?_
  refine g_seq ?_
  refine g_region ?_
  refine g_val rfl rfl rfl (fun w hh => v_loadAgg (vs := [_, _, _, _, _]) (Try.isAgg29 w) (Try.sizeOf29 w) rfl (hh.cells 2 rfl rfl)) ?_
  by_cases hc : check L.S = 0
  · have hG := good_of_check hc
    have hfl8 := hG.fl
    have htl12 := hG.tl
    have hsl16 := hG.sl
    refine g_callR (ι := Nat) (p := fun _ => True) (S := fun bd => [(bd, 0, L.cells ++ ints (gatesOf L.S))]) (ret := fun bd => .tuple #[ptr bd 0, .int .i64 0]) rfl rfl rfl rfl rfl rfl rfl (fun a w => Try.call102 a w) (fun w hh => c_openedR L w (hL.ext hh.toExt) hc) (fun bd _ => ?_)
    refine g_val rfl rfl rfl (fun _ _ => v_move rfl) ?_
    refine g_val rfl rfl rfl (fun _ _ => v_extract rfl rfl) ?_
    refine g_val rfl rfl rfl (fun _ _ => v_extract rfl rfl) ?_
    refine g_alloc (fun w => Try.zeroValue139 w) rfl (fun b4 hb4 => ?_)
    refine g_store1 (own' := (_ :: _)) 0 (fun w => Try.sizeOf139 w) rfl rfl rfl rfl rfl ?_
    refine g_val rfl rfl rfl (fun _ _ => v_assign rfl) ?_
    refine g_nil ?_
    refine g_n_then ?_
    refine g_seq ?_
    refine g_block ?_
    refine g_seq ?_
    refine g_region ?_
    refine g_val rfl rfl rfl (fun _ _ => v_move rfl) ?_
    refine g_val rfl rfl rfl (fun _ _ => v_neq rfl rfl) ?_
    refine g_val rfl rfl rfl (fun _ _ => v_assign rfl) ?_
    refine g_nil ?_
    refine g_n_then ?_
    refine g_condF rfl rfl ?_
    refine g_seq ?_
    refine g_draw none (.hoist 0 (.free 1 (.free 2 (.hoist 3 (.hoist 4 (.one 5 (.free 6 (.free 7 .done)))))))) _ rfl (by decide +kernel) (fun w k hh => hh.draw k) (fun w hh => hh) ?_
    refine p_hoist rfl rfl rfl rfl (fun w hh => v_load (Try.isAgg139 w) rfl (hh.cell 0 rfl rfl)) ?_
    refine p_free rfl rfl rfl rfl (fun _ _ => v_nilCheck rfl) ?_
    refine p_free rfl rfl rfl rfl (fun w _ => v_fieldAddr 0 (Try.runUnderlying157 w) rfl (Try.sizeOf29 w) rfl) ?_
    refine p_hoist rfl rfl rfl rfl (fun w hh => v_loadAgg (vs := [_, _, _, _, _]) (Try.isAgg29 w) (Try.sizeOf29 w) rfl (hh.rcells 0 0 rfl rfl)) ?_
    refine p_hoist rfl rfl rfl rfl (fun w hh => v_load (Try.isAgg3 w) rfl (hh.cell 2 rfl rfl)) ?_
    refine p_one rfl ?_
    refine g_callv rfl rfl rfl rfl rfl rfl rfl (fun a w => Try.call89 a w) (fun w hh => c_place _ L w (hL.ext hh.toExt)) ?_
    refine p_next (fun w hh => hh) ?_
    refine p_free rfl rfl rfl rfl (fun _ _ => v_not rfl) ?_
    refine p_free rfl rfl rfl rfl (fun _ _ => v_assign rfl) ?_
    refine p_done ?_
    refine g_n_then ?_
    refine g_cond rfl (fun hc19_1 => ?_) (fun hc19_1 => ?_)
    · replace hc19_1 := of_not_true hc19_1
      have hc19_1 := hc19_1
      refine g_seq ?_
      refine g_region ?_
      refine g_val rfl rfl rfl (fun _ _ => v_nilSlice rfl rfl) ?_
      refine g_val rfl rfl rfl (fun _ _ => v_assign rfl) ?_
      refine g_nil ?_
      refine g_n_then ?_
      refine g_ret ?_
      refine g_r_blk ?_
      refine g_r_then ?_
      refine g_done rfl (fun w hh => (.tmp rfl (.tmp rfl .nil))) (fun w hh => ?_)
      have ee : spansE L.S p st = 1 := by simp only [spansE, *, ne_eq, not_true_eq_false, not_false_eq_true, if_false, if_true, reduceIte, Bool.true_eq_false]
      have ea : SpansR L.S p st = ([], 1) := by simp only [SpansR, ee]; rw [if_pos (by decide)]
      rw [ea]
      exact ⟨none, 0, rfl, .nil, (News.nil hh.toExt).cons segOK.nil (fun h => absurd rfl h)⟩
    · replace hc19_1 := of_not_false hc19_1
      have hpl := isPlace_iff.1 hc19_1
      refine g_seq ?_
      refine g_region ?_
      refine g_val rfl rfl rfl (fun w hh => v_load (Try.isAgg46 w) rfl (hh.cell 1 rfl rfl)) ?_
      refine g_callv rfl rfl rfl rfl rfl rfl rfl (fun a w => Try.call90 a w) (fun w hh => c_in _ _ _ w) ?_
      refine g_val rfl rfl rfl (fun _ _ => v_not rfl) ?_
      refine g_val rfl rfl rfl (fun _ _ => v_assign rfl) ?_
      refine g_nil ?_
      refine g_n_then ?_
      refine g_cond rfl (fun hc27_2 => ?_) (fun hc27_2 => ?_)
      · replace hc27_2 := of_not_true hc27_2
        refine g_seq ?_
        refine g_region ?_
        refine g_val rfl rfl rfl (fun _ _ => v_nilSlice rfl rfl) ?_
        refine g_val rfl rfl rfl (fun _ _ => v_assign rfl) ?_
        refine g_nil ?_
        refine g_n_then ?_
        refine g_ret ?_
        refine g_r_blk ?_
        refine g_r_then ?_
        refine g_done rfl (fun w hh => (.tmp rfl (.tmp rfl .nil))) (fun w hh => ?_)
        have ee : spansE L.S p st = 8 := by simp only [spansE, *, ne_eq, not_true_eq_false, not_false_eq_true, if_false, if_true, reduceIte, Bool.true_eq_false]
        have ea : SpansR L.S p st = ([], 8) := by simp only [SpansR, ee]; rw [if_pos (by decide)]
        rw [ea]
        exact ⟨none, 0, rfl, .nil, (News.nil hh.toExt).cons segOK.nil (fun h => absurd rfl h)⟩
      · replace hc27_2 := of_not_false hc27_2
        refine g_skip ?_
        refine g_n_blk ?_
        refine g_n_then ?_
        refine g_seq ?_
        refine g_region ?_
        refine g_val rfl rfl rfl (fun w hh => v_load (Try.isAgg139 w) rfl (hh.cell 0 rfl rfl)) ?_
        refine g_val rfl rfl rfl (fun _ _ => v_makeFunc (u := #[]) (u' := #[_, _, _]) rfl rfl) ?_
        refine g_val rfl rfl rfl (fun _ _ => v_build (vs := [(0, _)]) (cells := [_]) rfl rfl) ?_
        refine g_callR (ι := Option (Nat × Nat) × Nat) (p := fun i => SlOK i.1 (spansF L.S (isState L.S p st)).length i.2 ∧ (flat encP (spansF L.S (isState L.S p st)) ≠ [] → w.heap.size ≤ bk i.1)) (S := fun i => [(bk i.1, off i.1, flat encP (spansF L.S (isState L.S p st)))]) (ret := fun i => slv i.1 (spansF L.S (isState L.S p st)).length i.2) rfl rfl rfl rfl rfl rfl rfl (fun a w => Try.call118 a w) (fun w1 hh => (c_spans L bd (gatesOf L.S) 119 #[] #[ptr b4 0, ptr b2 0, ptr b3 0] (isState L.S p st) w1 (hL.ext hh.toExt) hG gates_length (hh.seg 0 rfl) (fun a w => Try.call119 a w) (fun w2 hx m hm => c_Spans1 L bd (gatesOf L.S) m p st b4 b2 b3 w2 ((hL.ext hh.toExt).ext hx) hG gates_length ((hh.seg 0 rfl).ext hx (by simp)) hm (by omega) ((hh.ownSeg 0 rfl).ext hx (by simp)) ((hh.ownSeg 2 rfl).ext hx (by simp)) ((hh.ownSeg 1 rfl).ext hx (by simp)))).mono (by rintro en w' ⟨q, cap, rfl, h1, h2⟩; exact ⟨(q, cap), rfl, ⟨h1, fun hn => Nat.le_trans hh.size (h2.new _ List.mem_cons_self hn)⟩, h2⟩)) (fun q5 hhq5 => ?_)
        have hq5 := hhq5.1
        have hq5n := hhq5.2
        refine g_val rfl rfl rfl (fun _ _ => v_assign rfl) ?_
        refine g_val rfl rfl rfl (fun _ _ => v_assign rfl) ?_
        refine g_nil ?_
        refine g_n_then ?_
        refine g_ret ?_
        refine g_done rfl (fun w hh => (.tmp rfl (.tmp rfl .nil))) (fun w hh => ?_)
        have ee : spansE L.S p st = 0 := by simp only [spansE, *, ne_eq, not_true_eq_false, if_false, Bool.true_eq_false]
        have ea : SpansR L.S p st = (spansF L.S (isState L.S p st), 0) := by simp only [SpansR, ee]; rw [if_neg (by decide)]
        rw [ea]
        exact ⟨q5.1, q5.2, rfl, hq5, (News.nil hh.toExt).cons (hh.seg 0 rfl) (fun h => hq5n h)⟩
  · refine g_callv rfl rfl rfl rfl rfl rfl rfl (fun a w => Try.call102 a w) (fun w hh => c_openedE L w (hL.ext hh.toExt) hc) ?_
    refine g_val rfl rfl rfl (fun _ _ => v_move rfl) ?_
    refine g_val rfl rfl rfl (fun _ _ => v_extract rfl rfl) ?_
    refine g_val rfl rfl rfl (fun _ _ => v_extract rfl rfl) ?_
    refine g_alloc (fun w => Try.zeroValue139 w) rfl (fun b6 hb6 => ?_)
    refine g_store1 (own' := (_ :: _)) 0 (fun w => Try.sizeOf139 w) rfl rfl rfl rfl rfl ?_
    refine g_val rfl rfl rfl (fun _ _ => v_assign rfl) ?_
    refine g_nil ?_
    refine g_n_then ?_
    refine g_seq ?_
    refine g_block ?_
    refine g_seq ?_
    refine g_region ?_
    refine g_val rfl rfl rfl (fun _ _ => v_move rfl) ?_
    refine g_val rfl rfl rfl (fun _ _ => v_neq rfl rfl) ?_
    refine g_val rfl rfl rfl (fun _ _ => v_assign rfl) ?_
    refine g_nil ?_
    refine g_n_then ?_
    refine g_condT rfl (neP hc) ?_
    refine g_seq ?_
    refine g_region ?_
    refine g_val rfl rfl rfl (fun _ _ => v_move rfl) ?_
    refine g_val rfl rfl rfl (fun _ _ => v_nilSlice rfl rfl) ?_
    refine g_val rfl rfl rfl (fun _ _ => v_assign rfl) ?_
    refine g_nil ?_
    refine g_n_then ?_
    refine g_ret ?_
    refine g_r_blk ?_
    refine g_r_then ?_
    refine g_done rfl (fun w hh => (.tmp rfl (.tmp rfl .nil))) (fun w hh => ?_)
    have ee : spansE L.S p st = check L.S := by simp only [spansE, *, ne_eq, not_true_eq_false, not_false_eq_true, if_false, if_true, reduceIte, Bool.true_eq_false]
    have ea : SpansR L.S p st = ([], check L.S) := by simp only [SpansR, ee]; rw [if_pos hc]
    rw [ea]
    exact ⟨none, 0, rfl, .nil, (News.nil hh.toExt).cons segOK.nil (fun h => absurd rfl h)⟩

set_option maxRecDepth 100000 in
theorem c_Turn1 (x : Span) (m : Int) (bx : Nat) (w : World) (hb : segOK w (bx, 0, [.int .i64 m])) : Ret Try.prog 116 [.agg (encP x).toArray, ptr bx 0] w (.bool (inr m x.lo x.hi)) := by
  refine g_enter (args := [.agg (encP x).toArray, ptr bx 0]) Try.func116 rfl Try.ntmps116 rfl (e := [(0, _), (1, _)]) rfl (HS.start w [] [(bx, 0, [.int .i64 m])] (segsC hb segsN)) ?_
  refine g_seq ?_
  refine g_region ?_
  refine g_box rfl rfl (fun b1 hb1 => ?_)
  refine g_val rfl rfl rfl (fun _ _ => v_assign rfl) ?_
  refine g_nil ?_
  refine g_n_then ?_
  refine g_seq ?_
  refine g_region ?_
  refine g_val rfl rfl rfl (fun w hh => v_load (Try.isAgg3 w) rfl (hh.rcell 0 0 rfl rfl)) ?_
  refine g_val rfl rfl rfl (fun w _ => v_fieldAddr 0 (Try.runUnderlying25 w) rfl (Try.sizeOf3 w) rfl) ?_
  refine g_val rfl rfl rfl (fun w hh => v_load (Try.isAgg3 w) rfl (hh.cell 0 rfl rfl)) ?_
  refine g_val rfl rfl rfl (fun w _ => v_fieldAddr 1 (Try.runUnderlying25 w) rfl (Try.sizeOf3 w) rfl) ?_
  refine g_val rfl rfl rfl (fun w hh => v_load (Try.isAgg3 w) rfl (hh.cell 0 rfl rfl)) ?_
  refine g_callv rfl rfl rfl rfl rfl rfl rfl (fun a w => Try.call90 a w) (fun w hh => c_in _ _ _ w) ?_
  refine g_val rfl rfl rfl (fun _ _ => v_assign rfl) ?_
  refine g_nil ?_
  refine g_n_then ?_
  refine g_ret ?_
  refine g_done rfl (fun w hh => (.tmp rfl .nil)) (fun w hh => ⟨?_, hh.toExt⟩)
  rfl

set_option maxRecDepth 100000 in
theorem c_Turn (p m : Int) (L : LS) (w : World) (hL : L.OK w) : Ret Try.prog 41 [L.val, .int .i64 p, .int .i64 m] w (.tuple #[.int .i64 (TurnR L.S p m).1, .int .i64 (TurnR L.S p m).2]) := by
  have hlt := hL.tl
  have hlf := hL.fl
  have hls := hL.sl
  refine g_enter (args := [L.val, .int .i64 p, .int .i64 m]) Try.func41 rfl Try.ntmps41 rfl (e := [(0, _), (1, _), (2, _)]) rfl (HS.start w [] L.segs hL.segs) ?_
  refine g_seq ?_
  refine g_region ?_
  refine g_box rfl rfl (fun b1 hb1 => ?_)
  refine g_box rfl rfl (fun b2 hb2 => ?_)
  refine g_val rfl rfl rfl (fun _ _ => v_assign rfl) ?_
  refine g_val rfl rfl rfl (fun _ _ => v_assign rfl) ?_
  refine g_nil ?_
  refine g_n_then ?_
  refine g_seq ?_
  refine g_region ?_
  refine g_val rfl rfl rfl (fun w hh => v_loadAgg (vs := [_, _, _, _, _]) (Try.isAgg29 w) (Try.sizeOf29 w) rfl (hh.cells 1 rfl rfl)) ?_
  refine g_val rfl rfl rfl (fun _ _ => v_move rfl) ?_
  refine g_callR (ι := Option (Nat × Nat) × Nat) (p := fun i => SlOK i.1 (SpansR L.S p 0).1.length i.2) (S := fun i => [(bk i.1, off i.1, flat encP (SpansR L.S p 0).1)]) (ret := fun i => .tuple #[slv i.1 (SpansR L.S p 0).1.length i.2, .int .i64 (SpansR L.S p 0).2]) rfl rfl rfl rfl rfl rfl rfl (fun a w => Try.call47 a w) (fun w hh => (c_Spans p 0 L w (hL.ext hh.toExt)).mono (by rintro en w' ⟨q, cap, rfl, h1, h2⟩; exact ⟨(q, cap), rfl, h1, h2⟩)) (fun q3 hq3 => ?_)
  by_cases he : spansE L.S p 0 = 0
  · have hc := (spansE_zero he).1
    have hpl := isPlace_iff.1 (spansE_zero he).2.1
    have hG := good_of_check hc
    have hsl := spansF_len (s := L.S) (p := isState L.S p 0) hG
    have ea : SpansR L.S p 0 = ((spansF L.S (isState L.S p 0)), 0) := by simp only [SpansR]; rw [if_neg (by simp [he])]
    rw [ea] at hq3 ⊢
    simp only at hq3 ⊢
    refine g_val rfl rfl rfl (fun _ _ => v_move rfl) ?_
    refine g_val rfl rfl rfl (fun _ _ => v_extract rfl rfl) ?_
    refine g_val rfl rfl rfl (fun _ _ => v_extract rfl rfl) ?_
    refine g_val rfl rfl rfl (fun _ _ => v_assign rfl) ?_
    refine g_val rfl rfl rfl (fun _ _ => v_assign rfl) ?_
    refine g_nil ?_
    refine g_n_then ?_
    refine g_seq ?_
    refine g_seq ?_
    refine g_region ?_
    refine g_val rfl rfl rfl (fun _ _ => v_move rfl) ?_
    refine g_val rfl rfl rfl (fun _ _ => v_neq rfl rfl) ?_
    refine g_nil ?_
    refine g_n_then ?_
    refine g_condF rfl rfl ?_
    refine g_skip ?_
    refine g_n_then ?_
    refine g_seq ?_
    refine g_region ?_
    refine g_val rfl rfl rfl (fun w hh => v_loadAgg (vs := [_, _, _, _, _]) (Try.isAgg29 w) (Try.sizeOf29 w) rfl (hh.cells 1 rfl rfl)) ?_
    have hfl8 := hG.fl
    have htl12 := hG.tl
    have hsl16 := hG.sl
    refine g_callR (ι := Nat) (p := fun _ => True) (S := fun bd => [(bd, 0, L.cells ++ ints (gatesOf L.S))]) (ret := fun bd => .tuple #[ptr bd 0, .int .i64 0]) rfl rfl rfl rfl rfl rfl rfl (fun a w => Try.call102 a w) (fun w hh => c_openedR L w (hL.ext hh.toExt) hc) (fun bd _ => ?_)
    refine g_val rfl rfl rfl (fun _ _ => v_move rfl) ?_
    refine g_val rfl rfl rfl (fun _ _ => v_extract rfl rfl) ?_
    refine g_val rfl rfl rfl (fun _ _ => v_extract rfl rfl) ?_
    refine g_val rfl rfl rfl (fun _ _ => v_assign rfl) ?_
    refine g_val rfl rfl rfl (fun _ _ => v_assign rfl) ?_
    refine g_nil ?_
    refine g_n_then ?_
    refine g_seq ?_
    refine g_seq ?_
    refine g_region ?_
    refine g_val rfl rfl rfl (fun _ _ => v_move rfl) ?_
    refine g_val rfl rfl rfl (fun _ _ => v_makeFunc (u := #[_]) (u' := #[]) rfl rfl) ?_
    refine g_val rfl rfl rfl (fun _ _ => v_assign rfl) ?_
    refine g_nil ?_
    refine g_n_then ?_
    refine g_seq ?_
    refine g_region ?_
    refine g_val rfl rfl rfl (fun _ _ => v_move rfl) ?_
    refine g_val rfl rfl rfl (fun w hh => v_load (Try.isAgg3 w) rfl (hh.cell 0 rfl rfl)) ?_
    refine g_callv rfl rfl rfl rfl rfl rfl rfl (fun a w => Try.call103 a w) (fun w hh => c_day L bd (gatesOf L.S) _ w (hL.ext hh.toExt) hG gates_length (hh.seg 0 rfl)) ?_
    refine g_val rfl rfl rfl (fun _ _ => v_not rfl) ?_
    refine g_nil ?_
    refine g_n_then ?_
    refine g_cond rfl (fun hc33_1 => ?_) (fun hc33_1 => ?_)
    · replace hc33_1 := of_not_true hc33_1
      refine g_seq ?_
      refine g_region ?_
      refine g_val rfl rfl rfl (fun _ _ => v_assign rfl) ?_
      refine g_val rfl rfl rfl (fun _ _ => v_assign rfl) ?_
      refine g_nil ?_
      refine g_n_then ?_
      refine g_ret ?_
      refine g_r_then ?_
      refine g_done rfl (fun w hh => (.tmp rfl (.tmp rfl .nil))) (fun w hh => ⟨?_, hh.toExt⟩)
      simp only [retv, TurnR, *, ne_eq, not_true_eq_false, not_false_eq_true, if_false, if_true, reduceIte, Bool.true_eq_false] <;> rfl
    · replace hc33_1 := of_not_false hc33_1
      refine g_skip ?_
      refine g_n_then ?_
      refine g_seq ?_
      refine g_region ?_
      refine g_val rfl rfl rfl (fun _ _ => v_move rfl) ?_
      refine g_val rfl rfl rfl (fun _ _ => v_makeFunc (u := #[]) (u' := #[_]) rfl rfl) ?_
      refine g_callv rfl rfl rfl rfl rfl rfl rfl (fun a w => Try.call115 a w) (fun w hh => c_IndexFunc_Span 116 #[] #[ptr b2 0] (fun x => inr m x.lo x.hi) (spansF L.S (isState L.S p 0)) q3.1 q3.2 w (by omega) hq3.ne (hh.seg 1 rfl) (fun a w => Try.call116 a w) (fun w2 hx j hj => c_Turn1 _ m b2 w2 ((hh.ownSeg 0 rfl).ext hx (by simp)))) ?_
      have hir := idxf_range (p := fun x : Span => inr m x.lo x.hi) (l := (spansF L.S (isState L.S p 0)))
      refine g_val rfl rfl rfl (fun _ _ => v_assign rfl) ?_
      refine g_nil ?_
      refine g_n_then ?_
      refine g_seq ?_
      refine g_seq ?_
      refine g_region ?_
      refine g_val rfl rfl rfl (fun _ _ => v_move rfl) ?_
      refine g_val rfl rfl rfl (fun _ _ => v_lss rfl rfl) ?_
      refine g_nil ?_
      refine g_n_then ?_
      refine g_cond rfl (fun hc38_2 => ?_) (fun hc38_2 => ?_)
      · replace hc38_2 := of_decide_eq_true hc38_2
        refine g_seq ?_
        refine g_region ?_
        refine g_val rfl rfl rfl (fun _ _ => v_assign rfl) ?_
        refine g_val rfl rfl rfl (fun _ _ => v_assign rfl) ?_
        refine g_nil ?_
        refine g_n_then ?_
        refine g_ret ?_
        refine g_r_then ?_
        refine g_done rfl (fun w hh => (.tmp rfl (.tmp rfl .nil))) (fun w hh => ⟨?_, hh.toExt⟩)
        simp only [retv, TurnR, *, ne_eq, not_true_eq_false, not_false_eq_true, if_false, if_true, reduceIte, Bool.true_eq_false] <;> rfl
      · replace hc38_2 := of_decide_eq_false hc38_2
        refine g_skip ?_
        refine g_n_then ?_
        refine g_seq ?_
        refine g_region ?_
        refine g_val rfl rfl rfl (fun _ _ => v_move rfl) ?_
        refine g_val rfl rfl rfl (fun _ _ => v_move rfl) ?_
        refine g_val rfl rfl rfl (fun w _ => v_idxI (Try.runUnderlying77 w) (Try.sizeOf25 w) rfl rfl (by omega) (by omega) (hq3.ne (by omega))) ?_
        refine g_val rfl rfl rfl (fun w _ => v_fieldAddr 1 (Try.runUnderlying25 w) rfl (Try.sizeOf3 w) rfl) ?_
        refine g_val rfl rfl rfl (fun w hh => v_load (Try.isAgg3 w) rfl (hh.fld encP_len 1 1 rfl (by omega) rfl rfl)) ?_
        refine g_val rfl rfl rfl (fun _ _ => v_assign rfl) ?_
        refine g_val rfl rfl rfl (fun _ _ => v_assign rfl) ?_
        refine g_nil ?_
        refine g_n_then ?_
        refine g_ret ?_
        refine g_done rfl (fun w hh => (.tmp rfl (.tmp rfl .nil))) (fun w hh => ⟨?_, hh.toExt⟩)
        simp only [retv, TurnR, *, ne_eq, not_true_eq_false, not_false_eq_true, if_false, if_true, reduceIte, Bool.true_eq_false] <;> rfl
  · have ea : SpansR L.S p 0 = ([], spansE L.S p 0) := by simp only [SpansR]; rw [if_pos he]
    rw [ea] at hq3 ⊢
    simp only at hq3 ⊢
    refine g_val rfl rfl rfl (fun _ _ => v_move rfl) ?_
    refine g_val rfl rfl rfl (fun _ _ => v_extract rfl rfl) ?_
    refine g_val rfl rfl rfl (fun _ _ => v_extract rfl rfl) ?_
    refine g_val rfl rfl rfl (fun _ _ => v_assign rfl) ?_
    refine g_val rfl rfl rfl (fun _ _ => v_assign rfl) ?_
    refine g_nil ?_
    refine g_n_then ?_
    refine g_seq ?_
    refine g_seq ?_
    refine g_region ?_
    refine g_val rfl rfl rfl (fun _ _ => v_move rfl) ?_
    refine g_val rfl rfl rfl (fun _ _ => v_neq rfl rfl) ?_
    refine g_nil ?_
    refine g_n_then ?_
    refine g_condT rfl (neP he) ?_
    refine g_seq ?_
    refine g_region ?_
    refine g_val rfl rfl rfl (fun _ _ => v_move rfl) ?_
    refine g_val rfl rfl rfl (fun _ _ => v_assign rfl) ?_
    refine g_val rfl rfl rfl (fun _ _ => v_assign rfl) ?_
    refine g_nil ?_
    refine g_n_then ?_
    refine g_ret ?_
    refine g_r_then ?_
    refine g_done rfl (fun w hh => (.tmp rfl (.tmp rfl .nil))) (fun w hh => ⟨?_, hh.toExt⟩)
    simp only [retv, TurnR, *, ne_eq, not_true_eq_false, not_false_eq_true, if_false, if_true, reduceIte, Bool.true_eq_false] <;> rfl

end Go.Proofs

namespace Go.Proofs
open Go Go.Fw Go.Pl
set_option maxRecDepth 100000 in
theorem inf3 : (Try.prog.info? 3).map (fun i => (i.zero, i.size, i.bytes)) = some (some (.int .i64 0), 1, 8) := by kernel_rfl
set_option maxRecDepth 100000 in
theorem infs3 : (Try.prog.info? 3).map (·.size) = some 1 := by kernel_rfl
set_option maxRecDepth 100000 in
theorem c_ways (L : LS) (bd : Nat) (gt : List Int) (fv : FuncId) (fst cp : Array Value) (may : Int → Int → Bool) (w : World) (hL : L.OK w) (hG : Good L.S) (hd : segOK w (bd, 0, L.cells ++ ints gt)) (hcall : ∀ a w, (callFunc fv a).run Try.prog w = .ok (.enter fv a) w) (hf : ∀ w', Ext [] w w' → ∀ (k : Nat) (q : Int), k < L.S.sills.length → (0 ≤ q ∧ q < L.S.floors.length) → Ret Try.prog fv (fst.toList ++ [.int .i64 (k : Nat), .int .i64 q] ++ cp.toList) w' (.bool (may k q))) : Calls Try.prog 124 #[ptr bd 0, .func (.func fv) fst cp] w (fun en w' => ∃ (bm : Nat) (W : List WV), en = .returned (.map (some bm)) ∧ wproj W = waysF L.S may ∧ (∀ e, e ∈ W → e.ok) ∧ Fresh w w' ((bm, mobj (mlist W)) :: wown W)) := by
  have hlt := hL.tl
  have hlf := hL.fl
  have hls := hL.sl
  have hfl8 := hG.fl
  have hsl16 := hG.sl
  refine g_enterM (args := [ptr bd 0, .func (.func fv) fst cp]) Try.func124 rfl Try.ntmps124 rfl (e := [(0, _), (1, _)]) rfl (HS.start w [] ((bd, 0, L.cells ++ ints gt) :: L.segs) (segsC hd hL.segs)) ?_
  refine g_seq ?_
  refine g_region ?_
  refine g_box rfl rfl (fun bmay hbmay => ?_)
  refine g_val rfl rfl rfl (fun _ _ => v_assign rfl) ?_
  refine g_nil ?_
  refine g_n_then ?_
  refine g_seq ?_
  refine g_region ?_
  refine g_makeMap rfl (fun bm hbm => ?_)
  refine g_insert (own' := (_ :: _)) 0 (fun w => Try.runUnderlying170 w) (fun w => Try.runUnderlying3 w) rfl rfl rfl rfl rfl ?_
  refine g_val rfl rfl rfl (fun _ _ => v_move rfl) ?_
  refine g_alloc (fun w => Try.zeroValue170 w) rfl (fun bmp hbmp => ?_)
  refine g_store1 (own' := (_ :: _)) 0 (fun w => Try.sizeOf170 w) rfl rfl rfl rfl rfl ?_
  refine g_nil ?_
  refine g_n_then ?_
  refine g_seq ?_
  refine g_region ?_
  refine g_buildSlice (vs := [(0, _)]) (cells := [_]) (fun w => Try.runUnderlying26 w) (fun w => Try.sizeOf3 w) (fun w => Try.zeroValue3 w) rfl rfl rfl rfl rfl (fun bqc hbqc => ?_)
  refine g_alloc (fun w => Try.zeroValue26 w) rfl (fun bq hbq => ?_)
  refine g_store1 (own' := (_ :: _)) 0 (fun w => Try.sizeOf26 w) rfl rfl rfl rfl rfl ?_
  refine g_nil ?_
  refine g_n_then ?_
  refine g_seq ?_
  refine g_block ?_
  refine g_sub (e' := [(0, _), (3, _), (5, _), (6, _)]) ((.cons rfl (.cons rfl (.cons rfl (.cons rfl .nil))))) ?_
  refine g_pick (own' := [_, _, _, _, _]) [0, 1, 3, 2, 4] (by decide) rfl ?_
  refine g_loopDV (ι := Nat × List Nat × WG) (ofix := [_, _]) (fun (c, Ds, g) => []) (fun (c, Ds, g) => [(bq, .cells #[slv (some g.q) g.n g.cap] 26 (0, 0)), (g.q.1, .cells (g.pre ++ ints g.xs ++ g.sp).toArray 3 (0, 0)), (bm, mobj (mlist g.W))]) (fun (c, Ds, g) => marks Ds ++ wown g.W) (fun (c, Ds, g) => c ≤ 9 ∧ WGk c (waysN L.S may c) g) (fun (c, Ds, g) => 9 - c) (fun (c, Ds, g) => Ds.map Go.Fw.mark) (0, [], ⟨[sea0], [-1], 1, (bqc, 0), 1, [], []⟩) (⟨Nat.zero_le _, rfl, fun e he => by simp at he; subst he; exact VOK.nil, rfl, ⟨rfl, rfl, by simp [maxLen], .inr rfl⟩⟩) ?_
  intro ⟨c, Ds, ⟨W, xs, n, q, cap, pre, sp⟩⟩ hI0
  simp only at hI0
  refine g_seq ?_
  refine g_seq ?_
  refine g_region ?_
  refine g_val rfl rfl rfl (fun w hh => v_load (Try.isAgg26 w) rfl (hh.cell 0 rfl rfl)) ?_
  refine g_val rfl rfl rfl (fun w _ => v_lenS (Try.runUnderlying26 w) rfl) ?_
  refine g_val rfl rfl rfl (fun _ _ => v_gtr rfl rfl) ?_
  refine g_nil ?_
  refine g_n_then ?_
  refine g_cond rfl (fun h18 => ?_) (fun h18 => ?_)
  · replace h18 := of_decide_eq_true h18
    simp only at h18
    have hnx := hI0.2.qok.hlen
    rw [ints_length] at hnx
    simp only at hnx
    cases xs with
    | nil => simp at hnx; omega
    | cons x xs => ?_
    have hxs := hI0.2.xs
    simp only at hxs
    obtain ⟨ew, hew, hkx⟩ := drop_cons hxs
    have hV := waysN_inv (may := may) hG c
    have hpj := hI0.2.pj
    simp only at hpj
    have hcl : c < W.length := (List.getElem?_eq_some_iff.1 hew).1
    have hwl : (waysN L.S may c).length = W.length := by rw [← hpj, wproj_length]
    have hln := hV.len
    have heok := hI0.2.ok ew (List.mem_of_getElem? hew)
    have hgd : (waysN L.S may c).getD c default = (x, ew.way) := by rw [← hpj, wproj_getD hew, hkx]
    refine g_skip ?_
    refine g_n_then ?_
    refine g_block ?_
    refine g_seq ?_
    refine g_region ?_
    refine g_val rfl rfl rfl (fun w hh => v_load (Try.isAgg26 w) rfl (hh.cell 0 rfl rfl)) ?_
    refine g_val rfl rfl rfl (fun w _ => v_indexAddr1 0 (Try.runUnderlying26 w) (Try.sizeOf3 w) rfl rfl rfl (by simp only; omega) (by simp)) ?_
    refine g_val rfl rfl rfl (fun w hh => v_load (Try.isAgg3 w) rfl (hh.qcell 1 rfl hI0.2.qok)) ?_
    refine g_alloc (fun w => Try.zeroValue3 w) rfl (fun bp hbp => ?_)
    refine g_store1 (own' := (_ :: _)) 0 (fun w => Try.sizeOf3 w) rfl rfl rfl rfl rfl ?_
    refine g_nil ?_
    refine g_n_then ?_
    refine g_seq ?_
    refine g_region ?_
    refine g_val rfl rfl rfl (fun w hh => v_load (Try.isAgg26 w) rfl (hh.cell 1 rfl rfl)) ?_
    refine g_val rfl rfl rfl (fun w _ => v_sliceTail (Try.runUnderlying26 w) (Try.sizeOf3 w) rfl (by simp only; omega)) ?_
    refine g_store1 (own' := (_ :: _ :: _)) 1 (fun w => Try.sizeOf26 w) rfl rfl rfl rfl rfl ?_
    rw [qcells]
    refine g_nil ?_
    refine g_n_then ?_
    refine g_seq ?_
    refine g_region ?_
    refine g_val rfl rfl rfl (fun _ _ => v_move rfl) ?_
    refine g_val rfl rfl rfl (fun w hh => v_load (Try.isAgg3 w) rfl (hh.cell 0 rfl rfl)) ?_
    refine g_callF (ι := Nat × Nat) (L := fun i => [(i.2, .cells #[.int .i64 x] 3 (0, 0)), (i.1, .cells #[ptr bd 0] 139 (0, 0))]) (ret := fun i => .func (.func 166) #[] #[ptr i.1 0, ptr i.2 0]) rfl rfl rfl rfl rfl rfl rfl (fun a w => Try.call160 a w) (fun w hh => (c_from _ _ w).mono (by rintro en w' ⟨b2, b3, rfl, hF⟩; exact ⟨(b2, b3), rfl, hF⟩)) ?_
    rintro ⟨f2, f3⟩
    refine g_nil ?_
    refine g_n_then ?_
    refine g_block ?_
    refine g_sub (e' := [(0, _), (3, _), (5, _), (6, _), (7, _), (26, _)]) ((.cons rfl (.cons rfl (.cons rfl (.cons rfl (.cons rfl (.cons rfl .nil))))))) ?_
    refine g_rangeFunc2 (ι := WG) (own' := fun g => [(f3, .cells #[.int .i64 x] 3 (0, 0)), (f2, .cells #[ptr bd 0] 139 (0, 0)), (bp, .cells #[.int .i64 x] 3 (0, 0)), (bq, .cells #[slv (some g.q) g.n g.cap] 26 (0, 0)), (g.q.1, .cells (g.pre ++ ints g.xs ++ g.sp).toArray 3 (0, 0)), (bm, mobj (mlist g.W)), (bmp, .cells #[.map (some bm)] 170 (0, 0)), (bmay, .cells #[.func (.func fv) fst cp] 172 (0, 0))] ++ (marks Ds ++ wown g.W)) (p := fun g => WGk (c + 1) (procN L.S may (waysN L.S may c) c L.S.sills.length) g) rfl (fun a w => Try.call166 a w) rfl (fun D l rec hD hround w1 hh1 => ?_) (fun g D hp hD => ?_)
    · have hh2 := hh1.swap (A := [_, _]) (B := [_, _])
      have hy : ∀ (V : List (Int × List Int)) (k : Nat) (qq : Int) (g : WG) (X : List (Nat × Obj)) (w2 : World), k < L.S.sills.length → -1 ≤ qq → qq < L.S.floors.length → WInv L.S V → V[c]? = some (x, ew.way) → WGk (c + 1) V g → HS w [] (([(l, rec .ready), (D, .deferred (some [])), (bp, .cells #[.int .i64 x] 3 (0, 0)), (bq, .cells #[slv (some g.q) g.n g.cap] 26 (0, 0)), (g.q.1, .cells (g.pre ++ ints g.xs ++ g.sp).toArray 3 (0, 0)), (bm, mobj (mlist g.W)), (bmp, .cells #[.map (some bm)] 170 (0, 0)), (bmay, .cells #[.func (.func fv) fst cp] 172 (0, 0))] ++ (marks Ds ++ wown g.W)) ++ X) ((bd, 0, L.cells ++ ints gt) :: L.segs) w2 → YieldOK Try.prog l [.int .i64 (k : Nat), .int .i64 qq] w2 (fun en w' => en = .returned (.bool true) ∧ ∃ g' : WG, WGk (c + 1) (tryAdd may ew.way V k qq) g' ∧ HS w [] (([(l, rec .ready), (D, .deferred (some [])), (bp, .cells #[.int .i64 x] 3 (0, 0)), (bq, .cells #[slv (some g'.q) g'.n g'.cap] 26 (0, 0)), (g'.q.1, .cells (g'.pre ++ ints g'.xs ++ g'.sp).toArray 3 (0, 0)), (bm, mobj (mlist g'.W)), (bmp, .cells #[.map (some bm)] 170 (0, 0)), (bmay, .cells #[.func (.func fv) fst cp] 172 (0, 0))] ++ (marks Ds ++ wown g'.W)) ++ X) ((bd, 0, L.cells ++ ints gt) :: L.segs) w') := by
        intro V k qq ⟨W, xs, n, q, cap, pre, sp⟩ X w2 hk hq0 hq1 hVI hVc hgk hh3
        have hVl := hVI.len
        have hpjW := hgk.pj
        simp only at hpjW hh3
        have hWl : W.length = V.length := by rw [← hpjW, wproj_length]
        have hnd := hVI.nd
        rw [← hpjW] at hnd
        rw [← hpjW] at hVc
        obtain ⟨e, he, hek, hew'⟩ := wproj_get hVc
        have hcW : c < W.length := (List.getElem?_eq_some_iff.1 he).1
        have hme := mget_at hnd he
        rw [hek] at hme
        have heo := hgk.ok e (List.mem_of_getElem? he)
        have hel : e.way.length ≤ c := by have := hVI.wl c (x, ew.way) (by rw [← hpjW]; exact hVc); rw [hew']; exact this
        have hqok := hgk.qok
        have hnx := hqok.hlen
        rw [ints_length] at hnx
        have hgx := hgk.xs
        simp only at hqok hnx hgx heo
        have hxl : n ≤ 9 := by rw [← hnx, hgx]; simp; omega
        refine hround (e1 := [(9, .int .i64 qq), (8, .int .i64 (k : Nat)), (28, .int .i64 qq), (27, .int .i64 (k : Nat)), (0, ptr bd 0), (3, ptr bmay 0), (5, ptr bmp 0), (6, ptr bq 0), (7, ptr bp 0), (26, .func (.func 166) #[] #[ptr f2 0, ptr f3 0])]) 0 hh3 rfl rfl rfl rfl (fun X1 hX => ?_) ?_
        · refine g_seq ?_
          refine g_region ?_
          refine g_val rfl rfl rfl (fun _ _ => v_assign rfl) ?_
          refine g_nil ?_
          refine g_n_then ?_
          refine g_region ?_
          refine g_val rfl rfl rfl (fun _ _ => v_assign rfl) ?_
          refine g_nil ?_
          exact hX
        · refine g_block ?_
          refine g_seq ?_
          refine g_region ?_
          refine g_val rfl rfl rfl (fun w hh => v_load (Try.isAgg170 w) rfl (hh.cell 6 rfl rfl)) ?_
          refine g_val rfl rfl rfl (fun _ _ => v_move rfl) ?_
          refine g_val rfl rfl rfl (fun w hh => v_lookup2 (Try.runUnderlying170 w) (Try.runUnderlying3 w) (Try.zeroValue26 w) rfl rfl (hh.get 5 rfl)) ?_
          refine g_val rfl rfl rfl (fun _ _ => v_move rfl) ?_
          refine g_val rfl rfl rfl (fun _ _ => v_extract rfl rfl) ?_
          refine g_val rfl rfl rfl (fun _ _ => v_extract rfl rfl) ?_
          refine g_val rfl rfl rfl (fun _ _ => v_assign rfl) ?_
          refine g_val rfl rfl rfl (fun _ _ => v_assign rfl) ?_
          refine g_nil ?_
          refine g_n_then ?_
          refine g_seq ?_
          refine g_region ?_
          refine g_val rfl rfl rfl (fun _ _ => v_move rfl) ?_
          refine g_val rfl rfl rfl (fun _ _ => v_not rfl) ?_
          refine g_val rfl rfl rfl (fun _ _ => v_move rfl) ?_
          refine g_case 37 rfl (fun hkey => ?_) (fun hkey => ?_)
          · replace hkey := of_not_true hkey
            rw [mget_isSome, hpjW] at hkey
            have hqp : 0 ≤ qq := by have := sea_key hVI hkey; omega
            refine g_valG rfl rfl rfl rfl rfl (fun w hh => v_load (Try.isAgg172 w) rfl (hh.cell 7 rfl rfl)) ?_
            refine g_valG rfl rfl rfl rfl rfl (fun _ _ => v_move rfl) ?_
            refine g_valG rfl rfl rfl rfl rfl (fun _ _ => v_move rfl) ?_
            refine g_callvG rfl rfl rfl rfl rfl rfl rfl rfl rfl hcall (fun w hh => hf w hh.toExt k qq hk ⟨hqp, hq1⟩) ?_
            refine g_val rfl rfl rfl (fun _ _ => v_pickT rfl rfl) ?_
            refine g_nil ?_
            refine g_n_then ?_
            refine g_cond rfl (fun hmay => ?_) (fun hmay => ?_)
            · refine g_seq ?_
              refine g_region ?_
              refine g_val rfl rfl rfl (fun w hh => v_load (Try.isAgg170 w) rfl (hh.cell 6 rfl rfl)) ?_
              refine g_val rfl rfl rfl (fun w hh => v_load (Try.isAgg3 w) rfl (hh.cell 2 rfl rfl)) ?_
              refine g_val rfl rfl rfl (fun w hh => v_lookupS (Try.runUnderlying170 w) (Try.runUnderlying3 w) (Try.zeroValue26 w) hme rfl rfl (hh.get 5 rfl)) ?_
              refine g_val rfl rfl rfl (fun w _ => v_lenS (Try.runUnderlying26 w) rfl) ?_
              refine g_val rfl rfl rfl (fun w hh => v_load (Try.isAgg170 w) rfl (hh.cell 6 rfl rfl)) ?_
              refine g_val rfl rfl rfl (fun w hh => v_load (Try.isAgg3 w) rfl (hh.cell 2 rfl rfl)) ?_
              refine g_val rfl rfl rfl (fun w hh => v_lookupS (Try.runUnderlying170 w) (Try.runUnderlying3 w) (Try.zeroValue26 w) hme rfl rfl (hh.get 5 rfl)) ?_
              refine g_val rfl rfl rfl (fun w _ => v_lenS (Try.runUnderlying26 w) rfl) ?_
              refine g_val rfl rfl rfl (fun _ _ => v_add rfl rfl (wrap_i64 (by omega))) ?_
              refine g_makeInts (l := e.way.length) (c := e.way.length + 1) Try.underlying26 inf3 rfl rfl rfl (by omega) (by omega) (by omega) rfl (fun bw hbw => ?_)
              refine g_perm (List.perm_middle (l₁ := [_, _, _, _, _, _, _, _])).symm ?_
              have hvw : VOK 1 e.way.length (e.way.length + 1) (ints e.way) ((List.replicate (e.way.length + 1) (Value.int .i64 0)).drop e.way.length) (some (bw, 0)) := ⟨by simp [ints_length], by simp [ints_length], by omega, by simp only [maxLen]; omega, by simp, by simp⟩
              refine g_val rfl rfl rfl (fun _ _ => v_assign rfl) ?_
              refine g_nil ?_
              refine g_n_then ?_
              refine g_seq ?_
              refine g_region ?_
              refine g_val rfl rfl rfl (fun _ _ => v_move rfl) ?_
              refine g_val rfl rfl rfl (fun w hh => v_load (Try.isAgg170 w) rfl (hh.cell 6 rfl rfl)) ?_
              refine g_val rfl rfl rfl (fun w hh => v_load (Try.isAgg3 w) rfl (hh.cell 2 rfl rfl)) ?_
              refine g_val rfl rfl rfl (fun w hh => v_lookupS (Try.runUnderlying170 w) (Try.runUnderlying3 w) (Try.zeroValue26 w) hme rfl rfl (hh.get 5 rfl)) ?_
              refine g_copy (own' := [_, _, _, _, _, _, _, _] ++ (vown 3 (ints e.way) ((List.replicate (e.way.length + 1) (Value.int .i64 0)).drop e.way.length) (some (bw, 0)) ++ ((marks Ds ++ wown W) ++ X))) 8 Try.underlying26 infs3 rfl rfl rfl ints_length (by simp) (fun h0 hq => by have := (heo.hnone hq).1; omega) (fun w hh => vown_seg (E := 3) hh (fun p hp => List.mem_append_right [_, _, _, _, _, _, _, _] (List.mem_cons_of_mem _ (show p ∈ (marks Ds ++ wown W) ++ X from List.mem_append_left _ (List.mem_append_right _ (mem_wown (List.mem_of_getElem? he) p hp))))) heo.hoff heo.noneNil) ones_ints rfl rfl ?_
              refine g_nil ?_
              refine g_n_then ?_
              refine g_draw (some 13) (.hoist 0 (.free 1 (.free 2 (.free 3 (.hoist 6 (.free 7 (.br (.alt 4 (.br (.alt 5 (.one 8 (.one 9 (.one 10 (.free 11 (.one 12 (.last 13 .done)))))) (.alt 8 (.one 5 (.one 9 (.one 10 (.free 11 (.one 12 (.last 13 .done)))))) .nil))) (.alt 8 (.one 4 (.one 5 (.one 9 (.one 10 (.free 11 (.one 12 (.last 13 .done))))))) .nil))))))))) (HS _ _ [_, _] _) rfl (by decide +kernel) (fun w k hh => hh.draw k) (fun w hh => (hh.head (A := [_, _, _, _, _, _, _, _])).pick [3, 6] (by decide) rfl) ?_
              refine p_hoist rfl rfl rfl rfl (fun w hh => v_load (Try.isAgg170 w) rfl (hh.cell 1 rfl rfl)) ?_
              refine p_free rfl rfl rfl rfl (fun _ _ => v_move rfl) ?_
              refine p_free rfl rfl rfl rfl (fun _ _ => v_move rfl) ?_
              refine p_free rfl rfl rfl rfl (fun _ _ => v_move rfl) ?_
              refine p_hoist rfl rfl rfl rfl (fun w hh => v_load (Try.isAgg26 w) rfl (hh.cell 0 rfl rfl)) ?_
              refine p_free rfl rfl rfl rfl (fun _ _ => v_move rfl) ?_
              refine p_br ?_
              refine p_alt rfl ?_ ?_
              · refine g_buildSlice (vs := [(0, _)]) (cells := [_]) (fun w => Try.runUnderlying26 w) (fun w => Try.sizeOf3 w) (fun w => Try.zeroValue3 w) rfl rfl rfl rfl rfl (fun b1 hb1 => ?_)
                refine p_next (fun w hh => (hh.head (A := [_, _, _, _, _, _, _, _, _])).pick [4, 7] (by decide) rfl) ?_
                refine p_br ?_
                refine p_alt rfl ?_ ?_
                · refine g_appendM [_, _, _, _, _, _, _, _, _] (news := [_]) (xs := ints e.way) (sp := (List.replicate (e.way.length + 1) (Value.int .i64 0)).drop e.way.length) (q := some (bw, 0)) Try.underlying26 inf3 rfl rfl rfl hvw (by simp) (by decide) rfl (fun w hh => hh.ownSeg 0 rfl) (ones_all rfl) (by simp only [maxLen]; omega) (by omega) rfl (fun q2 cap3 sp4 hva => ?_)
                  rw [ints_snoc] at hva ⊢
                  refine p_next (fun w hh => (hh.head (A := [_, _, _, _, _, _, _, _, _])).pick [4, 7] (by decide) rfl) ?_
                  refine p_one rfl ?_
                  refine g_buildSlice (vs := [(0, _)]) (cells := [_]) (fun w => Try.runUnderlying26 w) (fun w => Try.sizeOf3 w) (fun w => Try.zeroValue3 w) rfl rfl rfl rfl rfl (fun b5 hb5 => ?_)
                  refine p_next (fun w hh => (hh.head (A := [_, _, _, _, _, _, _, _, _, _])).pick [5, 8] (by decide) rfl) ?_
                  refine p_one rfl ?_
                  refine g_appendP (pre := pre) (xs := ints xs) (sp := sp) (q := q) 6 Try.underlying26 inf3 rfl rfl rfl rfl hqok (fun w hh => hh.ownSeg 0 rfl) rfl (by simp only [maxLen]; omega) (by omega) rfl (fun q6 cap7 pre8 sp9 hqa => ?_)
                  rw [ints_snoc] at hqa ⊢
                  refine p_next (fun w hh => (hh.head (A := [_, _, _, _, _, _, _, _, _, _])).pick [5, 8] (by decide) rfl) ?_
                  refine p_one rfl ?_
                  refine g_mapEntry (own' := (_ :: _ :: _ :: _ :: _ :: _ :: _ :: _ :: _ :: _ :: _)) 7 (fun w => Try.runUnderlying170 w) (fun w => Try.runUnderlying3 w) (fun w => Try.zeroValue26 w) rfl rfl (mget_none (by rw [hpjW]; exact hkey)) rfl rfl rfl ?_
                  refine p_next (fun w hh => (hh.head (A := [_, _, _, _, _, _, _, _, _, _])).pick [5, 8] (by decide) rfl) ?_
                  refine p_free rfl rfl rfl rfl (fun _ _ => v_extract rfl rfl) ?_
                  refine p_one rfl ?_
                  refine g_entryStore (own' := (_ :: _ :: _ :: _ :: _ :: _ :: _ :: _ :: _ :: _ :: _)) 7 rfl rfl rfl rfl rfl ?_
                  refine p_next (fun w hh => (hh.head (A := [_, _, _, _, _, _, _, _, _, _])).pick [5, 8] (by decide) rfl) ?_
                  refine p_last rfl ?_
                  refine g_store1 (own' := (_ :: _ :: _ :: _ :: _ :: _ :: _ :: _ :: _ :: _ :: _)) 5 (fun w => Try.sizeOf26 w) rfl rfl rfl rfl rfl ?_
                  refine p_nextL ?_
                  refine p_done ?_
                  refine g_n_blk ?_
                  refine g_roundQ (i := 0) (k := 2) rfl rfl rfl (fun w2 h2 => ⟨rfl, ⟨W ++ [⟨qq, e.way ++ [(k : Int)], some q2, cap3, sp4⟩], xs ++ [qq], n + 1, q6, cap7, pre8, sp9⟩, ⟨?_, ?_, ?_, hqa⟩, ?_⟩)
                  · simp only [wproj_snoc, hpjW, tryAdd, hkey, hmay, Bool.false_eq_true, if_false, if_true, hew']
                  · intro e' he'
                    rcases List.mem_append.1 he' with h | h
                    · exact hgk.ok e' h
                    · simp only [List.mem_singleton] at h
                      subst h
                      simpa [WV.ok] using hva
                  · simp only [hgx, List.map_append, List.map_cons, List.map_nil]
                    rw [List.drop_append_of_le_length (by simp; omega)]
                  · have h3 := h2.perm (perm_end (A := [_, _, _, _, _, _, _, _]) (m := marks Ds) (w := wown W) (V := vown 3 (ints (e.way ++ [(k : Int)])) sp4 (some q2)) (X := X))
                    have e1 : wown (W ++ [(⟨qq, e.way ++ [(k : Int)], some q2, cap3, sp4⟩ : WV)]) = wown W ++ vown 3 (ints (e.way ++ [(k : Int)])) sp4 (some q2) := wown_snoc
                    have e2 : mlist (W ++ [(⟨qq, e.way ++ [(k : Int)], some q2, cap3, sp4⟩ : WV)]) = mlist W ++ [(qq, slv (some q2) (e.way.length + 1) cap3)] := by rw [mlist_snoc]; simp
                    simp only [e1, e2]
                    exact h3
                refine p_alt rfl ?_ ?_
                · refine g_buildSlice (vs := [(0, _)]) (cells := [_]) (fun w => Try.runUnderlying26 w) (fun w => Try.sizeOf3 w) (fun w => Try.zeroValue3 w) rfl rfl rfl rfl rfl (fun b10 hb10 => ?_)
                  refine p_next (fun w hh => (hh.head (A := [_, _, _, _, _, _, _, _, _, _])).pick [5, 8] (by decide) rfl) ?_
                  refine p_one rfl ?_
                  refine g_appendM [_, _, _, _, _, _, _, _, _, _] (news := [_]) (xs := ints e.way) (sp := (List.replicate (e.way.length + 1) (Value.int .i64 0)).drop e.way.length) (q := some (bw, 0)) Try.underlying26 inf3 rfl rfl rfl hvw (by simp) (by decide) rfl (fun w hh => hh.ownSeg 1 rfl) (ones_all rfl) (by simp only [maxLen]; omega) (by omega) rfl (fun q11 cap12 sp13 hva => ?_)
                  rw [ints_snoc] at hva ⊢
                  refine p_next (fun w hh => (hh.head (A := [_, _, _, _, _, _, _, _, _, _])).pick [5, 8] (by decide) rfl) ?_
                  refine p_one rfl ?_
                  refine g_appendP (pre := pre) (xs := ints xs) (sp := sp) (q := q) 6 Try.underlying26 inf3 rfl rfl rfl rfl hqok (fun w hh => hh.ownSeg 0 rfl) rfl (by simp only [maxLen]; omega) (by omega) rfl (fun q14 cap15 pre16 sp17 hqa => ?_)
                  rw [ints_snoc] at hqa ⊢
                  refine p_next (fun w hh => (hh.head (A := [_, _, _, _, _, _, _, _, _, _])).pick [5, 8] (by decide) rfl) ?_
                  refine p_one rfl ?_
                  refine g_mapEntry (own' := (_ :: _ :: _ :: _ :: _ :: _ :: _ :: _ :: _ :: _ :: _)) 7 (fun w => Try.runUnderlying170 w) (fun w => Try.runUnderlying3 w) (fun w => Try.zeroValue26 w) rfl rfl (mget_none (by rw [hpjW]; exact hkey)) rfl rfl rfl ?_
                  refine p_next (fun w hh => (hh.head (A := [_, _, _, _, _, _, _, _, _, _])).pick [5, 8] (by decide) rfl) ?_
                  refine p_free rfl rfl rfl rfl (fun _ _ => v_extract rfl rfl) ?_
                  refine p_one rfl ?_
                  refine g_entryStore (own' := (_ :: _ :: _ :: _ :: _ :: _ :: _ :: _ :: _ :: _ :: _)) 7 rfl rfl rfl rfl rfl ?_
                  refine p_next (fun w hh => (hh.head (A := [_, _, _, _, _, _, _, _, _, _])).pick [5, 8] (by decide) rfl) ?_
                  refine p_last rfl ?_
                  refine g_store1 (own' := (_ :: _ :: _ :: _ :: _ :: _ :: _ :: _ :: _ :: _ :: _)) 5 (fun w => Try.sizeOf26 w) rfl rfl rfl rfl rfl ?_
                  refine p_nextL ?_
                  refine p_done ?_
                  refine g_n_blk ?_
                  refine g_roundQ (i := 0) (k := 2) rfl rfl rfl (fun w2 h2 => ⟨rfl, ⟨W ++ [⟨qq, e.way ++ [(k : Int)], some q11, cap12, sp13⟩], xs ++ [qq], n + 1, q14, cap15, pre16, sp17⟩, ⟨?_, ?_, ?_, hqa⟩, ?_⟩)
                  · simp only [wproj_snoc, hpjW, tryAdd, hkey, hmay, Bool.false_eq_true, if_false, if_true, hew']
                  · intro e' he'
                    rcases List.mem_append.1 he' with h | h
                    · exact hgk.ok e' h
                    · simp only [List.mem_singleton] at h
                      subst h
                      simpa [WV.ok] using hva
                  · simp only [hgx, List.map_append, List.map_cons, List.map_nil]
                    rw [List.drop_append_of_le_length (by simp; omega)]
                  · have h3 := h2.perm (perm_end (A := [_, _, _, _, _, _, _, _]) (m := marks Ds) (w := wown W) (V := vown 3 (ints (e.way ++ [(k : Int)])) sp13 (some q11)) (X := X))
                    have e1 : wown (W ++ [(⟨qq, e.way ++ [(k : Int)], some q11, cap12, sp13⟩ : WV)]) = wown W ++ vown 3 (ints (e.way ++ [(k : Int)])) sp13 (some q11) := wown_snoc
                    have e2 : mlist (W ++ [(⟨qq, e.way ++ [(k : Int)], some q11, cap12, sp13⟩ : WV)]) = mlist W ++ [(qq, slv (some q11) (e.way.length + 1) cap12)] := by rw [mlist_snoc]; simp
                    simp only [e1, e2]
                    exact h3
                exact p_nil
              refine p_alt rfl ?_ ?_
              · refine g_buildSlice (vs := [(0, _)]) (cells := [_]) (fun w => Try.runUnderlying26 w) (fun w => Try.sizeOf3 w) (fun w => Try.zeroValue3 w) rfl rfl rfl rfl rfl (fun b18 hb18 => ?_)
                refine p_next (fun w hh => (hh.head (A := [_, _, _, _, _, _, _, _, _])).pick [4, 7] (by decide) rfl) ?_
                refine p_one rfl ?_
                refine g_buildSlice (vs := [(0, _)]) (cells := [_]) (fun w => Try.runUnderlying26 w) (fun w => Try.sizeOf3 w) (fun w => Try.zeroValue3 w) rfl rfl rfl rfl rfl (fun b19 hb19 => ?_)
                refine p_next (fun w hh => (hh.head (A := [_, _, _, _, _, _, _, _, _, _])).pick [5, 8] (by decide) rfl) ?_
                refine p_one rfl ?_
                refine g_appendM [_, _, _, _, _, _, _, _, _, _] (news := [_]) (xs := ints e.way) (sp := (List.replicate (e.way.length + 1) (Value.int .i64 0)).drop e.way.length) (q := some (bw, 0)) Try.underlying26 inf3 rfl rfl rfl hvw (by simp) (by decide) rfl (fun w hh => hh.ownSeg 0 rfl) (ones_all rfl) (by simp only [maxLen]; omega) (by omega) rfl (fun q20 cap21 sp22 hva => ?_)
                rw [ints_snoc] at hva ⊢
                refine p_next (fun w hh => (hh.head (A := [_, _, _, _, _, _, _, _, _, _])).pick [5, 8] (by decide) rfl) ?_
                refine p_one rfl ?_
                refine g_appendP (pre := pre) (xs := ints xs) (sp := sp) (q := q) 6 Try.underlying26 inf3 rfl rfl rfl rfl hqok (fun w hh => hh.ownSeg 1 rfl) rfl (by simp only [maxLen]; omega) (by omega) rfl (fun q23 cap24 pre25 sp26 hqa => ?_)
                rw [ints_snoc] at hqa ⊢
                refine p_next (fun w hh => (hh.head (A := [_, _, _, _, _, _, _, _, _, _])).pick [5, 8] (by decide) rfl) ?_
                refine p_one rfl ?_
                refine g_mapEntry (own' := (_ :: _ :: _ :: _ :: _ :: _ :: _ :: _ :: _ :: _ :: _)) 7 (fun w => Try.runUnderlying170 w) (fun w => Try.runUnderlying3 w) (fun w => Try.zeroValue26 w) rfl rfl (mget_none (by rw [hpjW]; exact hkey)) rfl rfl rfl ?_
                refine p_next (fun w hh => (hh.head (A := [_, _, _, _, _, _, _, _, _, _])).pick [5, 8] (by decide) rfl) ?_
                refine p_free rfl rfl rfl rfl (fun _ _ => v_extract rfl rfl) ?_
                refine p_one rfl ?_
                refine g_entryStore (own' := (_ :: _ :: _ :: _ :: _ :: _ :: _ :: _ :: _ :: _ :: _)) 7 rfl rfl rfl rfl rfl ?_
                refine p_next (fun w hh => (hh.head (A := [_, _, _, _, _, _, _, _, _, _])).pick [5, 8] (by decide) rfl) ?_
                refine p_last rfl ?_
                refine g_store1 (own' := (_ :: _ :: _ :: _ :: _ :: _ :: _ :: _ :: _ :: _ :: _)) 5 (fun w => Try.sizeOf26 w) rfl rfl rfl rfl rfl ?_
                refine p_nextL ?_
                refine p_done ?_
                refine g_n_blk ?_
                refine g_roundQ (i := 0) (k := 2) rfl rfl rfl (fun w2 h2 => ⟨rfl, ⟨W ++ [⟨qq, e.way ++ [(k : Int)], some q20, cap21, sp22⟩], xs ++ [qq], n + 1, q23, cap24, pre25, sp26⟩, ⟨?_, ?_, ?_, hqa⟩, ?_⟩)
                · simp only [wproj_snoc, hpjW, tryAdd, hkey, hmay, Bool.false_eq_true, if_false, if_true, hew']
                · intro e' he'
                  rcases List.mem_append.1 he' with h | h
                  · exact hgk.ok e' h
                  · simp only [List.mem_singleton] at h
                    subst h
                    simpa [WV.ok] using hva
                · simp only [hgx, List.map_append, List.map_cons, List.map_nil]
                  rw [List.drop_append_of_le_length (by simp; omega)]
                · have h3 := h2.perm (perm_end (A := [_, _, _, _, _, _, _, _]) (m := marks Ds) (w := wown W) (V := vown 3 (ints (e.way ++ [(k : Int)])) sp22 (some q20)) (X := X))
                  have e1 : wown (W ++ [(⟨qq, e.way ++ [(k : Int)], some q20, cap21, sp22⟩ : WV)]) = wown W ++ vown 3 (ints (e.way ++ [(k : Int)])) sp22 (some q20) := wown_snoc
                  have e2 : mlist (W ++ [(⟨qq, e.way ++ [(k : Int)], some q20, cap21, sp22⟩ : WV)]) = mlist W ++ [(qq, slv (some q20) (e.way.length + 1) cap21)] := by rw [mlist_snoc]; simp
                  simp only [e1, e2]
                  exact h3
              exact p_nil
            · refine g_skip ?_
              refine g_n_blk ?_
              refine g_roundQ (i := 0) (k := 0) rfl rfl rfl (fun w2 h2 => ⟨rfl, ⟨W, xs, n, q, cap, pre, sp⟩, ?_, h2⟩)
              rw [tryAdd, if_neg (by simp [hkey]), if_neg (by simp [hmay])]; exact hgk
          · replace hkey := of_not_false hkey
            rw [mget_isSome, hpjW] at hkey
            refine g_skipG rfl rfl rfl rfl rfl rfl ?_
            refine g_skipG rfl rfl rfl rfl rfl rfl ?_
            refine g_skipG rfl rfl rfl rfl rfl rfl ?_
            refine g_skipG rfl rfl rfl rfl rfl rfl ?_
            refine g_val rfl rfl rfl (fun _ _ => v_pickF rfl rfl) ?_
            refine g_nil ?_
            refine g_n_then ?_
            refine g_condF rfl rfl ?_
            refine g_skip ?_
            refine g_n_blk ?_
            refine g_roundQ (i := 0) (k := 0) rfl rfl rfl (fun w2 h2 => ⟨rfl, ⟨W, xs, n, q, cap, pre, sp⟩, ?_, h2⟩)
            rw [tryAdd, if_pos hkey]; exact hgk
      have hh4 : HS w [] ((f3, .cells #[.int .i64 x] 3 (0, 0)) :: (f2, .cells #[ptr bd 0] 139 (0, 0)) :: ([(l, rec .ready), (D, .deferred (some [])), (bp, .cells #[.int .i64 x] 3 (0, 0)), (bq, .cells #[slv (some (q.1, if cap = 1 then q.2 else q.2 + 1)) (n - 1) (cap - 1)] 26 (0, 0)), ((q.1, if cap = 1 then q.2 else q.2 + 1).1, .cells ((pre ++ [Value.int .i64 x]) ++ ints xs ++ sp).toArray 3 (0, 0)), (bm, mobj (mlist W)), (bmp, .cells #[.map (some bm)] 170 (0, 0)), (bmay, .cells #[.func (.func fv) fst cp] 172 (0, 0))] ++ (marks Ds ++ wown W) ++ [])) ((bd, 0, L.cells ++ ints gt) :: L.segs) w1 := by rw [List.append_nil]; exact hh2
      refine (c_from1 w [] ((bd, 0, L.cells ++ ints gt) :: L.segs) (fun g => ([(l, rec .ready), (D, .deferred (some [])), (bp, .cells #[.int .i64 x] 3 (0, 0)), (bq, .cells #[slv (some g.q) g.n g.cap] 26 (0, 0)), (g.q.1, .cells (g.pre ++ ints g.xs ++ g.sp).toArray 3 (0, 0)), (bm, mobj (mlist g.W)), (bmp, .cells #[.map (some bm)] 170 (0, 0)), (bmay, .cells #[.func (.func fv) fst cp] 172 (0, 0))] ++ (marks Ds ++ wown g.W))) (fun k g => WGk (c + 1) (procN L.S may (waysN L.S may c) c k) g) l bd f2 f3 x L hL 3 rfl hG.ne ?_ ?_ ?_ ?_ ⟨W, xs, n - 1, (q.1, if cap = 1 then q.2 else q.2 + 1), cap - 1, pre ++ [Value.int .i64 x], sp⟩ ?_ w1 [] hh4).mono ?_
      · intro g X w2 hg2 hh3
        exact hh3.rcell 0 4 rfl rfl
      · intro j g hj hg2 ha hb2
        show WGk _ (procN _ _ _ _ (j + 1)) g
        rw [procN_succ, wStep, hgd, if_neg ha, if_neg hb2]
        exact hg2
      · intro j g X w2 hj hg2 ha hh3
        have hpi := procN_inv (may := may) hG hV (c := c) (by omega) (k := j) (by omega)
        obtain ⟨hpi1, r, hr⟩ := hpi
        refine (hy _ j _ g X w2 hj (hG.sb j hj).1 (hG.sb j hj).2 hpi1 (by rw [hr, List.getElem?_append_left (by omega), ← hpj]; exact wproj_at hew hkx) hg2 hh3).mono ?_
        rintro en w' ⟨rfl, g', hg', h'⟩
        refine ⟨rfl, g', ?_, h'⟩
        show WGk _ (procN _ _ _ _ (j + 1)) g'
        rw [procN_succ, wStep, hgd, if_pos ha]
        exact hg'
      · intro j g X w2 hj hg2 hb2 hh3
        have ha := fun h => hG.ne j hj (Eq.trans h hb2.symm)
        have hpi := procN_inv (may := may) hG hV (c := c) (by omega) (k := j) (by omega)
        obtain ⟨hpi1, r, hr⟩ := hpi
        refine (hy _ j _ g X w2 hj (hG.sa j hj).1 (hG.sa j hj).2 hpi1 (by rw [hr, List.getElem?_append_left (by omega), ← hpj]; exact wproj_at hew hkx) hg2 hh3).mono ?_
        rintro en w' ⟨rfl, g', hg', h'⟩
        refine ⟨rfl, g', ?_, h'⟩
        show WGk _ (procN _ _ _ _ (j + 1)) g'
        rw [procN_succ, wStep, hgd, if_neg ha, if_pos hb2]
        exact hg'
      · refine ⟨hpj, hI0.2.ok, ?_, hI0.2.qok.pop⟩
        exact drop_tail hxs
      · rintro en w' ⟨v, rfl, g, hg2, h'⟩
        refine ⟨v, rfl, g, hg2, ?_⟩
        simp only [List.append_nil] at h'
        exact h'.swap (A := [_, _]) (B := [_, _])
    · refine g_n_blk ?_
      refine g_n_blk ?_
      refine g_n_then ?_
      refine g_perm (List.perm_middle (l₁ := [_, _, _, _, _, _, _, _])).symm ?_
      exact g_againDV (pre := [_, _, _, _, _, _, _, _]) (i := ⟨c, Ds, ⟨W, x :: xs, n, q, cap, pre, sp⟩⟩) (c + 1, D :: Ds, g) [3, 4, 5, 6, 7] rfl ((.cons rfl (.cons rfl (.cons rfl (.cons rfl .nil))))) (by decide) rfl rfl (⟨by omega, by show WGk _ (if c < (waysN L.S may c).length then _ else _) g; rw [if_pos (by omega)]; exact hp⟩) (by simp only; omega)
  · replace h18 := of_decide_eq_false h18
    simp only at h18
    refine g_exit ?_
    refine g_x_then ?_
    refine g_x_then ?_
    refine g_x_blk ?_
    refine g_n_then ?_
    refine g_seq ?_
    refine g_region ?_
    refine g_val rfl rfl rfl (fun w hh => v_load (Try.isAgg170 w) rfl (hh.cell 3 rfl rfl)) ?_
    refine g_val rfl rfl rfl (fun _ _ => v_assign rfl) ?_
    refine g_nil ?_
    refine g_n_then ?_
    refine g_ret ?_
    have en0 : n = 0 := by omega
    have hnx := hI0.2.qok.hlen
    have hxs := hI0.2.xs
    have hpj := hI0.2.pj
    simp only [ints_length] at hnx hxs hpj
    have hcl : W.length ≤ c := by have := congrArg List.length hxs; simp at this; omega
    have hfin : waysF L.S may = waysN L.S may c := waysN_stop (by rw [← hpj, wproj_length]; exact hcl) hI0.1
    refine g_perm (perm_swap (A := [_, _, _, _, _])) ?_
    refine g_doneM (Ds := Ds) rfl (.tmp rfl .nil) (fun w hh => ⟨bm, W, rfl, hfin ▸ hpj, hI0.2.ok, (HS.pickT (pre := [_, _, _, _, _]) (pre' := [(bm, mobj (mlist W))]) (T := wown W) hh [2] (by decide) rfl).toFresh⟩)

end Go.Proofs

namespace Go.Proofs
open Go Go.Fw Go.Pl
set_option maxRecDepth 100000 in
theorem c_Index (r : Option (Nat × Nat)) (l : List Int) (cp : Nat) (x : Int) (w : World) (hl : l.length ≤ 140737488355328) (hr : 0 < l.length → r ≠ none) (hs : segOK w (bk r, off r, ints l)) : Ret Try.prog 148 [slv r l.length cp, .int .i64 x] w (.int .i64 (idxf (fun y => decide (x = y)) l)) := by
  refine g_enter (args := [slv r l.length cp, .int .i64 x]) Try.func148 rfl Try.ntmps148 rfl (e := [(0, _), (1, _)]) rfl (HS.start w [] [(bk r, off r, ints l)] (segsC hs segsN)) ?_
  refine g_seq ?_
  refine g_region ?_
  refine g_val rfl rfl rfl (fun _ _ => v_assign rfl) ?_
  refine g_nil ?_
  refine g_n_then ?_
  refine g_seq ?_
  refine g_seq ?_
  refine g_region ?_
  refine g_val rfl rfl rfl (fun _ _ => v_move rfl) ?_
  refine g_val rfl rfl rfl (fun w _ => v_lenS (Try.runUnderlying26 w) rfl) ?_
  refine g_val rfl rfl rfl (fun _ _ => v_move rfl) ?_
  refine g_nil ?_
  refine g_n_then ?_
  refine g_block ?_
  refine g_sub (e' := [(8, _), (0, _), (1, _), (7, _)]) ((.cons rfl (.cons rfl (.cons rfl (.cons rfl .nil))))) ?_
  refine g_loopM (ι := Nat) (fun k => [(8, .int .i64 (k : Nat))]) (fun k => []) (fun k => k ≤ l.length ∧ ∀ i, i < k → decide (x = l.getD i 0) = false) (fun k => l.length - k) 0 (⟨Nat.zero_le _, fun i hi => absurd hi (by omega)⟩) ?_
  intro k hI0
  refine g_seq ?_
  refine g_region ?_
  refine g_val rfl rfl rfl (fun _ _ => v_lss rfl rfl) ?_
  refine g_nil ?_
  refine g_n_then ?_
  refine g_seq ?_
  refine g_cond rfl (fun hc9_1 => ?_) (fun hc9_1 => ?_)
  · replace hc9_1 := of_decide_eq_true hc9_1
    refine g_skip ?_
    refine g_n_then ?_
    refine g_seq ?_
    refine g_block ?_
    refine g_seq ?_
    refine g_region ?_
    refine g_val rfl rfl rfl (fun _ _ => v_move rfl) ?_
    refine g_val rfl rfl rfl (fun _ _ => v_assign rfl) ?_
    refine g_nil ?_
    refine g_n_then ?_
    refine g_seq ?_
    refine g_region ?_
    refine g_val rfl rfl rfl (fun _ _ => v_move rfl) ?_
    refine g_val rfl rfl rfl (fun _ _ => v_move rfl) ?_
    refine g_val rfl rfl rfl (fun _ _ => v_move rfl) ?_
    refine g_val rfl rfl rfl (fun w _ => v_indexAddr1 k (Try.runUnderlying26 w) (Try.sizeOf3 w) rfl rfl rfl (by omega) (hr (by omega))) ?_
    refine g_val rfl rfl rfl (fun w hh => v_load (Try.isAgg3 w) rfl (hh.int (j := k) 0 rfl (by omega))) ?_
    refine g_val rfl rfl rfl (fun _ _ => v_eql rfl rfl) ?_
    refine g_nil ?_
    refine g_n_then ?_
    refine g_cond rfl (fun hx => ?_) (fun hx => ?_)
    · refine g_seq ?_
      refine g_region ?_
      refine g_val rfl rfl rfl (fun _ _ => v_move rfl) ?_
      refine g_val rfl rfl rfl (fun _ _ => v_assign rfl) ?_
      refine g_nil ?_
      refine g_n_then ?_
      refine g_ret ?_
      refine g_r_blk ?_
      refine g_r_then ?_
      refine g_r_then ?_
      refine g_r_blk ?_
      refine g_r_then ?_
      refine g_done rfl (fun w hh => (.tmp rfl .nil)) (fun w hh => ⟨?_, hh.toExt⟩)
      rw [idxf_found (d := (0 : Int)) (k := k) (by omega) hI0.2 (by simpa using hx)]; rfl
    · refine g_skip ?_
      refine g_n_blk ?_
      refine g_n_then ?_
      refine g_region ?_
      refine g_val rfl rfl rfl (fun _ _ => v_add rfl rfl (wrap_i64 (by omega))) ?_
      refine g_val rfl rfl rfl (fun _ _ => v_move rfl) ?_
      refine g_nil ?_
      refine g_n_then ?_
      exact g_againM (i := k) (k + 1) [] ((.cons rfl (.cons rfl (.cons rfl (.cons rfl .nil))))) (by decide) rfl (⟨by omega, fun i hi => by rcases Nat.lt_succ_iff_lt_or_eq.1 hi with h | h; exact hI0.2 i h; subst h; simpa using hx⟩) (by omega)
  · replace hc9_1 := of_decide_eq_false hc9_1
    refine g_exit ?_
    refine g_x_then ?_
    refine g_x_then ?_
    refine g_x_blk ?_
    refine g_n_then ?_
    refine g_seq ?_
    refine g_region ?_
    refine g_val rfl rfl rfl (fun _ _ => v_assign rfl) ?_
    refine g_nil ?_
    refine g_n_then ?_
    refine g_ret ?_
    have ek : k = l.length := by omega
    subst ek
    refine g_done rfl (fun w hh => (.tmp rfl .nil)) (fun w hh => ⟨?_, hh.toExt⟩)
    rw [idxf_none (d := (0 : Int)) hI0.2]; rfl

set_option maxRecDepth 100000 in
theorem c_Contains (r : Option (Nat × Nat)) (l : List Int) (cp : Nat) (x : Int) (w : World) (hl : l.length ≤ 140737488355328) (hr : 0 < l.length → r ≠ none) (hs : segOK w (bk r, off r, ints l)) : Ret Try.prog 84 [slv r l.length cp, .int .i64 x] w (.bool (hasI l x)) := by
  refine g_enter (args := [slv r l.length cp, .int .i64 x]) Try.func84 rfl Try.ntmps84 rfl (e := [(0, _), (1, _)]) rfl (HS.start w [] [(bk r, off r, ints l)] (segsC hs segsN)) ?_
  refine g_seq ?_
  refine g_region ?_
  refine g_val rfl rfl rfl (fun _ _ => v_assign rfl) ?_
  refine g_nil ?_
  refine g_n_then ?_
  refine g_seq ?_
  refine g_region ?_
  refine g_val rfl rfl rfl (fun _ _ => v_move rfl) ?_
  refine g_val rfl rfl rfl (fun _ _ => v_move rfl) ?_
  refine g_callv rfl rfl rfl rfl rfl rfl rfl (fun a w => Try.call148 a w) (fun w hh => c_Index r l cp _ w hl hr (hh.seg 0 rfl)) ?_
  refine g_val rfl rfl rfl (fun _ _ => v_geq rfl rfl) ?_
  refine g_val rfl rfl rfl (fun _ _ => v_assign rfl) ?_
  refine g_nil ?_
  refine g_n_then ?_
  refine g_ret ?_
  refine g_done rfl (fun w hh => (.tmp rfl .nil)) (fun w hh => ⟨?_, hh.toExt⟩)
  simp only [retv, idxf_nonneg, hasI]

set_option maxRecDepth 100000 in
theorem c_twice (r : Option (Nat × Nat)) (l : List Int) (cp : Nat) (w : World) (hl : l.length ≤ 140737488355328) (hr : 0 < l.length → r ≠ none) (hs : segOK w (bk r, off r, ints l)) : Ret Try.prog 123 [slv r l.length cp] w (.bool (twiceF l)) := by
  refine g_enter (args := [slv r l.length cp]) Try.func123 rfl Try.ntmps123 rfl (e := [(0, _)]) rfl (HS.start w [] [(bk r, off r, ints l)] (segsC hs segsN)) ?_
  refine g_seq ?_
  refine g_region ?_
  refine g_val rfl rfl rfl (fun _ _ => v_assign rfl) ?_
  refine g_nil ?_
  refine g_n_then ?_
  refine g_seq ?_
  refine g_region ?_
  refine g_makeMap rfl (fun bm hbm => ?_)
  refine g_val rfl rfl rfl (fun _ _ => v_assign rfl) ?_
  refine g_nil ?_
  refine g_n_then ?_
  refine g_seq ?_
  refine g_seq ?_
  refine g_region ?_
  refine g_val rfl rfl rfl (fun _ _ => v_move rfl) ?_
  refine g_val rfl rfl rfl (fun w _ => v_lenS (Try.runUnderlying26 w) rfl) ?_
  refine g_val rfl rfl rfl (fun _ _ => v_move rfl) ?_
  refine g_nil ?_
  refine g_n_then ?_
  refine g_block ?_
  refine g_sub (e' := [(9, _), (0, _), (3, _), (7, _), (8, _)]) ((.cons rfl (.cons rfl (.cons rfl (.cons rfl (.cons rfl .nil)))))) ?_
  refine g_loopM (ι := Nat × List (Int × Value)) (fun (k, M) => [(9, .int .i64 (k : Nat))]) (fun (k, M) => [(bm, mobj M)]) (fun (k, M) => k ≤ l.length ∧ CntOK k (seenN l k) M) (fun (k, M) => l.length - k) (0, []) (⟨Nat.zero_le _, rfl, fun p hp => by cases hp⟩) ?_
  intro ⟨k, M⟩ hI0
  simp only at hI0
  refine g_seq ?_
  refine g_region ?_
  refine g_val rfl rfl rfl (fun _ _ => v_lss rfl rfl) ?_
  refine g_nil ?_
  refine g_n_then ?_
  refine g_seq ?_
  refine g_cond rfl (fun h10 => ?_) (fun h10 => ?_)
  · replace h10 := of_decide_eq_true h10
    refine g_skip ?_
    refine g_n_then ?_
    refine g_seq ?_
    refine g_block ?_
    refine g_seq ?_
    refine g_region ?_
    refine g_val rfl rfl rfl (fun w _ => v_indexAddr1 k (Try.runUnderlying26 w) (Try.sizeOf3 w) rfl rfl rfl (by omega) (hr (by omega))) ?_
    refine g_val rfl rfl rfl (fun w hh => v_load (Try.isAgg3 w) rfl (hh.int (j := k) 0 rfl (by omega))) ?_
    refine g_val rfl rfl rfl (fun _ _ => v_assign rfl) ?_
    refine g_nil ?_
    refine g_n_then ?_
    refine g_region ?_
    refine g_val rfl rfl rfl (fun _ _ => v_move rfl) ?_
    refine g_val rfl rfl rfl (fun _ _ => v_move rfl) ?_
    obtain ⟨cn, hcn, hcb⟩ := hI0.2.get (l.getD k 0)
    refine g_val rfl rfl rfl (fun w hh => v_lookupD (Try.runUnderlying189 w) (Try.runUnderlying3 w) (Try.zeroValue3 w) hcn rfl rfl (hh.get 0 rfl)) ?_
    refine g_val rfl rfl rfl (fun _ _ => v_add rfl rfl (wrap_i64 (by omega))) ?_
    refine g_mapUpdate (own' := [_]) 0 (fun w => Try.runUnderlying189 w) (fun w => Try.runUnderlying3 w) rfl rfl rfl rfl rfl ?_
    refine g_nil ?_
    refine g_n_blk ?_
    refine g_n_then ?_
    refine g_region ?_
    refine g_val rfl rfl rfl (fun _ _ => v_add rfl rfl (wrap_i64 (by omega))) ?_
    refine g_val rfl rfl rfl (fun _ _ => v_move rfl) ?_
    refine g_nil ?_
    refine g_n_then ?_
    exact g_againM (i := ⟨k, M⟩) (k + 1, mset M (l.getD k 0) (.int .i64 (cn + 1))) [0] ((.cons rfl (.cons rfl (.cons rfl (.cons rfl (.cons rfl .nil)))))) (by decide) rfl (⟨by omega, by rw [seenN_succ (by omega)]; exact hI0.2.set _ hcb⟩) (by simp only; omega)
  · replace h10 := of_decide_eq_false h10
    have ek : k = l.length := by omega
    subst ek
    refine g_exit ?_
    refine g_x_then ?_
    refine g_x_then ?_
    refine g_x_blk ?_
    refine g_n_then ?_
    refine g_seq ?_
    refine g_region ?_
    refine g_val rfl rfl rfl (fun _ _ => v_move rfl) ?_
    refine g_val rfl rfl rfl (fun w hh => v_lenM (Try.runUnderlying189 w) rfl (hh.get 0 rfl)) ?_
    refine g_val rfl rfl rfl (fun _ _ => v_move rfl) ?_
    refine g_val rfl rfl rfl (fun w _ => v_lenS (Try.runUnderlying26 w) rfl) ?_
    refine g_val rfl rfl rfl (fun _ _ => v_lss rfl rfl) ?_
    refine g_val rfl rfl rfl (fun _ _ => v_assign rfl) ?_
    refine g_nil ?_
    refine g_n_then ?_
    refine g_ret ?_
    refine g_done rfl (fun w hh => (.tmp rfl .nil)) (fun w hh => ⟨?_, hh.toExt⟩)
    simp only [retv, twiceF, hI0.2.len]
    congr 2
    simp

set_option maxRecDepth 100000 in
theorem c_Way1 (L : LS) (bd : Nat) (g : List Int) (k : Nat) (q most : Int) (b6 b8 : Nat) (w : World) (hL : L.OK w) (hG : Good L.S) (hgl : g.length = 8) (hd : segOK w (bd, 0, L.cells ++ ints g)) (hk : k < L.S.sills.length) (hq : 0 ≤ q ∧ q < L.S.floors.length) (h6 : segOK w (b6, 0, [ptr bd 0])) (h8 : segOK w (b8, 0, [.int .i64 most])) : Ret Try.prog 144 [.int .i64 (k : Nat), .int .i64 q, ptr b6 0, ptr b8 0] w (.bool (mayLe L.S most (k : Nat) q)) := by
  have hlt := hL.tl
  have hlf := hL.fl
  have hls := hL.sl
  have hfl8 := hG.fl
  have htl12 := hG.tl
  refine g_enter (args := [.int .i64 (k : Nat), .int .i64 q, ptr b6 0, ptr b8 0]) Try.func144 rfl Try.ntmps144 rfl (e := [(0, _), (1, _), (2, _), (3, _)]) rfl (HS.start w [] ((b6, 0, [ptr bd 0]) :: (b8, 0, [.int .i64 most]) :: (bd, 0, L.cells ++ ints g) :: L.segs) (segsC h6 (segsC h8 (segsC hd hL.segs)))) ?_
  refine g_seq ?_
  refine g_region ?_
  refine g_val rfl rfl rfl (fun _ _ => v_assign rfl) ?_
  refine g_nil ?_
  refine g_n_then ?_
  refine g_seq ?_
  refine g_draw none (.hoist 0 (.free 1 (.free 2 (.free 3 (.hoist 4 (.free 5 (.hoist 6 (.free 7 (.hoist 8 (.hoist 9 (.free 10 (.free 11 (.free 12 (.hoist 13 (.free 14 (.hoist 15 (.hoist 16 (.hoist 19 (.one 17 (.one 18 (.free 20 (.free 21 .done)))))))))))))))))))))) _ rfl (by decide +kernel) (fun w k hh => hh.draw k) (fun w hh => hh) ?_
  refine p_hoist rfl rfl rfl rfl (fun w hh => v_load (Try.isAgg139 w) rfl (hh.rcell 0 0 rfl rfl)) ?_
  refine p_free rfl rfl rfl rfl (fun _ _ => v_nilCheck rfl) ?_
  refine p_free rfl rfl rfl rfl (fun w _ => v_fieldAddr 0 (Try.runUnderlying157 w) rfl (Try.sizeOf29 w) rfl) ?_
  refine p_free rfl rfl rfl rfl (fun w _ => v_fieldAddr 4 (Try.runUnderlying29 w) rfl (Try.sizeOf27 w) rfl) ?_
  refine p_hoist rfl rfl rfl rfl (fun w hh => v_load (Try.isAgg27 w) rfl (hh.rcell 2 4 rfl rfl)) ?_
  refine p_free rfl rfl rfl rfl (fun _ _ => v_move rfl) ?_
  refine p_hoist rfl rfl rfl rfl (fun w _ => v_indexAddr k (Try.runUnderlying27 w) (Try.sizeOf51 w) rfl rfl rfl (by omega) (hL.s0 (by omega))) ?_
  refine p_free rfl rfl rfl rfl (fun w _ => v_fieldAddr 2 (Try.runUnderlying51 w) rfl (Try.sizeOf3 w) rfl) ?_
  refine p_hoist rfl rfl rfl rfl (fun w hh => v_load (Try.isAgg3 w) rfl (hh.fld (j := k) encS_len 5 2 rfl (by omega) rfl rfl)) ?_
  refine p_hoist rfl rfl rfl rfl (fun w hh => v_load (Try.isAgg139 w) rfl (hh.rcell 0 0 rfl rfl)) ?_
  refine p_free rfl rfl rfl rfl (fun _ _ => v_nilCheck rfl) ?_
  refine p_free rfl rfl rfl rfl (fun w _ => v_fieldAddr 0 (Try.runUnderlying157 w) rfl (Try.sizeOf29 w) rfl) ?_
  refine p_free rfl rfl rfl rfl (fun w _ => v_fieldAddr 3 (Try.runUnderlying29 w) rfl (Try.sizeOf26 w) rfl) ?_
  refine p_hoist rfl rfl rfl rfl (fun w hh => v_load (Try.isAgg26 w) rfl (hh.rcell 2 3 rfl rfl)) ?_
  refine p_free rfl rfl rfl rfl (fun _ _ => v_move rfl) ?_
  refine p_hoist rfl rfl rfl rfl (fun w _ => v_idxI1 (Try.runUnderlying26 w) (Try.sizeOf3 w) rfl rfl (by omega) (by omega) (hL.f0 (by omega))) ?_
  refine p_hoist rfl rfl rfl rfl (fun w hh => v_load (Try.isAgg3 w) rfl (hh.int 4 rfl (by omega))) ?_
  refine p_hoist rfl rfl rfl rfl (fun w hh => v_load (Try.isAgg3 w) rfl (hh.rcell 1 0 rfl rfl)) ?_
  refine p_one rfl ?_
  refine g_buildSlice (vs := [(0, _)]) (cells := [_]) (fun w => Try.runUnderlying26 w) (fun w => Try.sizeOf3 w) (fun w => Try.zeroValue3 w) rfl rfl rfl rfl rfl (fun b1 hb1 => ?_)
  refine p_next (fun w hh => hh.dropN 1 rfl) ?_
  refine p_one rfl ?_
  refine g_callv rfl rfl rfl rfl rfl rfl rfl (fun a w => Try.call134 a w) (fun w hh => c_highest _ [_] (some (_, 0)) 1 w (by simp) (by simp) (hh.ownSeg 0 rfl)) ?_
  refine p_next (fun w hh => hh.dropN 1 rfl) ?_
  refine p_free rfl rfl rfl rfl (fun _ _ => v_leq rfl rfl) ?_
  refine p_free rfl rfl rfl rfl (fun _ _ => v_assign rfl) ?_
  refine p_done ?_
  refine g_n_then ?_
  refine g_ret ?_
  refine g_done rfl (fun w hh => (.tmp rfl .nil)) (fun w hh => ⟨?_, hh.toExt⟩)
  rfl

set_option maxRecDepth 100000 in
theorem c_Way (p : Int) (L : LS) (w : World) (hL : L.OK w) : Calls Try.prog 81 #[L.val, .int .i64 p] w (fun en w' => ∃ q cap, en = .returned (.tuple #[slv q (WayR L.S p).1.length cap, .int .i64 (WayR L.S p).2]) ∧ SlOK q (WayR L.S p).1.length cap ∧ News w w' [(bk q, off q, ints (WayR L.S p).1)]) := by
  have hlt := hL.tl
  have hlf := hL.fl
  have hls := hL.sl
  refine g_enter (args := [L.val, .int .i64 p]) Try.func81 rfl Try.ntmps81 rfl (e := [(0, _), (1, _)]) rfl (HS.start w [] L.segs hL.segs) ?_
  refine g_seq ?_
  refine g_region ?_
  refine g_box rfl rfl (fun b1 hb1 => ?_)
  refine g_val rfl rfl rfl (fun _ _ => v_nilSlice rfl rfl) ?_
  refine g_val rfl rfl rfl (fun _ _ => v_assign rfl) ?_
  refine g_nil ?_
  refine g_n_then ?_
  refine g_seq ?_
  refine g_region ?_
  refine g_val rfl rfl rfl (fun w hh => v_loadAgg (vs := [_, _, _, _, _]) (Try.isAgg29 w) (Try.sizeOf29 w) rfl (hh.cells 0 rfl rfl)) ?_
  refine g_val rfl rfl rfl (fun _ _ => v_move rfl) ?_
  by_cases hg : gatedE L.S p = 0
  · have hc := (gatedE_zero hg).1
    have hpl := isPlace_iff.1 (gatedE_zero hg).2.1
    have hG := good_of_check hc
    have hfl8 := hG.fl
    have htl12 := hG.tl
    have hsl16 := hG.sl
    refine g_callR (ι := Nat) (p := fun _ => True) (S := fun bd => [(bd, 0, L.cells ++ ints (gatesOf L.S))]) (ret := fun bd => .tuple #[ptr bd 0, .int .i64 0]) rfl rfl rfl rfl rfl rfl rfl (fun a w => Try.call106 a w) (fun w hh => c_gatedR p L w (hL.ext hh.toExt) hg) (fun bd _ => ?_)
    refine g_val rfl rfl rfl (fun _ _ => v_move rfl) ?_
    refine g_val rfl rfl rfl (fun _ _ => v_extract rfl rfl) ?_
    refine g_val rfl rfl rfl (fun _ _ => v_extract rfl rfl) ?_
    refine g_alloc (fun w => Try.zeroValue139 w) rfl (fun b2 hb2 => ?_)
    refine g_store1 (own' := (_ :: _)) 0 (fun w => Try.sizeOf139 w) rfl rfl rfl rfl rfl ?_
    refine g_val rfl rfl rfl (fun _ _ => v_assign rfl) ?_
    refine g_nil ?_
    refine g_n_then ?_
    refine g_seq ?_
    refine g_seq ?_
    refine g_region ?_
    refine g_val rfl rfl rfl (fun _ _ => v_move rfl) ?_
    refine g_val rfl rfl rfl (fun _ _ => v_neq rfl rfl) ?_
    refine g_nil ?_
    refine g_n_then ?_
    refine g_condF rfl rfl ?_
    refine g_skip ?_
    refine g_n_then ?_
    refine g_seq ?_
    refine g_region ?_
    refine g_val rfl rfl rfl (fun w hh => v_load (Try.isAgg139 w) rfl (hh.cell 0 rfl rfl)) ?_
    refine g_val rfl rfl rfl (fun _ _ => v_move rfl) ?_
    refine g_val rfl rfl rfl (fun _ _ => v_nilCheck rfl) ?_
    refine g_val rfl rfl rfl (fun w _ => v_fieldAddr 5 (Try.runUnderlying157 w) rfl (Try.sizeOf155 w) rfl) ?_
    refine g_val rfl rfl rfl (fun w _ => v_arrI1 (Try.runUnderlying155 w) (Try.sizeOf3 w) rfl rfl (by omega) (by omega)) ?_
    refine g_val rfl rfl rfl (fun w hh => v_load (Try.isAgg3 w) rfl (hh.rgate 0 rfl (by rw [gates_length]; omega))) ?_
    refine g_alloc (fun w => Try.zeroValue3 w) rfl (fun b3 hb3 => ?_)
    refine g_store1 (own' := (_ :: _)) 0 (fun w => Try.sizeOf3 w) rfl rfl rfl rfl rfl ?_
    refine g_nil ?_
    refine g_n_then ?_
    refine g_seq ?_
    refine g_region ?_
    refine g_val rfl rfl rfl (fun w hh => v_load (Try.isAgg139 w) rfl (hh.cell 1 rfl rfl)) ?_
    refine g_val rfl rfl rfl (fun _ _ => v_makeFunc (u := #[]) (u' := #[_, _]) rfl rfl) ?_
    refine g_callW (ι := Nat × List WV) (p := fun i => wproj i.2 = waysF L.S (mayLe L.S ((gatesOf L.S).getD p.toNat 0)) ∧ ∀ e, e ∈ i.2 → e.ok) (A := fun i => (i.1, mobj (mlist i.2))) (T := fun i => wown i.2) (ret := fun i => .map (some i.1)) rfl rfl rfl rfl rfl rfl rfl (fun a w => Try.call124 a w) (fun w hh => (c_ways L bd (gatesOf L.S) 144 #[] #[ptr b2 0, ptr b3 0] (mayLe L.S ((gatesOf L.S).getD p.toNat 0)) w (hL.ext hh.toExt) hG (hh.seg 0 rfl) (fun a w => Try.call144 a w) (fun w2 hx k q hk hq => c_Way1 L bd (gatesOf L.S) k q ((gatesOf L.S).getD p.toNat 0) b2 b3 w2 ((hL.ext hh.toExt).ext hx) hG gates_length ((hh.seg 0 rfl).ext hx (by simp)) hk hq ((hh.ownSeg 1 rfl).ext hx (by simp)) ((hh.ownSeg 0 rfl).ext hx (by simp)))).mono (by rintro en w' ⟨bm, W, rfl, h1, h2, h3⟩; exact ⟨(bm, W), rfl, ⟨h1, h2⟩, h3⟩)) ?_
    rintro ⟨bm, W⟩ ⟨hWp, hWo⟩
    refine g_val rfl rfl rfl (fun _ _ => v_move rfl) ?_
    rcases wayOf_cons (W := W) (k := p) with ⟨e, he, hek, hme, hwe⟩ | ⟨hme, hwe⟩
    · refine g_val rfl rfl rfl (fun w hh => v_lookupS (Try.runUnderlying170 w) (Try.runUnderlying3 w) (Try.zeroValue26 w) hme rfl rfl (hh.get 0 rfl)) ?_
      refine g_val rfl rfl rfl (fun _ _ => v_assign rfl) ?_
      refine g_val rfl rfl rfl (fun _ _ => v_assign rfl) ?_
      refine g_nil ?_
      refine g_n_then ?_
      refine g_ret ?_
      refine g_done rfl (fun w hh => (.tmp rfl (.tmp rfl .nil))) (fun w hh => ?_)
      have ea : WayR L.S p = (e.way, 0) := by rw [WayR, if_neg (by simp [hg]), ← hWp, hwe]
      rw [ea]
      exact ⟨e.q, e.cap, rfl, (hWo e he).sl, way_news (own := [_, _, _, _]) hh he (hWo e he)⟩
    · refine g_val rfl rfl rfl (fun w hh => v_lookupD (v := slv none 0 0) (Try.runUnderlying170 w) (Try.runUnderlying3 w) (Try.zeroValue26 w) (by rw [hme]; rfl) rfl rfl (hh.get 0 rfl)) ?_
      refine g_val rfl rfl rfl (fun _ _ => v_assign rfl) ?_
      refine g_val rfl rfl rfl (fun _ _ => v_assign rfl) ?_
      refine g_nil ?_
      refine g_n_then ?_
      refine g_ret ?_
      refine g_done rfl (fun w hh => (.tmp rfl (.tmp rfl .nil))) (fun w hh => ?_)
      have ea : WayR L.S p = ([], 0) := by rw [WayR, if_neg (by simp [hg]), ← hWp, hwe]
      rw [ea]
      exact ⟨none, 0, rfl, .nil, (News.nil hh.toExt).cons segOK.nil (fun h => absurd rfl h)⟩
  · refine g_callv rfl rfl rfl rfl rfl rfl rfl (fun a w => Try.call106 a w) (fun w hh => c_gatedE p L w (hL.ext hh.toExt) hg) ?_
    refine g_val rfl rfl rfl (fun _ _ => v_move rfl) ?_
    refine g_val rfl rfl rfl (fun _ _ => v_extract rfl rfl) ?_
    refine g_val rfl rfl rfl (fun _ _ => v_extract rfl rfl) ?_
    refine g_alloc (fun w => Try.zeroValue139 w) rfl (fun b4 hb4 => ?_)
    refine g_store1 (own' := (_ :: _)) 0 (fun w => Try.sizeOf139 w) rfl rfl rfl rfl rfl ?_
    refine g_val rfl rfl rfl (fun _ _ => v_assign rfl) ?_
    refine g_nil ?_
    refine g_n_then ?_
    refine g_seq ?_
    refine g_seq ?_
    refine g_region ?_
    refine g_val rfl rfl rfl (fun _ _ => v_move rfl) ?_
    refine g_val rfl rfl rfl (fun _ _ => v_neq rfl rfl) ?_
    refine g_nil ?_
    refine g_n_then ?_
    refine g_condT rfl (neP hg) ?_
    refine g_seq ?_
    refine g_region ?_
    refine g_val rfl rfl rfl (fun _ _ => v_move rfl) ?_
    refine g_val rfl rfl rfl (fun _ _ => v_nilSlice rfl rfl) ?_
    refine g_val rfl rfl rfl (fun _ _ => v_assign rfl) ?_
    refine g_nil ?_
    refine g_n_then ?_
    refine g_ret ?_
    refine g_r_then ?_
    refine g_done rfl (fun w hh => (.tmp rfl (.tmp rfl .nil))) (fun w hh => ?_)
    have ea : WayR L.S p = ([], gatedE L.S p) := by rw [WayR, if_pos hg]
    rw [ea]
    exact ⟨none, 0, rfl, .nil, (News.nil hh.toExt).cons segOK.nil (fun h => absurd rfl h)⟩

end Go.Proofs

namespace Go.Proofs
open Go Go.Fw Go.Pl
set_option maxRecDepth 100000 in
theorem c_Hold1 (i : Int) (bx : Nat) (L : LS) (w : World) (hL : L.OK w) (hb : segOK w (bx, 0, L.cells)) : Ret Try.prog 122 [.int .i64 i, ptr bx 0] w (.bool (isSill L.S i)) := by
  have hlt := hL.tl
  have hlf := hL.fl
  have hls := hL.sl
  refine g_enter (args := [.int .i64 i, ptr bx 0]) Try.func122 rfl Try.ntmps122 rfl (e := [(0, _), (1, _)]) rfl (HS.start w [] ((bx, 0, L.cells) :: L.segs) (segsC hb hL.segs)) ?_
  refine g_seq ?_
  refine g_region ?_
  refine g_val rfl rfl rfl (fun _ _ => v_assign rfl) ?_
  refine g_nil ?_
  refine g_n_then ?_
  refine g_seq ?_
  refine g_region ?_
  refine g_val rfl rfl rfl (fun _ _ => v_move rfl) ?_
  refine g_val rfl rfl rfl (fun w _ => v_fieldAddr 4 (Try.runUnderlying29 w) rfl (Try.sizeOf27 w) rfl) ?_
  refine g_val rfl rfl rfl (fun w hh => v_load (Try.isAgg27 w) rfl (hh.rcell 0 4 rfl rfl)) ?_
  refine g_val rfl rfl rfl (fun w _ => v_lenS (Try.runUnderlying27 w) rfl) ?_
  refine g_val rfl rfl rfl (fun _ _ => v_sub rfl rfl (wrap_i64 (by omega))) ?_
  refine g_callv rfl rfl rfl rfl rfl rfl rfl (fun a w => Try.call90 a w) (fun w hh => c_in _ _ _ w) ?_
  refine g_val rfl rfl rfl (fun _ _ => v_assign rfl) ?_
  refine g_nil ?_
  refine g_n_then ?_
  refine g_ret ?_
  refine g_done rfl (fun w hh => (.tmp rfl .nil)) (fun w hh => ⟨?_, hh.toExt⟩)
  rfl

set_option maxRecDepth 100000 in
theorem c_Hold2 (r1 r2 : Option (Nat × Nat)) (sl pl : List Int) (c1 c2 : Nat) (k q : Int) (b6 b7 : Nat) (w : World) (hl1 : sl.length ≤ 1000000) (hl2 : pl.length ≤ 1000000) (hr1 : 0 < sl.length → r1 ≠ none) (hr2 : 0 < pl.length → r2 ≠ none) (hs1 : segOK w (bk r1, off r1, ints sl)) (hs2 : segOK w (bk r2, off r2, ints pl)) (h6 : segOK w (b6, 0, [slv r1 sl.length c1])) (h7 : segOK w (b7, 0, [slv r2 pl.length c2])) : Ret Try.prog 125 [.int .i64 k, .int .i64 q, ptr b6 0, ptr b7 0] w (.bool (mayFree sl pl k q)) := by
  refine g_enter (args := [.int .i64 k, .int .i64 q, ptr b6 0, ptr b7 0]) Try.func125 rfl Try.ntmps125 rfl (e := [(0, _), (1, _), (2, _), (3, _)]) rfl (HS.start w [] ((b6, 0, [slv r1 sl.length c1]) :: (b7, 0, [slv r2 pl.length c2]) :: (bk r1, off r1, ints sl) :: (bk r2, off r2, ints pl) :: []) (segsC h6 (segsC h7 (segsC hs1 (segsC hs2 segsN))))) ?_
  refine g_seq ?_
  refine g_region ?_
  refine g_val rfl rfl rfl (fun _ _ => v_assign rfl) ?_
  refine g_nil ?_
  refine g_n_then ?_
  refine g_seq ?_
  refine g_region ?_
  refine g_val rfl rfl rfl (fun w hh => v_load (Try.isAgg26 w) rfl (hh.rcell 0 0 rfl rfl)) ?_
  refine g_val rfl rfl rfl (fun _ _ => v_move rfl) ?_
  refine g_callv rfl rfl rfl rfl rfl rfl rfl (fun a w => Try.call84 a w) (fun w hh => c_Contains r1 sl c1 _ w (by omega) hr1 (hh.seg 2 rfl)) ?_
  refine g_val rfl rfl rfl (fun _ _ => v_not rfl) ?_
  refine g_val rfl rfl rfl (fun _ _ => v_move rfl) ?_
  refine g_case 11 rfl (fun hg11_1 => ?_) (fun hg11_1 => ?_)
  · replace hg11_1 := of_not_true hg11_1
    refine g_valG rfl rfl rfl rfl rfl (fun w hh => v_load (Try.isAgg26 w) rfl (hh.rcell 1 0 rfl rfl)) ?_
    refine g_valG rfl rfl rfl rfl rfl (fun _ _ => v_move rfl) ?_
    refine g_callvG rfl rfl rfl rfl rfl rfl rfl rfl rfl (fun a w => Try.call84 a w) (fun w hh => c_Contains r2 pl c2 _ w (by omega) hr2 (hh.seg 3 rfl)) ?_
    refine g_valG rfl rfl rfl rfl rfl (fun _ _ => v_not rfl) ?_
    refine g_val rfl rfl rfl (fun _ _ => v_pickT rfl rfl) ?_
    refine g_val rfl rfl rfl (fun _ _ => v_assign rfl) ?_
    refine g_nil ?_
    refine g_n_then ?_
    refine g_ret ?_
    refine g_done rfl (fun w hh => (.tmp rfl .nil)) (fun w hh => ⟨?_, hh.toExt⟩)
    simp only [retv, mayFree, *]
    rfl
  · replace hg11_1 := of_not_false hg11_1
    refine g_skipG rfl rfl rfl rfl rfl rfl ?_
    refine g_skipG rfl rfl rfl rfl rfl rfl ?_
    refine g_skipG rfl rfl rfl rfl rfl rfl ?_
    refine g_skipG rfl rfl rfl rfl rfl rfl ?_
    refine g_val rfl rfl rfl (fun _ _ => v_pickF rfl rfl) ?_
    refine g_val rfl rfl rfl (fun _ _ => v_assign rfl) ?_
    refine g_nil ?_
    refine g_n_then ?_
    refine g_ret ?_
    refine g_done rfl (fun w hh => (.tmp rfl .nil)) (fun w hh => ⟨?_, hh.toExt⟩)
    simp only [retv, mayFree, *]
    rfl

set_option maxRecDepth 100000 in
theorem c_Hold (p : Int) (r1 r2 : Option (Nat × Nat)) (sl pl : List Int) (c1 c2 : Nat) (L : LS) (w : World) (hL : L.OK w) (hl1 : sl.length ≤ 1000000) (hl2 : pl.length ≤ 1000000) (hr1 : 0 < sl.length → r1 ≠ none) (hr2 : 0 < pl.length → r2 ≠ none) (hs1 : segOK w (bk r1, off r1, ints sl)) (hs2 : segOK w (bk r2, off r2, ints pl)) : Ret Try.prog 51 [L.val, .int .i64 p, slv r1 sl.length c1, slv r2 pl.length c2] w (.tuple #[.int .i64 (HoldR L.S p sl pl).1, .int .i64 (HoldR L.S p sl pl).2]) := by
  have hlt := hL.tl
  have hlf := hL.fl
  have hls := hL.sl
  refine g_enter (args := [L.val, .int .i64 p, slv r1 sl.length c1, slv r2 pl.length c2]) Try.func51 rfl Try.ntmps51 rfl (e := [(0, _), (1, _), (2, _), (3, _)]) rfl (HS.start w [] ((bk r1, off r1, ints sl) :: (bk r2, off r2, ints pl) :: L.segs) (segsC hs1 (segsC hs2 hL.segs))) ?_
  refine g_seq ?_
  refine g_region ?_
  refine g_box rfl rfl (fun b1 hb1 => ?_)
  refine g_box rfl rfl (fun b2 hb2 => ?_)
  refine g_box rfl rfl (fun b3 hb3 => ?_)
  refine g_val rfl rfl rfl (fun _ _ => v_assign rfl) ?_
  refine g_val rfl rfl rfl (fun _ _ => v_assign rfl) ?_
  refine g_nil ?_
  refine g_n_then ?_
  refine g_seq ?_
  refine g_region ?_
  refine g_val rfl rfl rfl (fun w hh => v_loadAgg (vs := [_, _, _, _, _]) (Try.isAgg29 w) (Try.sizeOf29 w) rfl (hh.cells 2 rfl rfl)) ?_
  by_cases hc : check L.S = 0
  · have hG := good_of_check hc
    have hfl8 := hG.fl
    have htl12 := hG.tl
    have hsl16 := hG.sl
    refine g_callR (ι := Nat) (p := fun _ => True) (S := fun bd => [(bd, 0, L.cells ++ ints (gatesOf L.S))]) (ret := fun bd => .tuple #[ptr bd 0, .int .i64 0]) rfl rfl rfl rfl rfl rfl rfl (fun a w => Try.call102 a w) (fun w hh => c_openedR L w (hL.ext hh.toExt) hc) (fun bd _ => ?_)
    refine g_val rfl rfl rfl (fun _ _ => v_move rfl) ?_
    refine g_val rfl rfl rfl (fun _ _ => v_extract rfl rfl) ?_
    refine g_val rfl rfl rfl (fun _ _ => v_extract rfl rfl) ?_
    refine g_val rfl rfl rfl (fun _ _ => v_assign rfl) ?_
    refine g_val rfl rfl rfl (fun _ _ => v_assign rfl) ?_
    refine g_nil ?_
    refine g_n_then ?_
    refine g_seq ?_
    refine g_block ?_
    refine g_seq ?_
    refine g_region ?_
    refine g_val rfl rfl rfl (fun _ _ => v_move rfl) ?_
    refine g_val rfl rfl rfl (fun _ _ => v_neq rfl rfl) ?_
    refine g_val rfl rfl rfl (fun _ _ => v_assign rfl) ?_
    refine g_nil ?_
    refine g_n_then ?_
    refine g_condF rfl rfl ?_
    refine g_seq ?_
    refine g_draw none (.free 0 (.free 1 (.free 2 (.hoist 3 (.free 4 (.one 5 (.free 6 (.free 7 (.hoist 8 (.free 9 (.one 10 (.free 11 (.free 12 (.free 13 (.hoist 14 (.free 15 (.free 16 (.free 17 (.hoist 18 (.free 19 (.one 20 (.free 21 (.free 22 (.free 23 .done)))))))))))))))))))))))) _ rfl (by decide +kernel) (fun w k hh => hh.draw k) (fun w hh => hh) ?_
    refine p_free rfl rfl rfl rfl (fun _ _ => v_move rfl) ?_
    refine p_free rfl rfl rfl rfl (fun _ _ => v_nilCheck rfl) ?_
    refine p_free rfl rfl rfl rfl (fun w _ => v_fieldAddr 0 (Try.runUnderlying157 w) rfl (Try.sizeOf29 w) rfl) ?_
    refine p_hoist rfl rfl rfl rfl (fun w hh => v_loadAgg (vs := [_, _, _, _, _]) (Try.isAgg29 w) (Try.sizeOf29 w) rfl (hh.rcells 0 0 rfl rfl)) ?_
    refine p_free rfl rfl rfl rfl (fun _ _ => v_move rfl) ?_
    refine p_one rfl ?_
    refine g_callv rfl rfl rfl rfl rfl rfl rfl (fun a w => Try.call89 a w) (fun w hh => c_place _ L w (hL.ext hh.toExt)) ?_
    refine p_next (fun w hh => hh) ?_
    refine p_free rfl rfl rfl rfl (fun _ _ => v_not rfl) ?_
    refine p_free rfl rfl rfl rfl (fun _ _ => v_move rfl) ?_
    refine g_case 37 rfl (fun hg37_1 => ?_) (fun hg37_1 => ?_)
    · replace hg37_1 := of_not_true hg37_1
      have hg37_1 := hg37_1
      refine p_skip rfl rfl rfl rfl rfl rfl rfl ?_
      refine p_skipF rfl rfl rfl rfl rfl rfl rfl ?_
      refine p_one rfl ?_
      refine g_skipG rfl rfl rfl rfl rfl rfl ?_
      refine p_next (fun w hh => hh) ?_
      refine p_skipF rfl rfl rfl rfl rfl rfl rfl ?_
      refine p_free rfl rfl rfl rfl (fun _ _ => v_pickT rfl rfl) ?_
      refine p_free rfl rfl rfl rfl (fun _ _ => v_move rfl) ?_
      refine p_skip rfl rfl rfl rfl rfl rfl rfl ?_
      refine p_skipF rfl rfl rfl rfl rfl rfl rfl ?_
      refine p_skipF rfl rfl rfl rfl rfl rfl rfl ?_
      refine p_skipF rfl rfl rfl rfl rfl rfl rfl ?_
      refine p_skip rfl rfl rfl rfl rfl rfl rfl ?_
      refine p_skipF rfl rfl rfl rfl rfl rfl rfl ?_
      refine p_one rfl ?_
      refine g_skipG rfl rfl rfl rfl rfl rfl ?_
      refine p_next (fun w hh => hh) ?_
      refine p_skipF rfl rfl rfl rfl rfl rfl rfl ?_
      refine p_free rfl rfl rfl rfl (fun _ _ => v_pickT rfl rfl) ?_
      refine p_free rfl rfl rfl rfl (fun _ _ => v_assign rfl) ?_
      refine p_done ?_
      refine g_n_then ?_
      refine g_condT rfl rfl ?_
      refine g_seq ?_
      refine g_region ?_
      refine g_val rfl rfl rfl (fun _ _ => v_assign rfl) ?_
      refine g_val rfl rfl rfl (fun _ _ => v_assign rfl) ?_
      refine g_nil ?_
      refine g_n_then ?_
      refine g_ret ?_
      refine g_r_blk ?_
      refine g_r_then ?_
      refine g_done rfl (fun w hh => (.tmp rfl (.tmp rfl .nil))) (fun w hh => ⟨?_, hh.toExt⟩)
      have eE : holdE L.S p sl pl = 1 := by simp only [holdE, *, ne_eq, not_true_eq_false, not_false_eq_true, if_false, if_true, Bool.true_eq_false, Bool.false_eq_true, or_self, or_true, true_or]
      rw [HoldR, if_pos (by rw [eE]; decide), eE]
      rfl
    · replace hg37_1 := of_not_false hg37_1
      have hpl := isPlace_iff.1 hg37_1
      refine p_hoistG rfl rfl rfl rfl rfl rfl (fun w hh => v_load (Try.isAgg26 w) rfl (hh.cell 1 rfl rfl)) ?_
      refine p_freeG rfl rfl rfl rfl rfl rfl (fun _ _ => v_makeFunc (u := #[]) (u' := #[_]) rfl rfl) ?_
      refine p_one rfl ?_
      refine g_callvG rfl rfl rfl rfl rfl rfl rfl rfl rfl (fun a w => Try.call94 a w) (fun w hh => c_every_int 122 #[] #[ptr b1 0] (isSill L.S) sl r1 c1 w (by omega) hr1 (hh.seg 1 rfl) (fun a w => Try.call122 a w) (fun w2 hx j hj => c_Hold1 _ b1 L w2 ((hL.ext hh.toExt).ext hx) ((hh.ownSeg 2 rfl).ext hx (by simp)))) ?_
      refine p_next (fun w hh => hh) ?_
      refine p_freeG rfl rfl rfl rfl rfl rfl (fun _ _ => v_not rfl) ?_
      refine p_free rfl rfl rfl rfl (fun _ _ => v_pickF rfl rfl) ?_
      refine p_free rfl rfl rfl rfl (fun _ _ => v_move rfl) ?_
      refine g_case 43 rfl (fun hev1 => ?_) (fun hev1 => ?_)
      · replace hev1 := of_not_true hev1
        refine p_skip rfl rfl rfl rfl rfl rfl rfl ?_
        refine p_skipF rfl rfl rfl rfl rfl rfl rfl ?_
        refine p_skipF rfl rfl rfl rfl rfl rfl rfl ?_
        refine p_skipF rfl rfl rfl rfl rfl rfl rfl ?_
        refine p_skip rfl rfl rfl rfl rfl rfl rfl ?_
        refine p_skipF rfl rfl rfl rfl rfl rfl rfl ?_
        refine p_one rfl ?_
        refine g_skipG rfl rfl rfl rfl rfl rfl ?_
        refine p_next (fun w hh => hh) ?_
        refine p_skipF rfl rfl rfl rfl rfl rfl rfl ?_
        refine p_free rfl rfl rfl rfl (fun _ _ => v_pickT rfl rfl) ?_
        refine p_free rfl rfl rfl rfl (fun _ _ => v_assign rfl) ?_
        refine p_done ?_
        refine g_n_then ?_
        refine g_condT rfl rfl ?_
        refine g_seq ?_
        refine g_region ?_
        refine g_val rfl rfl rfl (fun _ _ => v_assign rfl) ?_
        refine g_val rfl rfl rfl (fun _ _ => v_assign rfl) ?_
        refine g_nil ?_
        refine g_n_then ?_
        refine g_ret ?_
        refine g_r_blk ?_
        refine g_r_then ?_
        refine g_done rfl (fun w hh => (.tmp rfl (.tmp rfl .nil))) (fun w hh => ⟨?_, hh.toExt⟩)
        have eE : holdE L.S p sl pl = 1 := by simp only [holdE, *, ne_eq, not_true_eq_false, not_false_eq_true, if_false, if_true, Bool.true_eq_false, Bool.false_eq_true, or_self, or_true, true_or]
        rw [HoldR, if_pos (by rw [eE]; decide), eE]
        rfl
      · replace hev1 := of_not_false hev1
        refine p_hoistG rfl rfl rfl rfl rfl rfl (fun w hh => v_load (Try.isAgg26 w) rfl (hh.cell 0 rfl rfl)) ?_
        refine p_freeG rfl rfl rfl rfl rfl rfl (fun _ _ => v_move rfl) ?_
        refine p_freeG rfl rfl rfl rfl rfl rfl (fun _ _ => v_nilCheck rfl) ?_
        refine p_freeG rfl rfl rfl rfl rfl rfl (fun w _ => v_fieldAddr 0 (Try.runUnderlying157 w) rfl (Try.sizeOf29 w) rfl) ?_
        refine p_hoistG rfl rfl rfl rfl rfl rfl (fun w hh => v_loadAgg (vs := [_, _, _, _, _]) (Try.isAgg29 w) (Try.sizeOf29 w) rfl (hh.rcells 0 0 rfl rfl)) ?_
        refine p_freeG rfl rfl rfl rfl rfl rfl (fun _ _ => v_makeFunc (u := #[_]) (u' := #[]) rfl rfl) ?_
        refine p_one rfl ?_
        refine g_callvG rfl rfl rfl rfl rfl rfl rfl rfl rfl (fun a w => Try.call94 a w) (fun w hh => c_every_int 89 #[L.val] #[] (isPlace L.S) pl r2 c2 w (by omega) hr2 (hh.seg 2 rfl) (fun a w => Try.call89 a w) (fun w2 hx j hj => c_place _ L w2 ((hL.ext hh.toExt).ext hx))) ?_
        refine p_next (fun w hh => hh) ?_
        refine p_freeG rfl rfl rfl rfl rfl rfl (fun _ _ => v_not rfl) ?_
        refine p_free rfl rfl rfl rfl (fun _ _ => v_pickF rfl rfl) ?_
        refine p_free rfl rfl rfl rfl (fun _ _ => v_assign rfl) ?_
        refine p_done ?_
        refine g_n_then ?_
        refine g_cond rfl (fun hev2 => ?_) (fun hev2 => ?_)
        · replace hev2 := of_not_true hev2
          refine g_seq ?_
          refine g_region ?_
          refine g_val rfl rfl rfl (fun _ _ => v_assign rfl) ?_
          refine g_val rfl rfl rfl (fun _ _ => v_assign rfl) ?_
          refine g_nil ?_
          refine g_n_then ?_
          refine g_ret ?_
          refine g_r_blk ?_
          refine g_r_then ?_
          refine g_done rfl (fun w hh => (.tmp rfl (.tmp rfl .nil))) (fun w hh => ⟨?_, hh.toExt⟩)
          have eE : holdE L.S p sl pl = 1 := by simp only [holdE, *, ne_eq, not_true_eq_false, not_false_eq_true, if_false, if_true, Bool.true_eq_false, Bool.false_eq_true, or_self, or_true, true_or]
          rw [HoldR, if_pos (by rw [eE]; decide), eE]
          rfl
        · replace hev2 := of_not_false hev2
          refine g_seq ?_
          refine g_region ?_
          refine g_val rfl rfl rfl (fun w hh => v_load (Try.isAgg26 w) rfl (hh.cell 1 rfl rfl)) ?_
          refine g_callv rfl rfl rfl rfl rfl rfl rfl (fun a w => Try.call123 a w) (fun w hh => c_twice r1 sl c1 w (by omega) hr1 (hh.seg 1 rfl)) ?_
          refine g_val rfl rfl rfl (fun _ _ => v_move rfl) ?_
          refine g_case 56 rfl (fun hg56_4 => ?_) (fun hg56_4 => ?_)
          · have hg56_4 := hg56_4
            refine g_skipG rfl rfl rfl rfl rfl rfl ?_
            refine g_skipG rfl rfl rfl rfl rfl rfl ?_
            refine g_val rfl rfl rfl (fun _ _ => v_pickT rfl rfl) ?_
            refine g_val rfl rfl rfl (fun _ _ => v_assign rfl) ?_
            refine g_nil ?_
            refine g_n_then ?_
            refine g_condT rfl rfl ?_
            refine g_seq ?_
            refine g_region ?_
            refine g_val rfl rfl rfl (fun _ _ => v_assign rfl) ?_
            refine g_val rfl rfl rfl (fun _ _ => v_assign rfl) ?_
            refine g_nil ?_
            refine g_n_then ?_
            refine g_ret ?_
            refine g_r_blk ?_
            refine g_r_then ?_
            refine g_done rfl (fun w hh => (.tmp rfl (.tmp rfl .nil))) (fun w hh => ⟨?_, hh.toExt⟩)
            have eE : holdE L.S p sl pl = 5 := by simp only [holdE, *, ne_eq, not_true_eq_false, not_false_eq_true, if_false, if_true, Bool.true_eq_false, Bool.false_eq_true, or_self, or_true, true_or]
            rw [HoldR, if_pos (by rw [eE]; decide), eE]
            rfl
          · have hg56_4 := hg56_4
            refine g_valG rfl rfl rfl rfl rfl (fun w hh => v_load (Try.isAgg26 w) rfl (hh.cell 0 rfl rfl)) ?_
            refine g_callvG rfl rfl rfl rfl rfl rfl rfl rfl rfl (fun a w => Try.call123 a w) (fun w hh => c_twice r2 pl c2 w (by omega) hr2 (hh.seg 2 rfl)) ?_
            refine g_val rfl rfl rfl (fun _ _ => v_pickF rfl rfl) ?_
            refine g_val rfl rfl rfl (fun _ _ => v_assign rfl) ?_
            refine g_nil ?_
            refine g_n_then ?_
            refine g_cond rfl (fun hc53_5 => ?_) (fun hc53_5 => ?_)
            · have hc53_5 := hc53_5
              refine g_seq ?_
              refine g_region ?_
              refine g_val rfl rfl rfl (fun _ _ => v_assign rfl) ?_
              refine g_val rfl rfl rfl (fun _ _ => v_assign rfl) ?_
              refine g_nil ?_
              refine g_n_then ?_
              refine g_ret ?_
              refine g_r_blk ?_
              refine g_r_then ?_
              refine g_done rfl (fun w hh => (.tmp rfl (.tmp rfl .nil))) (fun w hh => ⟨?_, hh.toExt⟩)
              have eE : holdE L.S p sl pl = 5 := by simp only [holdE, *, ne_eq, not_true_eq_false, not_false_eq_true, if_false, if_true, Bool.true_eq_false, Bool.false_eq_true, or_self, or_true, true_or]
              rw [HoldR, if_pos (by rw [eE]; decide), eE]
              rfl
            · have hc53_5 := hc53_5
              refine g_skip ?_
              refine g_n_blk ?_
              refine g_n_then ?_
              refine g_seq ?_
              refine g_region ?_
              refine g_val rfl rfl rfl (fun _ _ => v_move rfl) ?_
              refine g_val rfl rfl rfl (fun _ _ => v_makeFunc (u := #[]) (u' := #[_, _]) rfl rfl) ?_
              refine g_callW (ι := Nat × List WV) (p := fun i => wproj i.2 = waysF L.S (mayFree sl pl) ∧ ∀ e, e ∈ i.2 → e.ok) (A := fun i => (i.1, mobj (mlist i.2))) (T := fun i => wown i.2) (ret := fun i => .map (some i.1)) rfl rfl rfl rfl rfl rfl rfl (fun a w => Try.call124 a w) (fun w hh => (c_ways L bd (gatesOf L.S) 125 #[] #[ptr b2 0, ptr b3 0] (mayFree sl pl) w (hL.ext hh.toExt) hG (hh.seg 0 rfl) (fun a w => Try.call125 a w) (fun w2 hx k q hk hq => c_Hold2 r1 r2 sl pl c1 c2 _ _ b2 b3 w2 hl1 hl2 hr1 hr2 ((hh.seg 1 rfl).ext hx (by simp)) ((hh.seg 2 rfl).ext hx (by simp)) ((hh.ownSeg 1 rfl).ext hx (by simp)) ((hh.ownSeg 0 rfl).ext hx (by simp)))).mono (by rintro en w' ⟨bm, W, rfl, h1, h2, h3⟩; exact ⟨(bm, W), rfl, ⟨h1, h2⟩, h3⟩)) ?_
              rintro ⟨bm, W⟩ ⟨hWp, hWo⟩
              refine g_val rfl rfl rfl (fun _ _ => v_assign rfl) ?_
              refine g_nil ?_
              refine g_n_then ?_
              refine g_seq ?_
              refine g_seq ?_
              refine g_region ?_
              refine g_val rfl rfl rfl (fun _ _ => v_move rfl) ?_
              refine g_val rfl rfl rfl (fun _ _ => v_move rfl) ?_
              refine g_val rfl rfl rfl (fun w hh => v_lookup2 (Try.runUnderlying170 w) (Try.runUnderlying3 w) (Try.zeroValue26 w) rfl rfl (hh.get 0 rfl)) ?_
              refine g_val rfl rfl rfl (fun _ _ => v_move rfl) ?_
              refine g_val rfl rfl rfl (fun _ _ => v_extract rfl rfl) ?_
              refine g_val rfl rfl rfl (fun _ _ => v_extract rfl rfl) ?_
              refine g_val rfl rfl rfl (fun _ _ => v_assign rfl) ?_
              refine g_val rfl rfl rfl (fun _ _ => v_assign rfl) ?_
              refine g_nil ?_
              refine g_n_then ?_
              refine g_seq ?_
              refine g_region ?_
              refine g_val rfl rfl rfl (fun _ _ => v_move rfl) ?_
              refine g_nil ?_
              refine g_n_then ?_
              refine g_cond rfl (fun hme => ?_) (fun hme => ?_)
              · rw [mget_isSome, hWp] at hme
                refine g_seq ?_
                refine g_region ?_
                refine g_val rfl rfl rfl (fun _ _ => v_assign rfl) ?_
                refine g_val rfl rfl rfl (fun _ _ => v_assign rfl) ?_
                refine g_nil ?_
                refine g_n_then ?_
                refine g_ret ?_
                refine g_r_then ?_
                refine g_done rfl (fun w hh => (.tmp rfl (.tmp rfl .nil))) (fun w hh => ⟨?_, hh.toExt⟩)
                have eE : holdE L.S p sl pl = 8 := by simp only [holdE, *, ne_eq, not_true_eq_false, not_false_eq_true, if_false, if_true, Bool.true_eq_false, Bool.false_eq_true, or_self, or_true, true_or]
                rw [HoldR, if_pos (by rw [eE]; decide), eE]
                rfl
              · rw [mget_isSome, hWp] at hme
                refine g_skip ?_
                refine g_n_then ?_
                refine g_seq ?_
                refine g_seq ?_
                refine g_region ?_
                refine g_val rfl rfl rfl (fun w hh => v_load (Try.isAgg26 w) rfl (hh.cell 2 rfl rfl)) ?_
                refine g_val rfl rfl rfl (fun w _ => v_lenS (Try.runUnderlying26 w) rfl) ?_
                refine g_val rfl rfl rfl (fun w hh => v_load (Try.isAgg26 w) rfl (hh.cell 1 rfl rfl)) ?_
                refine g_val rfl rfl rfl (fun w _ => v_lenS (Try.runUnderlying26 w) rfl) ?_
                refine g_val rfl rfl rfl (fun _ _ => v_add rfl rfl (wrap_i64 (by omega))) ?_
                refine g_val rfl rfl rfl (fun _ _ => v_eql rfl rfl) ?_
                refine g_nil ?_
                refine g_n_then ?_
                refine g_cond rfl (fun hc75_7 => ?_) (fun hc75_7 => ?_)
                · replace hc75_7 := of_decide_eq_true hc75_7
                  refine g_seq ?_
                  refine g_region ?_
                  refine g_val rfl rfl rfl (fun _ _ => v_assign rfl) ?_
                  refine g_val rfl rfl rfl (fun _ _ => v_assign rfl) ?_
                  refine g_nil ?_
                  refine g_n_then ?_
                  refine g_ret ?_
                  refine g_r_then ?_
                  refine g_done rfl (fun w hh => (.tmp rfl (.tmp rfl .nil))) (fun w hh => ⟨?_, hh.toExt⟩)
                  have eE : holdE L.S p sl pl = 6 := by simp only [holdE, *, ne_eq, not_true_eq_false, not_false_eq_true, if_false, if_true, Bool.true_eq_false, Bool.false_eq_true, or_self, or_true, true_or]
                  rw [HoldR, if_pos (by rw [eE]; decide), eE]
                  rfl
                · replace hc75_7 := of_decide_eq_false hc75_7
                  refine g_skip ?_
                  refine g_n_then ?_
                  refine g_seq ?_
                  refine g_region ?_
                  refine g_val rfl rfl rfl (fun _ _ => v_assign rfl) ?_
                  refine g_nil ?_
                  refine g_n_then ?_
                  refine g_seq ?_
                  refine g_seq ?_
                  refine g_region ?_
                  refine g_val rfl rfl rfl (fun w hh => v_load (Try.isAgg26 w) rfl (hh.cell 2 rfl rfl)) ?_
                  refine g_val rfl rfl rfl (fun w _ => v_lenS (Try.runUnderlying26 w) rfl) ?_
                  refine g_val rfl rfl rfl (fun _ _ => v_move rfl) ?_
                  refine g_nil ?_
                  refine g_n_then ?_
                  refine g_block ?_
                  refine g_sub (e' := [(78, _), (15, _), (4, _), (7, _), (76, _), (77, _)]) ((.cons rfl (.cons rfl (.cons rfl (.cons rfl (.cons rfl (.cons rfl .nil))))))) ?_
                  refine g_loopM (ι := Nat) (fun k => [(78, .int .i64 (k : Nat)), (15, .int .i64 (holdS L.S (sl.take k)))]) (fun k => []) (fun k => k ≤ sl.length) (fun k => sl.length - k) 0 (Nat.zero_le _) ?_
                  intro k hI1
                  refine g_seq ?_
                  refine g_region ?_
                  refine g_val rfl rfl rfl (fun _ _ => v_lss rfl rfl) ?_
                  refine g_nil ?_
                  refine g_n_then ?_
                  refine g_seq ?_
                  refine g_cond rfl (fun h79 => ?_) (fun h79 => ?_)
                  · replace h79 := of_decide_eq_true h79
                    have hin := isSill_iff.1 (all_getD (d := (0 : Int)) hev1 (j := k) (by omega))
                    refine g_skip ?_
                    refine g_n_then ?_
                    refine g_seq ?_
                    refine g_block ?_
                    refine g_seq ?_
                    refine g_region ?_
                    refine g_val rfl rfl rfl (fun w _ => v_indexAddr1 k (Try.runUnderlying26 w) (Try.sizeOf3 w) rfl rfl rfl (by omega) (hr1 (by omega))) ?_
                    refine g_val rfl rfl rfl (fun w hh => v_load (Try.isAgg3 w) rfl (hh.int (j := k) 1 rfl (by omega))) ?_
                    refine g_val rfl rfl rfl (fun _ _ => v_assign rfl) ?_
                    refine g_nil ?_
                    refine g_n_then ?_
                    refine g_region ?_
                    refine g_val rfl rfl rfl (fun _ _ => v_move rfl) ?_
                    refine g_val rfl rfl rfl (fun w _ => v_fieldAddr 4 (Try.runUnderlying29 w) rfl (Try.sizeOf27 w) rfl) ?_
                    refine g_val rfl rfl rfl (fun w hh => v_load (Try.isAgg27 w) rfl (hh.cell 3 rfl rfl)) ?_
                    refine g_val rfl rfl rfl (fun _ _ => v_move rfl) ?_
                    refine g_val rfl rfl rfl (fun w _ => v_idxI (Try.runUnderlying27 w) (Try.sizeOf51 w) rfl rfl (by omega) (by omega) (hL.s0 (by omega))) ?_
                    refine g_val rfl rfl rfl (fun w _ => v_fieldAddr 2 (Try.runUnderlying51 w) rfl (Try.sizeOf3 w) rfl) ?_
                    refine g_val rfl rfl rfl (fun w hh => v_load (Try.isAgg3 w) rfl (hh.fld encS_len 5 2 rfl (by omega) rfl rfl)) ?_
                    refine g_val rfl rfl rfl (fun _ _ => v_min rfl rfl) ?_
                    refine g_val rfl rfl rfl (fun _ _ => v_assign rfl) ?_
                    refine g_nil ?_
                    refine g_n_blk ?_
                    refine g_n_then ?_
                    refine g_region ?_
                    refine g_val rfl rfl rfl (fun _ _ => v_add rfl rfl (wrap_i64 (by omega))) ?_
                    refine g_val rfl rfl rfl (fun _ _ => v_move rfl) ?_
                    refine g_nil ?_
                    refine g_n_then ?_
                    have e1 : holdS L.S (sl.take (k + 1)) = min (holdS L.S (sl.take k)) (L.S.sills.getD (sl.getD k 0).toNat default).h := take_foldl (d := (0 : Int)) (by omega)
                    refine g_set 15 rfl (congrArg (Value.int .i64) e1.symm) ?_
                    exact g_againD (i := k) (k + 1) 0 ((.cons rfl (.cons rfl (.cons rfl (.cons rfl (.cons rfl (.cons rfl .nil))))))) rfl (by omega) (by omega)
                  · replace h79 := of_decide_eq_false h79
                    have ek : k = sl.length := by omega
                    subst ek
                    rw [List.take_length]
                    refine g_exit ?_
                    refine g_x_then ?_
                    refine g_x_then ?_
                    refine g_x_blk ?_
                    refine g_n_then ?_
                    refine g_seq ?_
                    refine g_seq ?_
                    refine g_region ?_
                    refine g_val rfl rfl rfl (fun w hh => v_load (Try.isAgg26 w) rfl (hh.cell 1 rfl rfl)) ?_
                    refine g_val rfl rfl rfl (fun w _ => v_lenS (Try.runUnderlying26 w) rfl) ?_
                    refine g_val rfl rfl rfl (fun _ _ => v_move rfl) ?_
                    refine g_nil ?_
                    refine g_n_then ?_
                    refine g_block ?_
                    refine g_sub (e' := [(93, _), (15, _), (4, _), (91, _), (92, _)]) ((.cons rfl (.cons rfl (.cons rfl (.cons rfl (.cons rfl .nil)))))) ?_
                    refine g_loopM (ι := Nat) (fun k => [(93, .int .i64 (k : Nat)), (15, .int .i64 (holdV L.S sl (pl.take k)))]) (fun k => []) (fun k => k ≤ pl.length) (fun k => pl.length - k) 0 (Nat.zero_le _) ?_
                    intro k hI3
                    refine g_seq ?_
                    refine g_region ?_
                    refine g_val rfl rfl rfl (fun _ _ => v_lss rfl rfl) ?_
                    refine g_nil ?_
                    refine g_n_then ?_
                    refine g_seq ?_
                    refine g_cond rfl (fun h94 => ?_) (fun h94 => ?_)
                    · replace h94 := of_decide_eq_true h94
                      have hin := isPlace_iff.1 (all_getD (d := (0 : Int)) hev2 (j := k) (by omega))
                      refine g_skip ?_
                      refine g_n_then ?_
                      refine g_seq ?_
                      refine g_block ?_
                      refine g_seq ?_
                      refine g_region ?_
                      refine g_val rfl rfl rfl (fun w _ => v_indexAddr1 k (Try.runUnderlying26 w) (Try.sizeOf3 w) rfl rfl rfl (by omega) (hr2 (by omega))) ?_
                      refine g_val rfl rfl rfl (fun w hh => v_load (Try.isAgg3 w) rfl (hh.int (j := k) 2 rfl (by omega))) ?_
                      refine g_val rfl rfl rfl (fun _ _ => v_assign rfl) ?_
                      refine g_nil ?_
                      refine g_n_then ?_
                      refine g_region ?_
                      refine g_val rfl rfl rfl (fun _ _ => v_move rfl) ?_
                      refine g_val rfl rfl rfl (fun w _ => v_fieldAddr 3 (Try.runUnderlying29 w) rfl (Try.sizeOf26 w) rfl) ?_
                      refine g_val rfl rfl rfl (fun w hh => v_load (Try.isAgg26 w) rfl (hh.cell 3 rfl rfl)) ?_
                      refine g_val rfl rfl rfl (fun _ _ => v_move rfl) ?_
                      refine g_val rfl rfl rfl (fun w _ => v_idxI1 (Try.runUnderlying26 w) (Try.sizeOf3 w) rfl rfl (by omega) (by omega) (hL.f0 (by omega))) ?_
                      refine g_val rfl rfl rfl (fun w hh => v_load (Try.isAgg3 w) rfl (hh.int 4 rfl (by omega))) ?_
                      refine g_val rfl rfl rfl (fun _ _ => v_min rfl rfl) ?_
                      refine g_val rfl rfl rfl (fun _ _ => v_assign rfl) ?_
                      refine g_nil ?_
                      refine g_n_blk ?_
                      refine g_n_then ?_
                      refine g_region ?_
                      refine g_val rfl rfl rfl (fun _ _ => v_add rfl rfl (wrap_i64 (by omega))) ?_
                      refine g_val rfl rfl rfl (fun _ _ => v_move rfl) ?_
                      refine g_nil ?_
                      refine g_n_then ?_
                      have e1 : holdV L.S sl (pl.take (k + 1)) = min (holdV L.S sl (pl.take k)) (L.S.floors.getD (pl.getD k 0).toNat 0) := take_foldl (d := (0 : Int)) (by omega)
                      refine g_set 15 rfl (congrArg (Value.int .i64) e1.symm) ?_
                      exact g_againD (i := k) (k + 1) 0 ((.cons rfl (.cons rfl (.cons rfl (.cons rfl (.cons rfl .nil)))))) rfl (by omega) (by omega)
                    · replace h94 := of_decide_eq_false h94
                      have ek : k = pl.length := by omega
                      subst ek
                      rw [List.take_length]
                      refine g_exit ?_
                      refine g_x_then ?_
                      refine g_x_then ?_
                      refine g_x_blk ?_
                      refine g_n_then ?_
                      refine g_seq ?_
                      refine g_region ?_
                      refine g_val rfl rfl rfl (fun _ _ => v_move rfl) ?_
                      refine g_val rfl rfl rfl (fun _ _ => v_assign rfl) ?_
                      refine g_val rfl rfl rfl (fun _ _ => v_assign rfl) ?_
                      refine g_nil ?_
                      refine g_n_then ?_
                      refine g_ret ?_
                      refine g_done rfl (fun w hh => (.tmp rfl (.tmp rfl .nil))) (fun w hh => ⟨?_, hh.toExt⟩)
                      have eE : holdE L.S p sl pl = 0 := by simp only [holdE, *, ne_eq, not_true_eq_false, if_false, Bool.true_eq_false, Bool.false_eq_true, or_self]
                      rw [HoldR, if_neg (by simp [eE])]
                      rfl
  · refine g_callv rfl rfl rfl rfl rfl rfl rfl (fun a w => Try.call102 a w) (fun w hh => c_openedE L w (hL.ext hh.toExt) hc) ?_
    refine g_val rfl rfl rfl (fun _ _ => v_move rfl) ?_
    refine g_val rfl rfl rfl (fun _ _ => v_extract rfl rfl) ?_
    refine g_val rfl rfl rfl (fun _ _ => v_extract rfl rfl) ?_
    refine g_val rfl rfl rfl (fun _ _ => v_assign rfl) ?_
    refine g_val rfl rfl rfl (fun _ _ => v_assign rfl) ?_
    refine g_nil ?_
    refine g_n_then ?_
    refine g_seq ?_
    refine g_block ?_
    refine g_seq ?_
    refine g_region ?_
    refine g_val rfl rfl rfl (fun _ _ => v_move rfl) ?_
    refine g_val rfl rfl rfl (fun _ _ => v_neq rfl rfl) ?_
    refine g_val rfl rfl rfl (fun _ _ => v_assign rfl) ?_
    refine g_nil ?_
    refine g_n_then ?_
    refine g_condT rfl (neP hc) ?_
    refine g_seq ?_
    refine g_region ?_
    refine g_val rfl rfl rfl (fun _ _ => v_move rfl) ?_
    refine g_val rfl rfl rfl (fun _ _ => v_assign rfl) ?_
    refine g_val rfl rfl rfl (fun _ _ => v_assign rfl) ?_
    refine g_nil ?_
    refine g_n_then ?_
    refine g_ret ?_
    refine g_r_blk ?_
    refine g_r_then ?_
    refine g_done rfl (fun w hh => (.tmp rfl (.tmp rfl .nil))) (fun w hh => ⟨?_, hh.toExt⟩)
    have eE : holdE L.S p sl pl = check L.S := by simp only [holdE, *, ne_eq, not_true_eq_false, not_false_eq_true, if_false, if_true, Bool.true_eq_false, Bool.false_eq_true, or_self, or_true, true_or]
    rw [HoldR, if_pos (by rw [eE]; exact hc), eE]
    rfl

end Go.Proofs

namespace Go.Proofs
open Go Go.Fw Go.Pl
theorem upto_bd {m k : Int} (hm : 0 ≤ m ∧ m ≤ 32767) (hk : (-4000000000000000000 ≤ k ∧ k ≤ 4000000000000000000)) : 0 ≤ m.tmod (max 1 (k + 1)) ∧ m.tmod (max 1 (k + 1)) ≤ max 0 k := by
  have h1 : 0 < max 1 (k + 1) := by omega
  have h2 := Int.tmod_lt_of_pos m h1
  have h3 := Int.tmod_nonneg (max 1 (k + 1)) hm.1
  omega
set_option maxRecDepth 100000 in
theorem infs3' : (Try.prog.info? 3).isSome = true := by kernel_rfl
theorem encW_ones (x : Water) : ones (encW x) = true := rfl
set_option maxRecDepth 100000 in
theorem inf68 : (Try.prog.info? 68).map (fun i => (i.zero, i.size, i.bytes)) = some (some (.agg #[.int .i64 0, .int .i64 0]), 2, 16) := by kernel_rfl
set_option maxRecDepth 100000 in
theorem infs68' : (Try.prog.info? 68).isSome = true := by kernel_rfl
set_option maxRecDepth 100000 in
theorem eqg68 : Try.prog.eqGuardType Try.prog.depth 68 = false := by decide +kernel
set_option maxRecDepth 100000 in
theorem sth68 : Try.prog.stoodInHeld 68 = false := by decide +kernel
set_option maxRecDepth 100000 in
theorem eq68 (x y : Water) (w : World) : (Op.equalIn 10000 68 (.agg (encW x).toArray) (.agg (encW y).toArray)).run Try.prog w = .ok (decide (x = y)) w := by
  have h := equal_struct (xs := (encW x).toArray) (ys := (encW y).toArray) Try.underlying68 sth68 (.int rfl (fun w => Try.isAgg3 w) ⟨_, Try.underlying3⟩ rfl rfl (.int rfl (fun w => Try.isAgg3 w) ⟨_, Try.underlying3⟩ rfl rfl .nil)) w
  rw [h]
  congr 1
  cases x; cases y
  rw [Bool.eq_iff_iff]
  simp only [Bool.and_eq_true, decide_eq_true_eq, Water.mk.injEq, and_true]
theorem encS_ones (x : Sill) : ones (encS x) = true := rfl
set_option maxRecDepth 100000 in
theorem inf51 : (Try.prog.info? 51).map (fun i => (i.zero, i.size, i.bytes)) = some (some (.agg #[.int .i64 0, .int .i64 0, .int .i64 0]), 3, 24) := by kernel_rfl
set_option maxRecDepth 100000 in
theorem infs51' : (Try.prog.info? 51).isSome = true := by kernel_rfl
set_option maxRecDepth 100000 in
theorem eqg51 : Try.prog.eqGuardType Try.prog.depth 51 = false := by decide +kernel
set_option maxRecDepth 100000 in
theorem sth51 : Try.prog.stoodInHeld 51 = false := by decide +kernel
set_option maxRecDepth 100000 in
theorem eq51 (x y : Sill) (w : World) : (Op.equalIn 10000 51 (.agg (encS x).toArray) (.agg (encS y).toArray)).run Try.prog w = .ok (decide (x = y)) w := by
  have h := equal_struct (xs := (encS x).toArray) (ys := (encS y).toArray) Try.underlying51 sth51 (.int rfl (fun w => Try.isAgg3 w) ⟨_, Try.underlying3⟩ rfl rfl (.int rfl (fun w => Try.isAgg3 w) ⟨_, Try.underlying3⟩ rfl rfl (.int rfl (fun w => Try.isAgg3 w) ⟨_, Try.underlying3⟩ rfl rfl .nil))) w
  rw [h]
  congr 1
  cases x; cases y
  rw [Bool.eq_iff_iff]
  simp only [Bool.and_eq_true, decide_eq_true_eq, Sill.mk.injEq, and_true]
theorem encL_ones (x : Look) : ones (encL x) = true := rfl
set_option maxRecDepth 100000 in
theorem inf89 : (Try.prog.info? 89).map (fun i => (i.zero, i.size, i.bytes)) = some (some (.agg #[.int .i64 0, .int .i64 0, .bool false]), 3, 24) := by kernel_rfl
set_option maxRecDepth 100000 in
theorem infs89' : (Try.prog.info? 89).isSome = true := by kernel_rfl
set_option maxRecDepth 100000 in
theorem eqg89 : Try.prog.eqGuardType Try.prog.depth 89 = false := by decide +kernel
set_option maxRecDepth 100000 in
theorem sth89 : Try.prog.stoodInHeld 89 = false := by decide +kernel
set_option maxRecDepth 100000 in
theorem eq89 (x y : Look) (w : World) : (Op.equalIn 10000 89 (.agg (encL x).toArray) (.agg (encL y).toArray)).run Try.prog w = .ok (decide (x = y)) w := by
  have h := equal_struct (xs := (encL x).toArray) (ys := (encL y).toArray) Try.underlying89 sth89 (.int rfl (fun w => Try.isAgg3 w) ⟨_, Try.underlying3⟩ rfl rfl (.int rfl (fun w => Try.isAgg3 w) ⟨_, Try.underlying3⟩ rfl rfl (.bool rfl (fun w => Try.isAgg4 w) Try.underlying4 rfl rfl .nil))) w
  rw [h]
  congr 1
  cases x; cases y
  rw [Bool.eq_iff_iff]
  simp only [Bool.and_eq_true, decide_eq_true_eq, Look.mk.injEq, and_true]
theorem encP_ones (x : Span) : ones (encP x) = true := rfl
set_option maxRecDepth 100000 in
theorem eqg25 : Try.prog.eqGuardType Try.prog.depth 25 = false := by decide +kernel
set_option maxRecDepth 100000 in
theorem sth25 : Try.prog.stoodInHeld 25 = false := by decide +kernel
set_option maxRecDepth 100000 in
theorem eq25 (x y : Span) (w : World) : (Op.equalIn 10000 25 (.agg (encP x).toArray) (.agg (encP y).toArray)).run Try.prog w = .ok (decide (x = y)) w := by
  have h := equal_struct (xs := (encP x).toArray) (ys := (encP y).toArray) Try.underlying25 sth25 (.int rfl (fun w => Try.isAgg3 w) ⟨_, Try.underlying3⟩ rfl rfl (.int rfl (fun w => Try.isAgg3 w) ⟨_, Try.underlying3⟩ rfl rfl .nil)) w
  rw [h]
  congr 1
  cases x; cases y
  rw [Bool.eq_iff_iff]
  simp only [Bool.and_eq_true, decide_eq_true_eq, Span.mk.injEq, and_true]
set_option maxRecDepth 100000 in
set_option maxHeartbeats 4000000 in
theorem c_Upto (b : Nat) (r : Option Addr) (l : List Int) (cap : Nat) (p : Int × Int) (k : Int) (w : World) (hb : w.heap[b]? = some (hobj r l.length cap p)) (hs : segOK w (bkA r, offA r, u8s l)) (hne : u8s l ≠ [] → bkA r ≠ b) (hr : 0 < l.length → ∃ sb so, r = some ⟨sb, so, none⟩) (hl : l.length ≤ 9223372036854775807) (hp : hok l.length p) (hk : (-4000000000000000000 ≤ k ∧ k ≤ 4000000000000000000)) : Calls Try.prog 64 #[ptr b 0, .int .i64 k] w (fun en w' => ∃ (n : Int) (q : Int × Int), en = .returned (.int .i64 n) ∧ (0 ≤ n ∧ n ≤ max 0 k) ∧ hok l.length q ∧ Ext [b] w w' ∧ w'.heap[b]? = some (hobj r l.length cap q)) := by
  refine g_enter (args := [ptr b 0, .int .i64 k]) Try.func64 rfl Try.ntmps64 rfl (e := [(0, _), (1, _)]) rfl (HS.start1 w b (hobj r l.length cap p) [(bkA r, offA r, u8s l)] hb (by simpa using ⟨hs, hne⟩)) ?_
  refine g_seq ?_
  refine g_region ?_
  refine g_val rfl rfl rfl (fun _ _ => v_assign rfl) ?_
  refine g_nil ?_
  refine g_n_then ?_
  refine g_seq ?_
  refine g_region ?_
  refine g_val rfl rfl rfl (fun _ _ => v_move rfl) ?_
  refine g_callU (ι := Int × (Int × Int)) (p := fun i => (0 ≤ i.1 ∧ i.1 ≤ 32767) ∧ hok l.length i.2) (ob' := fun i => hobj r l.length cap i.2) (ret := fun i => .int .i64 i.1) 0 rfl rfl rfl rfl rfl rfl rfl (fun a w => Try.call132 a w) rfl (fun _ => rfl) (fun w hh => (c_pick b r l cap _  w (hh.get 0 rfl) (hh.seg 0 rfl) hne hr hl (by assumption)).mono (by rintro en w' ⟨n, q, rfl, hn, hq, hx, hb'⟩; exact ⟨(n, q), rfl, ⟨hn, hq⟩, hx, hb'⟩)) (fun n1 hhn1 => ?_)
  have hn1 := hhn1.1
  have hqn1 := hhn1.2
  refine g_val rfl rfl rfl (fun _ _ => v_move rfl) ?_
  refine g_val rfl rfl rfl (fun _ _ => v_add rfl rfl (wrap_i64 (by omega))) ?_
  refine g_val rfl rfl rfl (fun _ _ => v_max rfl rfl) ?_
  refine g_val rfl rfl rfl (fun _ _ => v_rem rfl rfl (by omega)) ?_
  refine g_val rfl rfl rfl (fun _ _ => v_assign rfl) ?_
  refine g_nil ?_
  refine g_n_then ?_
  refine g_ret ?_
  refine g_done rfl (fun w hh => (.tmp rfl .nil)) (fun w hh => ⟨_, _, rfl, ?_, by assumption, hh.toExt, hh.get 0 rfl⟩)
  exact upto_bd (by omega) (by omega)

set_option maxRecDepth 100000 in
set_option maxHeartbeats 4000000 in
theorem c_From (b : Nat) (r : Option Addr) (l : List Int) (cap : Nat) (p : Int × Int) (lo hi : Int) (w : World) (hb : w.heap[b]? = some (hobj r l.length cap p)) (hs : segOK w (bkA r, offA r, u8s l)) (hne : u8s l ≠ [] → bkA r ≠ b) (hr : 0 < l.length → ∃ sb so, r = some ⟨sb, so, none⟩) (hl : l.length ≤ 9223372036854775807) (hp : hok l.length p) (hk : (-1000000000000000000 ≤ lo ∧ lo ≤ 1000000000000000000) ∧ (-1000000000000000000 ≤ hi ∧ hi ≤ 1000000000000000000)) : Calls Try.prog 20 #[ptr b 0, .int .i64 lo, .int .i64 hi] w (fun en w' => ∃ (n : Int) (q : Int × Int), en = .returned (.int .i64 n) ∧ (lo ≤ n ∧ n ≤ max lo hi) ∧ hok l.length q ∧ Ext [b] w w' ∧ w'.heap[b]? = some (hobj r l.length cap q)) := by
  refine g_enter (args := [ptr b 0, .int .i64 lo, .int .i64 hi]) Try.func20 rfl Try.ntmps20 rfl (e := [(0, _), (1, _), (2, _)]) rfl (HS.start1 w b (hobj r l.length cap p) [(bkA r, offA r, u8s l)] hb (by simpa using ⟨hs, hne⟩)) ?_
  refine g_seq ?_
  refine g_region ?_
  refine g_val rfl rfl rfl (fun _ _ => v_assign rfl) ?_
  refine g_nil ?_
  refine g_n_then ?_
  refine g_seq ?_
  refine g_region ?_
  refine g_val rfl rfl rfl (fun _ _ => v_move rfl) ?_
  refine g_val rfl rfl rfl (fun _ _ => v_move rfl) ?_
  refine g_val rfl rfl rfl (fun _ _ => v_move rfl) ?_
  refine g_val rfl rfl rfl (fun _ _ => v_move rfl) ?_
  refine g_val rfl rfl rfl (fun _ _ => v_sub rfl rfl (wrap_i64 (by omega))) ?_
  refine g_callU (ι := Int × (Int × Int)) (p := fun i => (0 ≤ i.1 ∧ i.1 ≤ max 0 (hi - lo)) ∧ hok l.length i.2) (ob' := fun i => hobj r l.length cap i.2) (ret := fun i => .int .i64 i.1) 0 rfl rfl rfl rfl rfl rfl rfl (fun a w => Try.call64 a w) rfl (fun _ => rfl) (fun w hh => (c_Upto b r l cap _ (hi - lo) w (hh.get 0 rfl) (hh.seg 0 rfl) hne hr hl (by assumption) (by omega)).mono (by rintro en w' ⟨n, q, rfl, hn, hq, hx, hb'⟩; exact ⟨(n, q), rfl, ⟨hn, hq⟩, hx, hb'⟩)) (fun n1 hhn1 => ?_)
  have hn1 := hhn1.1
  have hqn1 := hhn1.2
  refine g_val rfl rfl rfl (fun _ _ => v_add rfl rfl (wrap_i64 (by omega))) ?_
  refine g_val rfl rfl rfl (fun _ _ => v_assign rfl) ?_
  refine g_nil ?_
  refine g_n_then ?_
  refine g_ret ?_
  refine g_done rfl (fun w hh => (.tmp rfl .nil)) (fun w hh => ⟨_, _, rfl, ?_, by assumption, hh.toExt, hh.get 0 rfl⟩)
  omega

set_option maxRecDepth 100000 in
set_option maxHeartbeats 4000000 in
theorem c_Once (b : Nat) (r : Option Addr) (l : List Int) (cap : Nat) (p : Int × Int) (k : Int) (w : World) (hb : w.heap[b]? = some (hobj r l.length cap p)) (hs : segOK w (bkA r, offA r, u8s l)) (hne : u8s l ≠ [] → bkA r ≠ b) (hr : 0 < l.length → ∃ sb so, r = some ⟨sb, so, none⟩) (hl : l.length ≤ 9223372036854775807) (hp : hok l.length p) (hk : -1000000000000000000 ≤ k ∧ k ≤ 1000000000000000000) : Calls Try.prog 85 #[ptr b 0, .int .i64 k] w (fun en w' => ∃ (n : Bool) (q : Int × Int), en = .returned (.bool n) ∧ (True) ∧ hok l.length q ∧ Ext [b] w w' ∧ w'.heap[b]? = some (hobj r l.length cap q)) := by
  refine g_enter (args := [ptr b 0, .int .i64 k]) Try.func85 rfl Try.ntmps85 rfl (e := [(0, _), (1, _)]) rfl (HS.start1 w b (hobj r l.length cap p) [(bkA r, offA r, u8s l)] hb (by simpa using ⟨hs, hne⟩)) ?_
  refine g_seq ?_
  refine g_region ?_
  refine g_val rfl rfl rfl (fun _ _ => v_assign rfl) ?_
  refine g_nil ?_
  refine g_n_then ?_
  refine g_seq ?_
  refine g_region ?_
  refine g_val rfl rfl rfl (fun _ _ => v_move rfl) ?_
  refine g_val rfl rfl rfl (fun _ _ => v_move rfl) ?_
  refine g_val rfl rfl rfl (fun _ _ => v_sub rfl rfl (wrap_i64 (by omega))) ?_
  refine g_callU (ι := Int × (Int × Int)) (p := fun i => (0 ≤ i.1 ∧ i.1 ≤ max 0 (k - 1)) ∧ hok l.length i.2) (ob' := fun i => hobj r l.length cap i.2) (ret := fun i => .int .i64 i.1) 0 rfl rfl rfl rfl rfl rfl rfl (fun a w => Try.call64 a w) rfl (fun _ => rfl) (fun w hh => (c_Upto b r l cap _ (k - 1) w (hh.get 0 rfl) (hh.seg 0 rfl) hne hr hl (by assumption) (by omega)).mono (by rintro en w' ⟨n, q, rfl, hn, hq, hx, hb'⟩; exact ⟨(n, q), rfl, ⟨hn, hq⟩, hx, hb'⟩)) (fun n1 hhn1 => ?_)
  have hn1 := hhn1.1
  have hqn1 := hhn1.2
  refine g_val rfl rfl rfl (fun _ _ => v_eql rfl rfl) ?_
  refine g_val rfl rfl rfl (fun _ _ => v_assign rfl) ?_
  refine g_nil ?_
  refine g_n_then ?_
  refine g_ret ?_
  refine g_done rfl (fun w hh => (.tmp rfl .nil)) (fun w hh => ⟨_, _, rfl, ?_, by assumption, hh.toExt, hh.get 0 rfl⟩)
  trivial

set_option maxRecDepth 100000 in
set_option maxHeartbeats 4000000 in
theorem c_Pile (r : Option Addr) (n cap : Nat) (w : World) : Calls Try.prog 19 #[.slice r n cap] w (fun en w' => ∃ b : Nat, en = .returned (ptr b 0) ∧ Fresh w w' [(b, hobj r n cap (0, 0))]) := by
  refine g_enter (args := [.slice r n cap]) Try.func19 rfl Try.ntmps19 rfl (e := [(0, _)]) rfl (HS.start w [] [] segsN) ?_
  refine g_seq ?_
  refine g_region ?_
  refine g_val rfl rfl rfl (fun _ _ => v_assign rfl) ?_
  refine g_nil ?_
  refine g_n_then ?_
  refine g_seq ?_
  refine g_region ?_
  refine g_val rfl rfl rfl (fun _ _ => v_move rfl) ?_
  refine g_val rfl rfl rfl (fun _ _ => v_build (vs := [(0, _)]) (cells := [_, _, _]) rfl rfl) ?_
  refine g_box rfl rfl (fun b1 hb1 => ?_)
  refine g_val rfl rfl rfl (fun _ _ => v_assign rfl) ?_
  refine g_nil ?_
  refine g_n_then ?_
  refine g_ret ?_
  refine g_done rfl (fun w hh => (.tmp rfl .nil)) (fun w hh => ⟨_, rfl, hh.toFresh⟩)

set_option maxRecDepth 100000 in
set_option maxHeartbeats 4000000 in
theorem c_Dup_int (r : Option (Nat × Nat)) (l : List Int) (cp : Nat) (w : World) (hl : l.length ≤ 1000000) (hr : 0 < l.length → r ≠ none) (hs : segOK w (bk r, off r, ints l)) : Calls Try.prog 65 #[slv r l.length cp] w (fun en w' => ∃ q cap, en = .returned (slv q l.length cap) ∧ SlOK q l.length cap ∧ News w w' [(bk q, off q, ints l)]) := by
  refine g_enter (args := [slv r l.length cp]) Try.func65 rfl Try.ntmps65 rfl (e := [(0, _)]) rfl (HS.start w [] [(bk r, off r, ints l)] (segsC hs segsN)) ?_
  refine g_seq ?_
  refine g_region ?_
  refine g_val rfl rfl rfl (fun _ _ => v_nilSlice rfl rfl) ?_
  refine g_nil ?_
  refine g_n_then ?_
  refine g_seq ?_
  refine g_region ?_
  refine g_val rfl rfl rfl (fun _ _ => v_move rfl) ?_
  refine g_val rfl rfl rfl (fun w _ => v_lenS (Try.runUnderlying26 w) rfl) ?_
  refine g_makeCap (c := l.length) Try.underlying26 inf3 rfl rfl rfl rfl (by omega) (by omega) rfl (fun bn hbn => ?_)
  refine g_val rfl rfl rfl (fun _ _ => v_move rfl) ?_
  rcases Nat.eq_zero_or_pos l.length with h0 | h0
  · have hl0 := List.length_eq_zero_iff.1 h0
    subst hl0
    refine g_append0 Try.underlying26 infs3' rfl rfl (Nat.le_refl _) rfl ?_
    refine g_val rfl rfl rfl (fun _ _ => v_assign rfl) ?_
    refine g_nil ?_
    refine g_n_then ?_
    refine g_ret ?_
    refine g_done rfl (fun w hh => (.tmp rfl .nil)) (fun w hh => ?_)
    exact ⟨some (bn, 0), 0, rfl, ⟨by simp, Nat.le_refl _⟩, (News.nil hh.toExt).cons segOK.nil (fun h => absurd rfl h)⟩
  · refine g_appendM [] (news := ints l) (m := l.length) (q2 := r) Try.underlying26 inf3 rfl rfl rfl (dup_vok hl) (hr h0) h0 (by rw [ints_length, Nat.mul_one]) (fun w hh => hh.seg 0 rfl) (ints_ones l) (by simp only [maxLen]; omega) (by omega) rfl (fun q cap sp hv => ?_)
    rw [List.nil_append, Nat.zero_add] at hv
    rw [List.nil_append, Nat.zero_add]
    refine g_val rfl rfl rfl (fun _ _ => v_assign rfl) ?_
    refine g_nil ?_
    refine g_n_then ?_
    refine g_ret ?_
    refine g_done rfl (fun w hh => (.tmp rfl .nil)) (fun w hh => ?_)
    exact ⟨some q, cap, rfl, hv.sl, hh.vec [] hv.hoff hv.noneNil⟩

set_option maxRecDepth 100000 in
set_option maxHeartbeats 4000000 in
theorem c_Equal_int (ra rb : Option (Nat × Nat)) (a c : List Int) (ca cb : Nat) (w : World) (hla : a.length ≤ 1000000) (hlb : c.length ≤ 1000000) (hra : 0 < a.length → ra ≠ none) (hrb : 0 < c.length → rb ≠ none) (hsa : segOK w (bk ra, off ra, ints a)) (hsb : segOK w (bk rb, off rb, ints c)) : Ret Try.prog 130 [slv ra a.length ca, slv rb c.length cb] w (.bool (decide (a = c))) := by
  refine g_enter (args := [slv ra a.length ca, slv rb c.length cb]) Try.func130 rfl Try.ntmps130 rfl (e := [(0, _), (1, _)]) rfl (HS.start w [] [(bk ra, off ra, ints a), (bk rb, off rb, ints c)] (segsC hsa (segsC hsb segsN))) ?_
  refine g_seq ?_
  refine g_region ?_
  refine g_val rfl rfl rfl (fun _ _ => v_assign rfl) ?_
  refine g_nil ?_
  refine g_n_then ?_
  refine g_seq ?_
  refine g_seq ?_
  refine g_region ?_
  refine g_val rfl rfl rfl (fun _ _ => v_move rfl) ?_
  refine g_val rfl rfl rfl (fun w _ => v_lenS (Try.runUnderlying26 w) rfl) ?_
  refine g_val rfl rfl rfl (fun _ _ => v_move rfl) ?_
  refine g_val rfl rfl rfl (fun w _ => v_lenS (Try.runUnderlying26 w) rfl) ?_
  refine g_val rfl rfl rfl (fun _ _ => v_neq rfl rfl) ?_
  refine g_nil ?_
  refine g_n_then ?_
  refine g_cond rfl (fun hlen => ?_) (fun hlen => ?_)
  · replace hlen := of_ndec_true hlen
    replace hlen : ¬ a.length = c.length := by omega
    refine g_seq ?_
    refine g_region ?_
    refine g_val rfl rfl rfl (fun _ _ => v_assign rfl) ?_
    refine g_nil ?_
    refine g_n_then ?_
    refine g_ret ?_
    refine g_r_then ?_
    refine g_done rfl (fun w hh => (.tmp rfl .nil)) (fun w hh => ⟨?_, hh.toExt⟩)
    have hne : a ≠ c := fun h => hlen (by rw [h])
    simp [retv, hne]
  · replace hlen := of_ndec_false hlen
    replace hlen : a.length = c.length := by omega
    refine g_skip ?_
    refine g_n_then ?_
    refine g_seq ?_
    refine g_seq ?_
    refine g_region ?_
    refine g_val rfl rfl rfl (fun _ _ => v_move rfl) ?_
    refine g_val rfl rfl rfl (fun w _ => v_lenS (Try.runUnderlying26 w) rfl) ?_
    refine g_val rfl rfl rfl (fun _ _ => v_move rfl) ?_
    refine g_nil ?_
    refine g_n_then ?_
    refine g_block ?_
    refine g_sub (e' := [(13, _), (0, _), (1, _), (12, _)]) ((.cons rfl (.cons rfl (.cons rfl (.cons rfl .nil))))) ?_
    refine g_loopM (ι := Nat) (fun k => [(13, .int .i64 (k : Nat))]) (fun k => []) (fun k => k ≤ a.length ∧ ∀ i, i < k → a.getD i (0 : Int) = c.getD i (0 : Int)) (fun k => a.length - k) 0 (⟨Nat.zero_le _, fun i hi => absurd hi (by omega)⟩) ?_
    intro k hI0
    refine g_seq ?_
    refine g_region ?_
    refine g_val rfl rfl rfl (fun _ _ => v_lss rfl rfl) ?_
    refine g_nil ?_
    refine g_n_then ?_
    refine g_seq ?_
    refine g_cond rfl (fun hc14_2 => ?_) (fun hc14_2 => ?_)
    · replace hc14_2 := of_decide_eq_true hc14_2
      refine g_skip ?_
      refine g_n_then ?_
      refine g_seq ?_
      refine g_block ?_
      refine g_seq ?_
      refine g_region ?_
      refine g_val rfl rfl rfl (fun _ _ => v_move rfl) ?_
      refine g_val rfl rfl rfl (fun _ _ => v_assign rfl) ?_
      refine g_nil ?_
      refine g_n_then ?_
      refine g_seq ?_
      refine g_draw none (.free 0 (.free 1 (.hoist 2 (.hoist 3 (.free 4 (.free 5 (.hoist 6 (.hoist 7 (.free 8 .done))))))))) _ rfl (by decide +kernel) (fun w k hh => hh.draw k) (fun w hh => hh) ?_
      refine p_free rfl rfl rfl rfl (fun _ _ => v_move rfl) ?_
      refine p_free rfl rfl rfl rfl (fun _ _ => v_move rfl) ?_
      refine p_hoist rfl rfl rfl rfl (fun w _ => v_indexAddr1 k (Try.runUnderlying26 w) (Try.sizeOf3 w) rfl rfl rfl (by omega) (hra (by omega))) ?_
      refine p_hoist rfl rfl rfl rfl (fun w hh => v_load (Try.isAgg3 w) rfl (hh.int (j := k) 0 rfl (by omega))) ?_
      refine p_free rfl rfl rfl rfl (fun _ _ => v_move rfl) ?_
      refine p_free rfl rfl rfl rfl (fun _ _ => v_move rfl) ?_
      refine p_hoist rfl rfl rfl rfl (fun w _ => v_indexAddr1 k (Try.runUnderlying26 w) (Try.sizeOf3 w) rfl rfl rfl (by omega) (hrb (by omega))) ?_
      refine p_hoist rfl rfl rfl rfl (fun w hh => v_load (Try.isAgg3 w) rfl (hh.int (j := k) 1 rfl (by omega))) ?_
      refine p_free rfl rfl rfl rfl (fun _ _ => v_neq rfl rfl) ?_
      refine p_done ?_
      refine g_n_then ?_
      refine g_cond rfl (fun hq => ?_) (fun hq => ?_)
      · replace hq := of_ndec_true hq
        refine g_seq ?_
        refine g_region ?_
        refine g_val rfl rfl rfl (fun _ _ => v_assign rfl) ?_
        refine g_nil ?_
        refine g_n_then ?_
        refine g_ret ?_
        refine g_r_blk ?_
        refine g_r_then ?_
        refine g_r_then ?_
        refine g_r_blk ?_
        refine g_r_then ?_
        refine g_done rfl (fun w hh => (.tmp rfl .nil)) (fun w hh => ⟨?_, hh.toExt⟩)
        have hne : a ≠ c := fun h => hq (by rw [h])
        simp [retv, hne]
      · replace hq := of_ndec_false hq
        refine g_skip ?_
        refine g_n_blk ?_
        refine g_n_then ?_
        refine g_region ?_
        refine g_val rfl rfl rfl (fun _ _ => v_add rfl rfl (wrap_i64 (by omega))) ?_
        refine g_val rfl rfl rfl (fun _ _ => v_move rfl) ?_
        refine g_nil ?_
        refine g_n_then ?_
        exact g_againM (i := k) (k + 1) [] ((.cons rfl (.cons rfl (.cons rfl (.cons rfl .nil))))) (by decide) rfl (⟨by omega, fun i hi => by rcases Nat.lt_succ_iff_lt_or_eq.1 hi with h | h; exact hI0.2 i h; subst h; exact hq⟩) (by omega)
    · replace hc14_2 := of_decide_eq_false hc14_2
      refine g_exit ?_
      refine g_x_then ?_
      refine g_x_then ?_
      refine g_x_blk ?_
      refine g_n_then ?_
      refine g_seq ?_
      refine g_region ?_
      refine g_val rfl rfl rfl (fun _ _ => v_assign rfl) ?_
      refine g_nil ?_
      refine g_n_then ?_
      refine g_ret ?_
      have ek : k = a.length := by omega
      subst ek
      have he : a = c := ext_getDd (d := (0 : Int)) (by omega) hI0.2
      refine g_done rfl (fun w hh => (.tmp rfl .nil)) (fun w hh => ⟨?_, hh.toExt⟩)
      simp [retv, he]

set_option maxRecDepth 100000 in
set_option maxHeartbeats 4000000 in
theorem c_Eq_int (ra rb : Option (Nat × Nat)) (a c : List Int) (ca cb : Nat) (w : World) (hla : a.length ≤ 1000000) (hlb : c.length ≤ 1000000) (hra : 0 < a.length → ra ≠ none) (hrb : 0 < c.length → rb ≠ none) (hsa : segOK w (bk ra, off ra, ints a)) (hsb : segOK w (bk rb, off rb, ints c)) : Ret Try.prog 59 [slv ra a.length ca, slv rb c.length cb] w (.bool (decide (a = c))) := by
  refine g_enter (args := [slv ra a.length ca, slv rb c.length cb]) Try.func59 rfl Try.ntmps59 rfl (e := [(0, _), (1, _)]) rfl (HS.start w [] [(bk ra, off ra, ints a), (bk rb, off rb, ints c)] (segsC hsa (segsC hsb segsN))) ?_
  refine g_seq ?_
  refine g_region ?_
  refine g_val rfl rfl rfl (fun _ _ => v_assign rfl) ?_
  refine g_nil ?_
  refine g_n_then ?_
  refine g_seq ?_
  refine g_region ?_
  refine g_val rfl rfl rfl (fun _ _ => v_move rfl) ?_
  refine g_val rfl rfl rfl (fun _ _ => v_move rfl) ?_
  refine g_callv rfl rfl rfl rfl rfl rfl rfl (fun a w => Try.call130 a w) (fun w hh => c_Equal_int ra rb a c ca cb w hla hlb hra hrb (hh.seg 0 rfl) (hh.seg 1 rfl)) ?_
  refine g_val rfl rfl rfl (fun _ _ => v_assign rfl) ?_
  refine g_nil ?_
  refine g_n_then ?_
  refine g_ret ?_
  refine g_done rfl (fun w hh => (.tmp rfl .nil)) (fun w hh => ⟨?_, hh.toExt⟩)
  rfl

set_option maxRecDepth 100000 in
set_option maxHeartbeats 4000000 in
theorem c_Dup_Water (r : Option (Nat × Nat)) (l : List Water) (cp : Nat) (w : World) (hl : l.length ≤ 1000000) (hr : 0 < l.length → r ≠ none) (hs : segOK w (bk r, off r, flat encW l)) : Calls Try.prog 100 #[slv r l.length cp] w (fun en w' => ∃ q cap, en = .returned (slv q l.length cap) ∧ SlOK q l.length cap ∧ News w w' [(bk q, off q, flat encW l)]) := by
  refine g_enter (args := [slv r l.length cp]) Try.func100 rfl Try.ntmps100 rfl (e := [(0, _)]) rfl (HS.start w [] [(bk r, off r, flat encW l)] (segsC hs segsN)) ?_
  refine g_seq ?_
  refine g_region ?_
  refine g_val rfl rfl rfl (fun _ _ => v_nilSlice rfl rfl) ?_
  refine g_nil ?_
  refine g_n_then ?_
  refine g_seq ?_
  refine g_region ?_
  refine g_val rfl rfl rfl (fun _ _ => v_move rfl) ?_
  refine g_val rfl rfl rfl (fun w _ => v_lenS (Try.runUnderlying23 w) rfl) ?_
  refine g_makeCap (c := l.length) Try.underlying23 inf68 rfl rfl rfl rfl (by omega) (by omega) rfl (fun bn hbn => ?_)
  refine g_val rfl rfl rfl (fun _ _ => v_move rfl) ?_
  rcases Nat.eq_zero_or_pos l.length with h0 | h0
  · have hl0 := List.length_eq_zero_iff.1 h0
    subst hl0
    refine g_append0 Try.underlying23 infs68' rfl rfl (Nat.le_refl _) rfl ?_
    refine g_val rfl rfl rfl (fun _ _ => v_assign rfl) ?_
    refine g_nil ?_
    refine g_n_then ?_
    refine g_ret ?_
    refine g_done rfl (fun w hh => (.tmp rfl .nil)) (fun w hh => ?_)
    exact ⟨some (bn, 0), 0, rfl, ⟨by simp, Nat.le_refl _⟩, (News.nil hh.toExt).cons segOK.nil (fun h => absurd rfl h)⟩
  · refine g_appendM [] (news := flat encW l) (m := l.length) (q2 := r) Try.underlying23 inf68 rfl rfl rfl (dup_vok hl) (hr h0) h0 (flat_length encW_len l) (fun w hh => hh.seg 0 rfl) (flat_ones encW_ones l) (by simp only [maxLen]; omega) (by omega) rfl (fun q cap sp hv => ?_)
    rw [List.nil_append, Nat.zero_add] at hv
    rw [List.nil_append, Nat.zero_add]
    refine g_val rfl rfl rfl (fun _ _ => v_assign rfl) ?_
    refine g_nil ?_
    refine g_n_then ?_
    refine g_ret ?_
    refine g_done rfl (fun w hh => (.tmp rfl .nil)) (fun w hh => ?_)
    exact ⟨some q, cap, rfl, hv.sl, hh.vec [] hv.hoff hv.noneNil⟩

set_option maxRecDepth 100000 in
set_option maxHeartbeats 4000000 in
theorem c_Equal_Water (ra rb : Option (Nat × Nat)) (a c : List Water) (ca cb : Nat) (w : World) (hla : a.length ≤ 1000000) (hlb : c.length ≤ 1000000) (hra : 0 < a.length → ra ≠ none) (hrb : 0 < c.length → rb ≠ none) (hsa : segOK w (bk ra, off ra, flat encW a)) (hsb : segOK w (bk rb, off rb, flat encW c)) : Ret Try.prog 157 [slv ra a.length ca, slv rb c.length cb] w (.bool (decide (a = c))) := by
  refine g_enter (args := [slv ra a.length ca, slv rb c.length cb]) Try.func157 rfl Try.ntmps157 rfl (e := [(0, _), (1, _)]) rfl (HS.start w [] [(bk ra, off ra, flat encW a), (bk rb, off rb, flat encW c)] (segsC hsa (segsC hsb segsN))) ?_
  refine g_seq ?_
  refine g_region ?_
  refine g_val rfl rfl rfl (fun _ _ => v_assign rfl) ?_
  refine g_nil ?_
  refine g_n_then ?_
  refine g_seq ?_
  refine g_seq ?_
  refine g_region ?_
  refine g_val rfl rfl rfl (fun _ _ => v_move rfl) ?_
  refine g_val rfl rfl rfl (fun w _ => v_lenS (Try.runUnderlying23 w) rfl) ?_
  refine g_val rfl rfl rfl (fun _ _ => v_move rfl) ?_
  refine g_val rfl rfl rfl (fun w _ => v_lenS (Try.runUnderlying23 w) rfl) ?_
  refine g_val rfl rfl rfl (fun _ _ => v_neq rfl rfl) ?_
  refine g_nil ?_
  refine g_n_then ?_
  refine g_cond rfl (fun hlen => ?_) (fun hlen => ?_)
  · replace hlen := of_ndec_true hlen
    replace hlen : ¬ a.length = c.length := by omega
    refine g_seq ?_
    refine g_region ?_
    refine g_val rfl rfl rfl (fun _ _ => v_assign rfl) ?_
    refine g_nil ?_
    refine g_n_then ?_
    refine g_ret ?_
    refine g_r_then ?_
    refine g_done rfl (fun w hh => (.tmp rfl .nil)) (fun w hh => ⟨?_, hh.toExt⟩)
    have hne : a ≠ c := fun h => hlen (by rw [h])
    simp [retv, hne]
  · replace hlen := of_ndec_false hlen
    replace hlen : a.length = c.length := by omega
    refine g_skip ?_
    refine g_n_then ?_
    refine g_seq ?_
    refine g_seq ?_
    refine g_region ?_
    refine g_val rfl rfl rfl (fun _ _ => v_move rfl) ?_
    refine g_val rfl rfl rfl (fun w _ => v_lenS (Try.runUnderlying23 w) rfl) ?_
    refine g_val rfl rfl rfl (fun _ _ => v_move rfl) ?_
    refine g_nil ?_
    refine g_n_then ?_
    refine g_block ?_
    refine g_sub (e' := [(13, _), (0, _), (1, _), (12, _)]) ((.cons rfl (.cons rfl (.cons rfl (.cons rfl .nil))))) ?_
    refine g_loopM (ι := Nat) (fun k => [(13, .int .i64 (k : Nat))]) (fun k => []) (fun k => k ≤ a.length ∧ ∀ i, i < k → a.getD i (default : Water) = c.getD i (default : Water)) (fun k => a.length - k) 0 (⟨Nat.zero_le _, fun i hi => absurd hi (by omega)⟩) ?_
    intro k hI0
    refine g_seq ?_
    refine g_region ?_
    refine g_val rfl rfl rfl (fun _ _ => v_lss rfl rfl) ?_
    refine g_nil ?_
    refine g_n_then ?_
    refine g_seq ?_
    refine g_cond rfl (fun hc14_2 => ?_) (fun hc14_2 => ?_)
    · replace hc14_2 := of_decide_eq_true hc14_2
      refine g_skip ?_
      refine g_n_then ?_
      refine g_seq ?_
      refine g_block ?_
      refine g_seq ?_
      refine g_region ?_
      refine g_val rfl rfl rfl (fun _ _ => v_move rfl) ?_
      refine g_val rfl rfl rfl (fun _ _ => v_assign rfl) ?_
      refine g_nil ?_
      refine g_n_then ?_
      refine g_seq ?_
      refine g_draw none (.free 0 (.free 1 (.hoist 2 (.hoist 3 (.free 4 (.free 5 (.hoist 6 (.hoist 7 (.free 8 .done))))))))) _ rfl (by decide +kernel) (fun w k hh => hh.draw k) (fun w hh => hh) ?_
      refine p_free rfl rfl rfl rfl (fun _ _ => v_move rfl) ?_
      refine p_free rfl rfl rfl rfl (fun _ _ => v_move rfl) ?_
      refine p_hoist rfl rfl rfl rfl (fun w _ => v_indexAddr k (Try.runUnderlying23 w) (Try.sizeOf68 w) rfl rfl rfl (by omega) (hra (by omega))) ?_
      refine p_hoist rfl rfl rfl rfl (fun w hh => v_loadAgg (vs := encW _) (Try.isAgg68 w) (Try.sizeOf68 w) rfl (hh.elem (j := k) encW_len 0 rfl (by omega))) ?_
      refine p_free rfl rfl rfl rfl (fun _ _ => v_move rfl) ?_
      refine p_free rfl rfl rfl rfl (fun _ _ => v_move rfl) ?_
      refine p_hoist rfl rfl rfl rfl (fun w _ => v_indexAddr k (Try.runUnderlying23 w) (Try.sizeOf68 w) rfl rfl rfl (by omega) (hrb (by omega))) ?_
      refine p_hoist rfl rfl rfl rfl (fun w hh => v_loadAgg (vs := encW _) (Try.isAgg68 w) (Try.sizeOf68 w) rfl (hh.elem (j := k) encW_len 1 rfl (by omega))) ?_
      refine p_free rfl rfl rfl rfl (fun w _ => v_neqAgg (eq68 _ _ w) eqg68 rfl rfl) ?_
      refine p_done ?_
      refine g_n_then ?_
      refine g_cond rfl (fun hq => ?_) (fun hq => ?_)
      · replace hq := of_ndec_true hq
        refine g_seq ?_
        refine g_region ?_
        refine g_val rfl rfl rfl (fun _ _ => v_assign rfl) ?_
        refine g_nil ?_
        refine g_n_then ?_
        refine g_ret ?_
        refine g_r_blk ?_
        refine g_r_then ?_
        refine g_r_then ?_
        refine g_r_blk ?_
        refine g_r_then ?_
        refine g_done rfl (fun w hh => (.tmp rfl .nil)) (fun w hh => ⟨?_, hh.toExt⟩)
        have hne : a ≠ c := fun h => hq (by rw [h])
        simp [retv, hne]
      · replace hq := of_ndec_false hq
        refine g_skip ?_
        refine g_n_blk ?_
        refine g_n_then ?_
        refine g_region ?_
        refine g_val rfl rfl rfl (fun _ _ => v_add rfl rfl (wrap_i64 (by omega))) ?_
        refine g_val rfl rfl rfl (fun _ _ => v_move rfl) ?_
        refine g_nil ?_
        refine g_n_then ?_
        exact g_againM (i := k) (k + 1) [] ((.cons rfl (.cons rfl (.cons rfl (.cons rfl .nil))))) (by decide) rfl (⟨by omega, fun i hi => by rcases Nat.lt_succ_iff_lt_or_eq.1 hi with h | h; exact hI0.2 i h; subst h; exact hq⟩) (by omega)
    · replace hc14_2 := of_decide_eq_false hc14_2
      refine g_exit ?_
      refine g_x_then ?_
      refine g_x_then ?_
      refine g_x_blk ?_
      refine g_n_then ?_
      refine g_seq ?_
      refine g_region ?_
      refine g_val rfl rfl rfl (fun _ _ => v_assign rfl) ?_
      refine g_nil ?_
      refine g_n_then ?_
      refine g_ret ?_
      have ek : k = a.length := by omega
      subst ek
      have he : a = c := ext_getDd (d := (default : Water)) (by omega) hI0.2
      refine g_done rfl (fun w hh => (.tmp rfl .nil)) (fun w hh => ⟨?_, hh.toExt⟩)
      simp [retv, he]

set_option maxRecDepth 100000 in
set_option maxHeartbeats 4000000 in
theorem c_Eq_Water (ra rb : Option (Nat × Nat)) (a c : List Water) (ca cb : Nat) (w : World) (hla : a.length ≤ 1000000) (hlb : c.length ≤ 1000000) (hra : 0 < a.length → ra ≠ none) (hrb : 0 < c.length → rb ≠ none) (hsa : segOK w (bk ra, off ra, flat encW a)) (hsb : segOK w (bk rb, off rb, flat encW c)) : Ret Try.prog 112 [slv ra a.length ca, slv rb c.length cb] w (.bool (decide (a = c))) := by
  refine g_enter (args := [slv ra a.length ca, slv rb c.length cb]) Try.func112 rfl Try.ntmps112 rfl (e := [(0, _), (1, _)]) rfl (HS.start w [] [(bk ra, off ra, flat encW a), (bk rb, off rb, flat encW c)] (segsC hsa (segsC hsb segsN))) ?_
  refine g_seq ?_
  refine g_region ?_
  refine g_val rfl rfl rfl (fun _ _ => v_assign rfl) ?_
  refine g_nil ?_
  refine g_n_then ?_
  refine g_seq ?_
  refine g_region ?_
  refine g_val rfl rfl rfl (fun _ _ => v_move rfl) ?_
  refine g_val rfl rfl rfl (fun _ _ => v_move rfl) ?_
  refine g_callv rfl rfl rfl rfl rfl rfl rfl (fun a w => Try.call157 a w) (fun w hh => c_Equal_Water ra rb a c ca cb w hla hlb hra hrb (hh.seg 0 rfl) (hh.seg 1 rfl)) ?_
  refine g_val rfl rfl rfl (fun _ _ => v_assign rfl) ?_
  refine g_nil ?_
  refine g_n_then ?_
  refine g_ret ?_
  refine g_done rfl (fun w hh => (.tmp rfl .nil)) (fun w hh => ⟨?_, hh.toExt⟩)
  rfl

set_option maxRecDepth 100000 in
set_option maxHeartbeats 4000000 in
theorem c_Dup_Sill (r : Option (Nat × Nat)) (l : List Sill) (cp : Nat) (w : World) (hl : l.length ≤ 1000000) (hr : 0 < l.length → r ≠ none) (hs : segOK w (bk r, off r, flat encS l)) : Calls Try.prog 101 #[slv r l.length cp] w (fun en w' => ∃ q cap, en = .returned (slv q l.length cap) ∧ SlOK q l.length cap ∧ News w w' [(bk q, off q, flat encS l)]) := by
  refine g_enter (args := [slv r l.length cp]) Try.func101 rfl Try.ntmps101 rfl (e := [(0, _)]) rfl (HS.start w [] [(bk r, off r, flat encS l)] (segsC hs segsN)) ?_
  refine g_seq ?_
  refine g_region ?_
  refine g_val rfl rfl rfl (fun _ _ => v_nilSlice rfl rfl) ?_
  refine g_nil ?_
  refine g_n_then ?_
  refine g_seq ?_
  refine g_region ?_
  refine g_val rfl rfl rfl (fun _ _ => v_move rfl) ?_
  refine g_val rfl rfl rfl (fun w _ => v_lenS (Try.runUnderlying27 w) rfl) ?_
  refine g_makeCap (c := l.length) Try.underlying27 inf51 rfl rfl rfl rfl (by omega) (by omega) rfl (fun bn hbn => ?_)
  refine g_val rfl rfl rfl (fun _ _ => v_move rfl) ?_
  rcases Nat.eq_zero_or_pos l.length with h0 | h0
  · have hl0 := List.length_eq_zero_iff.1 h0
    subst hl0
    refine g_append0 Try.underlying27 infs51' rfl rfl (Nat.le_refl _) rfl ?_
    refine g_val rfl rfl rfl (fun _ _ => v_assign rfl) ?_
    refine g_nil ?_
    refine g_n_then ?_
    refine g_ret ?_
    refine g_done rfl (fun w hh => (.tmp rfl .nil)) (fun w hh => ?_)
    exact ⟨some (bn, 0), 0, rfl, ⟨by simp, Nat.le_refl _⟩, (News.nil hh.toExt).cons segOK.nil (fun h => absurd rfl h)⟩
  · refine g_appendM [] (news := flat encS l) (m := l.length) (q2 := r) Try.underlying27 inf51 rfl rfl rfl (dup_vok hl) (hr h0) h0 (flat_length encS_len l) (fun w hh => hh.seg 0 rfl) (flat_ones encS_ones l) (by simp only [maxLen]; omega) (by omega) rfl (fun q cap sp hv => ?_)
    rw [List.nil_append, Nat.zero_add] at hv
    rw [List.nil_append, Nat.zero_add]
    refine g_val rfl rfl rfl (fun _ _ => v_assign rfl) ?_
    refine g_nil ?_
    refine g_n_then ?_
    refine g_ret ?_
    refine g_done rfl (fun w hh => (.tmp rfl .nil)) (fun w hh => ?_)
    exact ⟨some q, cap, rfl, hv.sl, hh.vec [] hv.hoff hv.noneNil⟩

set_option maxRecDepth 100000 in
set_option maxHeartbeats 4000000 in
theorem c_Equal_Sill (ra rb : Option (Nat × Nat)) (a c : List Sill) (ca cb : Nat) (w : World) (hla : a.length ≤ 1000000) (hlb : c.length ≤ 1000000) (hra : 0 < a.length → ra ≠ none) (hrb : 0 < c.length → rb ≠ none) (hsa : segOK w (bk ra, off ra, flat encS a)) (hsb : segOK w (bk rb, off rb, flat encS c)) : Ret Try.prog 158 [slv ra a.length ca, slv rb c.length cb] w (.bool (decide (a = c))) := by
  refine g_enter (args := [slv ra a.length ca, slv rb c.length cb]) Try.func158 rfl Try.ntmps158 rfl (e := [(0, _), (1, _)]) rfl (HS.start w [] [(bk ra, off ra, flat encS a), (bk rb, off rb, flat encS c)] (segsC hsa (segsC hsb segsN))) ?_
  refine g_seq ?_
  refine g_region ?_
  refine g_val rfl rfl rfl (fun _ _ => v_assign rfl) ?_
  refine g_nil ?_
  refine g_n_then ?_
  refine g_seq ?_
  refine g_seq ?_
  refine g_region ?_
  refine g_val rfl rfl rfl (fun _ _ => v_move rfl) ?_
  refine g_val rfl rfl rfl (fun w _ => v_lenS (Try.runUnderlying27 w) rfl) ?_
  refine g_val rfl rfl rfl (fun _ _ => v_move rfl) ?_
  refine g_val rfl rfl rfl (fun w _ => v_lenS (Try.runUnderlying27 w) rfl) ?_
  refine g_val rfl rfl rfl (fun _ _ => v_neq rfl rfl) ?_
  refine g_nil ?_
  refine g_n_then ?_
  refine g_cond rfl (fun hlen => ?_) (fun hlen => ?_)
  · replace hlen := of_ndec_true hlen
    replace hlen : ¬ a.length = c.length := by omega
    refine g_seq ?_
    refine g_region ?_
    refine g_val rfl rfl rfl (fun _ _ => v_assign rfl) ?_
    refine g_nil ?_
    refine g_n_then ?_
    refine g_ret ?_
    refine g_r_then ?_
    refine g_done rfl (fun w hh => (.tmp rfl .nil)) (fun w hh => ⟨?_, hh.toExt⟩)
    have hne : a ≠ c := fun h => hlen (by rw [h])
    simp [retv, hne]
  · replace hlen := of_ndec_false hlen
    replace hlen : a.length = c.length := by omega
    refine g_skip ?_
    refine g_n_then ?_
    refine g_seq ?_
    refine g_seq ?_
    refine g_region ?_
    refine g_val rfl rfl rfl (fun _ _ => v_move rfl) ?_
    refine g_val rfl rfl rfl (fun w _ => v_lenS (Try.runUnderlying27 w) rfl) ?_
    refine g_val rfl rfl rfl (fun _ _ => v_move rfl) ?_
    refine g_nil ?_
    refine g_n_then ?_
    refine g_block ?_
    refine g_sub (e' := [(13, _), (0, _), (1, _), (12, _)]) ((.cons rfl (.cons rfl (.cons rfl (.cons rfl .nil))))) ?_
    refine g_loopM (ι := Nat) (fun k => [(13, .int .i64 (k : Nat))]) (fun k => []) (fun k => k ≤ a.length ∧ ∀ i, i < k → a.getD i (default : Sill) = c.getD i (default : Sill)) (fun k => a.length - k) 0 (⟨Nat.zero_le _, fun i hi => absurd hi (by omega)⟩) ?_
    intro k hI0
    refine g_seq ?_
    refine g_region ?_
    refine g_val rfl rfl rfl (fun _ _ => v_lss rfl rfl) ?_
    refine g_nil ?_
    refine g_n_then ?_
    refine g_seq ?_
    refine g_cond rfl (fun hc14_2 => ?_) (fun hc14_2 => ?_)
    · replace hc14_2 := of_decide_eq_true hc14_2
      refine g_skip ?_
      refine g_n_then ?_
      refine g_seq ?_
      refine g_block ?_
      refine g_seq ?_
      refine g_region ?_
      refine g_val rfl rfl rfl (fun _ _ => v_move rfl) ?_
      refine g_val rfl rfl rfl (fun _ _ => v_assign rfl) ?_
      refine g_nil ?_
      refine g_n_then ?_
      refine g_seq ?_
      refine g_draw none (.free 0 (.free 1 (.hoist 2 (.hoist 3 (.free 4 (.free 5 (.hoist 6 (.hoist 7 (.free 8 .done))))))))) _ rfl (by decide +kernel) (fun w k hh => hh.draw k) (fun w hh => hh) ?_
      refine p_free rfl rfl rfl rfl (fun _ _ => v_move rfl) ?_
      refine p_free rfl rfl rfl rfl (fun _ _ => v_move rfl) ?_
      refine p_hoist rfl rfl rfl rfl (fun w _ => v_indexAddr k (Try.runUnderlying27 w) (Try.sizeOf51 w) rfl rfl rfl (by omega) (hra (by omega))) ?_
      refine p_hoist rfl rfl rfl rfl (fun w hh => v_loadAgg (vs := encS _) (Try.isAgg51 w) (Try.sizeOf51 w) rfl (hh.elem (j := k) encS_len 0 rfl (by omega))) ?_
      refine p_free rfl rfl rfl rfl (fun _ _ => v_move rfl) ?_
      refine p_free rfl rfl rfl rfl (fun _ _ => v_move rfl) ?_
      refine p_hoist rfl rfl rfl rfl (fun w _ => v_indexAddr k (Try.runUnderlying27 w) (Try.sizeOf51 w) rfl rfl rfl (by omega) (hrb (by omega))) ?_
      refine p_hoist rfl rfl rfl rfl (fun w hh => v_loadAgg (vs := encS _) (Try.isAgg51 w) (Try.sizeOf51 w) rfl (hh.elem (j := k) encS_len 1 rfl (by omega))) ?_
      refine p_free rfl rfl rfl rfl (fun w _ => v_neqAgg (eq51 _ _ w) eqg51 rfl rfl) ?_
      refine p_done ?_
      refine g_n_then ?_
      refine g_cond rfl (fun hq => ?_) (fun hq => ?_)
      · replace hq := of_ndec_true hq
        refine g_seq ?_
        refine g_region ?_
        refine g_val rfl rfl rfl (fun _ _ => v_assign rfl) ?_
        refine g_nil ?_
        refine g_n_then ?_
        refine g_ret ?_
        refine g_r_blk ?_
        refine g_r_then ?_
        refine g_r_then ?_
        refine g_r_blk ?_
        refine g_r_then ?_
        refine g_done rfl (fun w hh => (.tmp rfl .nil)) (fun w hh => ⟨?_, hh.toExt⟩)
        have hne : a ≠ c := fun h => hq (by rw [h])
        simp [retv, hne]
      · replace hq := of_ndec_false hq
        refine g_skip ?_
        refine g_n_blk ?_
        refine g_n_then ?_
        refine g_region ?_
        refine g_val rfl rfl rfl (fun _ _ => v_add rfl rfl (wrap_i64 (by omega))) ?_
        refine g_val rfl rfl rfl (fun _ _ => v_move rfl) ?_
        refine g_nil ?_
        refine g_n_then ?_
        exact g_againM (i := k) (k + 1) [] ((.cons rfl (.cons rfl (.cons rfl (.cons rfl .nil))))) (by decide) rfl (⟨by omega, fun i hi => by rcases Nat.lt_succ_iff_lt_or_eq.1 hi with h | h; exact hI0.2 i h; subst h; exact hq⟩) (by omega)
    · replace hc14_2 := of_decide_eq_false hc14_2
      refine g_exit ?_
      refine g_x_then ?_
      refine g_x_then ?_
      refine g_x_blk ?_
      refine g_n_then ?_
      refine g_seq ?_
      refine g_region ?_
      refine g_val rfl rfl rfl (fun _ _ => v_assign rfl) ?_
      refine g_nil ?_
      refine g_n_then ?_
      refine g_ret ?_
      have ek : k = a.length := by omega
      subst ek
      have he : a = c := ext_getDd (d := (default : Sill)) (by omega) hI0.2
      refine g_done rfl (fun w hh => (.tmp rfl .nil)) (fun w hh => ⟨?_, hh.toExt⟩)
      simp [retv, he]

set_option maxRecDepth 100000 in
set_option maxHeartbeats 4000000 in
theorem c_Eq_Sill (ra rb : Option (Nat × Nat)) (a c : List Sill) (ca cb : Nat) (w : World) (hla : a.length ≤ 1000000) (hlb : c.length ≤ 1000000) (hra : 0 < a.length → ra ≠ none) (hrb : 0 < c.length → rb ≠ none) (hsa : segOK w (bk ra, off ra, flat encS a)) (hsb : segOK w (bk rb, off rb, flat encS c)) : Ret Try.prog 113 [slv ra a.length ca, slv rb c.length cb] w (.bool (decide (a = c))) := by
  refine g_enter (args := [slv ra a.length ca, slv rb c.length cb]) Try.func113 rfl Try.ntmps113 rfl (e := [(0, _), (1, _)]) rfl (HS.start w [] [(bk ra, off ra, flat encS a), (bk rb, off rb, flat encS c)] (segsC hsa (segsC hsb segsN))) ?_
  refine g_seq ?_
  refine g_region ?_
  refine g_val rfl rfl rfl (fun _ _ => v_assign rfl) ?_
  refine g_nil ?_
  refine g_n_then ?_
  refine g_seq ?_
  refine g_region ?_
  refine g_val rfl rfl rfl (fun _ _ => v_move rfl) ?_
  refine g_val rfl rfl rfl (fun _ _ => v_move rfl) ?_
  refine g_callv rfl rfl rfl rfl rfl rfl rfl (fun a w => Try.call158 a w) (fun w hh => c_Equal_Sill ra rb a c ca cb w hla hlb hra hrb (hh.seg 0 rfl) (hh.seg 1 rfl)) ?_
  refine g_val rfl rfl rfl (fun _ _ => v_assign rfl) ?_
  refine g_nil ?_
  refine g_n_then ?_
  refine g_ret ?_
  refine g_done rfl (fun w hh => (.tmp rfl .nil)) (fun w hh => ⟨?_, hh.toExt⟩)
  rfl

set_option maxRecDepth 100000 in
set_option maxHeartbeats 4000000 in
theorem c_Dup_Look (r : Option (Nat × Nat)) (l : List Look) (cp : Nat) (w : World) (hl : l.length ≤ 1000000) (hr : 0 < l.length → r ≠ none) (hs : segOK w (bk r, off r, flat encL l)) : Calls Try.prog 53 #[slv r l.length cp] w (fun en w' => ∃ q cap, en = .returned (slv q l.length cap) ∧ SlOK q l.length cap ∧ News w w' [(bk q, off q, flat encL l)]) := by
  refine g_enter (args := [slv r l.length cp]) Try.func53 rfl Try.ntmps53 rfl (e := [(0, _)]) rfl (HS.start w [] [(bk r, off r, flat encL l)] (segsC hs segsN)) ?_
  refine g_seq ?_
  refine g_region ?_
  refine g_val rfl rfl rfl (fun _ _ => v_nilSlice rfl rfl) ?_
  refine g_nil ?_
  refine g_n_then ?_
  refine g_seq ?_
  refine g_region ?_
  refine g_val rfl rfl rfl (fun _ _ => v_move rfl) ?_
  refine g_val rfl rfl rfl (fun w _ => v_lenS (Try.runUnderlying35 w) rfl) ?_
  refine g_makeCap (c := l.length) Try.underlying35 inf89 rfl rfl rfl rfl (by omega) (by omega) rfl (fun bn hbn => ?_)
  refine g_val rfl rfl rfl (fun _ _ => v_move rfl) ?_
  rcases Nat.eq_zero_or_pos l.length with h0 | h0
  · have hl0 := List.length_eq_zero_iff.1 h0
    subst hl0
    refine g_append0 Try.underlying35 infs89' rfl rfl (Nat.le_refl _) rfl ?_
    refine g_val rfl rfl rfl (fun _ _ => v_assign rfl) ?_
    refine g_nil ?_
    refine g_n_then ?_
    refine g_ret ?_
    refine g_done rfl (fun w hh => (.tmp rfl .nil)) (fun w hh => ?_)
    exact ⟨some (bn, 0), 0, rfl, ⟨by simp, Nat.le_refl _⟩, (News.nil hh.toExt).cons segOK.nil (fun h => absurd rfl h)⟩
  · refine g_appendM [] (news := flat encL l) (m := l.length) (q2 := r) Try.underlying35 inf89 rfl rfl rfl (dup_vok hl) (hr h0) h0 (flat_length encL_len l) (fun w hh => hh.seg 0 rfl) (flat_ones encL_ones l) (by simp only [maxLen]; omega) (by omega) rfl (fun q cap sp hv => ?_)
    rw [List.nil_append, Nat.zero_add] at hv
    rw [List.nil_append, Nat.zero_add]
    refine g_val rfl rfl rfl (fun _ _ => v_assign rfl) ?_
    refine g_nil ?_
    refine g_n_then ?_
    refine g_ret ?_
    refine g_done rfl (fun w hh => (.tmp rfl .nil)) (fun w hh => ?_)
    exact ⟨some q, cap, rfl, hv.sl, hh.vec [] hv.hoff hv.noneNil⟩

set_option maxRecDepth 100000 in
set_option maxHeartbeats 4000000 in
theorem c_Equal_Look (ra rb : Option (Nat × Nat)) (a c : List Look) (ca cb : Nat) (w : World) (hla : a.length ≤ 1000000) (hlb : c.length ≤ 1000000) (hra : 0 < a.length → ra ≠ none) (hrb : 0 < c.length → rb ≠ none) (hsa : segOK w (bk ra, off ra, flat encL a)) (hsb : segOK w (bk rb, off rb, flat encL c)) : Ret Try.prog 131 [slv ra a.length ca, slv rb c.length cb] w (.bool (decide (a = c))) := by
  refine g_enter (args := [slv ra a.length ca, slv rb c.length cb]) Try.func131 rfl Try.ntmps131 rfl (e := [(0, _), (1, _)]) rfl (HS.start w [] [(bk ra, off ra, flat encL a), (bk rb, off rb, flat encL c)] (segsC hsa (segsC hsb segsN))) ?_
  refine g_seq ?_
  refine g_region ?_
  refine g_val rfl rfl rfl (fun _ _ => v_assign rfl) ?_
  refine g_nil ?_
  refine g_n_then ?_
  refine g_seq ?_
  refine g_seq ?_
  refine g_region ?_
  refine g_val rfl rfl rfl (fun _ _ => v_move rfl) ?_
  refine g_val rfl rfl rfl (fun w _ => v_lenS (Try.runUnderlying35 w) rfl) ?_
  refine g_val rfl rfl rfl (fun _ _ => v_move rfl) ?_
  refine g_val rfl rfl rfl (fun w _ => v_lenS (Try.runUnderlying35 w) rfl) ?_
  refine g_val rfl rfl rfl (fun _ _ => v_neq rfl rfl) ?_
  refine g_nil ?_
  refine g_n_then ?_
  refine g_cond rfl (fun hlen => ?_) (fun hlen => ?_)
  · replace hlen := of_ndec_true hlen
    replace hlen : ¬ a.length = c.length := by omega
    refine g_seq ?_
    refine g_region ?_
    refine g_val rfl rfl rfl (fun _ _ => v_assign rfl) ?_
    refine g_nil ?_
    refine g_n_then ?_
    refine g_ret ?_
    refine g_r_then ?_
    refine g_done rfl (fun w hh => (.tmp rfl .nil)) (fun w hh => ⟨?_, hh.toExt⟩)
    have hne : a ≠ c := fun h => hlen (by rw [h])
    simp [retv, hne]
  · replace hlen := of_ndec_false hlen
    replace hlen : a.length = c.length := by omega
    refine g_skip ?_
    refine g_n_then ?_
    refine g_seq ?_
    refine g_seq ?_
    refine g_region ?_
    refine g_val rfl rfl rfl (fun _ _ => v_move rfl) ?_
    refine g_val rfl rfl rfl (fun w _ => v_lenS (Try.runUnderlying35 w) rfl) ?_
    refine g_val rfl rfl rfl (fun _ _ => v_move rfl) ?_
    refine g_nil ?_
    refine g_n_then ?_
    refine g_block ?_
    refine g_sub (e' := [(13, _), (0, _), (1, _), (12, _)]) ((.cons rfl (.cons rfl (.cons rfl (.cons rfl .nil))))) ?_
    refine g_loopM (ι := Nat) (fun k => [(13, .int .i64 (k : Nat))]) (fun k => []) (fun k => k ≤ a.length ∧ ∀ i, i < k → a.getD i (default : Look) = c.getD i (default : Look)) (fun k => a.length - k) 0 (⟨Nat.zero_le _, fun i hi => absurd hi (by omega)⟩) ?_
    intro k hI0
    refine g_seq ?_
    refine g_region ?_
    refine g_val rfl rfl rfl (fun _ _ => v_lss rfl rfl) ?_
    refine g_nil ?_
    refine g_n_then ?_
    refine g_seq ?_
    refine g_cond rfl (fun hc14_2 => ?_) (fun hc14_2 => ?_)
    · replace hc14_2 := of_decide_eq_true hc14_2
      refine g_skip ?_
      refine g_n_then ?_
      refine g_seq ?_
      refine g_block ?_
      refine g_seq ?_
      refine g_region ?_
      refine g_val rfl rfl rfl (fun _ _ => v_move rfl) ?_
      refine g_val rfl rfl rfl (fun _ _ => v_assign rfl) ?_
      refine g_nil ?_
      refine g_n_then ?_
      refine g_seq ?_
      refine g_draw none (.free 0 (.free 1 (.hoist 2 (.hoist 3 (.free 4 (.free 5 (.hoist 6 (.hoist 7 (.free 8 .done))))))))) _ rfl (by decide +kernel) (fun w k hh => hh.draw k) (fun w hh => hh) ?_
      refine p_free rfl rfl rfl rfl (fun _ _ => v_move rfl) ?_
      refine p_free rfl rfl rfl rfl (fun _ _ => v_move rfl) ?_
      refine p_hoist rfl rfl rfl rfl (fun w _ => v_indexAddr k (Try.runUnderlying35 w) (Try.sizeOf89 w) rfl rfl rfl (by omega) (hra (by omega))) ?_
      refine p_hoist rfl rfl rfl rfl (fun w hh => v_loadAgg (vs := encL _) (Try.isAgg89 w) (Try.sizeOf89 w) rfl (hh.elem (j := k) encL_len 0 rfl (by omega))) ?_
      refine p_free rfl rfl rfl rfl (fun _ _ => v_move rfl) ?_
      refine p_free rfl rfl rfl rfl (fun _ _ => v_move rfl) ?_
      refine p_hoist rfl rfl rfl rfl (fun w _ => v_indexAddr k (Try.runUnderlying35 w) (Try.sizeOf89 w) rfl rfl rfl (by omega) (hrb (by omega))) ?_
      refine p_hoist rfl rfl rfl rfl (fun w hh => v_loadAgg (vs := encL _) (Try.isAgg89 w) (Try.sizeOf89 w) rfl (hh.elem (j := k) encL_len 1 rfl (by omega))) ?_
      refine p_free rfl rfl rfl rfl (fun w _ => v_neqAgg (eq89 _ _ w) eqg89 rfl rfl) ?_
      refine p_done ?_
      refine g_n_then ?_
      refine g_cond rfl (fun hq => ?_) (fun hq => ?_)
      · replace hq := of_ndec_true hq
        refine g_seq ?_
        refine g_region ?_
        refine g_val rfl rfl rfl (fun _ _ => v_assign rfl) ?_
        refine g_nil ?_
        refine g_n_then ?_
        refine g_ret ?_
        refine g_r_blk ?_
        refine g_r_then ?_
        refine g_r_then ?_
        refine g_r_blk ?_
        refine g_r_then ?_
        refine g_done rfl (fun w hh => (.tmp rfl .nil)) (fun w hh => ⟨?_, hh.toExt⟩)
        have hne : a ≠ c := fun h => hq (by rw [h])
        simp [retv, hne]
      · replace hq := of_ndec_false hq
        refine g_skip ?_
        refine g_n_blk ?_
        refine g_n_then ?_
        refine g_region ?_
        refine g_val rfl rfl rfl (fun _ _ => v_add rfl rfl (wrap_i64 (by omega))) ?_
        refine g_val rfl rfl rfl (fun _ _ => v_move rfl) ?_
        refine g_nil ?_
        refine g_n_then ?_
        exact g_againM (i := k) (k + 1) [] ((.cons rfl (.cons rfl (.cons rfl (.cons rfl .nil))))) (by decide) rfl (⟨by omega, fun i hi => by rcases Nat.lt_succ_iff_lt_or_eq.1 hi with h | h; exact hI0.2 i h; subst h; exact hq⟩) (by omega)
    · replace hc14_2 := of_decide_eq_false hc14_2
      refine g_exit ?_
      refine g_x_then ?_
      refine g_x_then ?_
      refine g_x_blk ?_
      refine g_n_then ?_
      refine g_seq ?_
      refine g_region ?_
      refine g_val rfl rfl rfl (fun _ _ => v_assign rfl) ?_
      refine g_nil ?_
      refine g_n_then ?_
      refine g_ret ?_
      have ek : k = a.length := by omega
      subst ek
      have he : a = c := ext_getDd (d := (default : Look)) (by omega) hI0.2
      refine g_done rfl (fun w hh => (.tmp rfl .nil)) (fun w hh => ⟨?_, hh.toExt⟩)
      simp [retv, he]

set_option maxRecDepth 100000 in
set_option maxHeartbeats 4000000 in
theorem c_Eq_Look (ra rb : Option (Nat × Nat)) (a c : List Look) (ca cb : Nat) (w : World) (hla : a.length ≤ 1000000) (hlb : c.length ≤ 1000000) (hra : 0 < a.length → ra ≠ none) (hrb : 0 < c.length → rb ≠ none) (hsa : segOK w (bk ra, off ra, flat encL a)) (hsb : segOK w (bk rb, off rb, flat encL c)) : Ret Try.prog 60 [slv ra a.length ca, slv rb c.length cb] w (.bool (decide (a = c))) := by
  refine g_enter (args := [slv ra a.length ca, slv rb c.length cb]) Try.func60 rfl Try.ntmps60 rfl (e := [(0, _), (1, _)]) rfl (HS.start w [] [(bk ra, off ra, flat encL a), (bk rb, off rb, flat encL c)] (segsC hsa (segsC hsb segsN))) ?_
  refine g_seq ?_
  refine g_region ?_
  refine g_val rfl rfl rfl (fun _ _ => v_assign rfl) ?_
  refine g_nil ?_
  refine g_n_then ?_
  refine g_seq ?_
  refine g_region ?_
  refine g_val rfl rfl rfl (fun _ _ => v_move rfl) ?_
  refine g_val rfl rfl rfl (fun _ _ => v_move rfl) ?_
  refine g_callv rfl rfl rfl rfl rfl rfl rfl (fun a w => Try.call131 a w) (fun w hh => c_Equal_Look ra rb a c ca cb w hla hlb hra hrb (hh.seg 0 rfl) (hh.seg 1 rfl)) ?_
  refine g_val rfl rfl rfl (fun _ _ => v_assign rfl) ?_
  refine g_nil ?_
  refine g_n_then ?_
  refine g_ret ?_
  refine g_done rfl (fun w hh => (.tmp rfl .nil)) (fun w hh => ⟨?_, hh.toExt⟩)
  rfl

set_option maxRecDepth 100000 in
set_option maxHeartbeats 4000000 in
theorem c_Equal_Span (ra rb : Option (Nat × Nat)) (a c : List Span) (ca cb : Nat) (w : World) (hla : a.length ≤ 1000000) (hlb : c.length ≤ 1000000) (hra : 0 < a.length → ra ≠ none) (hrb : 0 < c.length → rb ≠ none) (hsa : segOK w (bk ra, off ra, flat encP a)) (hsb : segOK w (bk rb, off rb, flat encP c)) : Ret Try.prog 121 [slv ra a.length ca, slv rb c.length cb] w (.bool (decide (a = c))) := by
  refine g_enter (args := [slv ra a.length ca, slv rb c.length cb]) Try.func121 rfl Try.ntmps121 rfl (e := [(0, _), (1, _)]) rfl (HS.start w [] [(bk ra, off ra, flat encP a), (bk rb, off rb, flat encP c)] (segsC hsa (segsC hsb segsN))) ?_
  refine g_seq ?_
  refine g_region ?_
  refine g_val rfl rfl rfl (fun _ _ => v_assign rfl) ?_
  refine g_nil ?_
  refine g_n_then ?_
  refine g_seq ?_
  refine g_seq ?_
  refine g_region ?_
  refine g_val rfl rfl rfl (fun _ _ => v_move rfl) ?_
  refine g_val rfl rfl rfl (fun w _ => v_lenS (Try.runUnderlying77 w) rfl) ?_
  refine g_val rfl rfl rfl (fun _ _ => v_move rfl) ?_
  refine g_val rfl rfl rfl (fun w _ => v_lenS (Try.runUnderlying77 w) rfl) ?_
  refine g_val rfl rfl rfl (fun _ _ => v_neq rfl rfl) ?_
  refine g_nil ?_
  refine g_n_then ?_
  refine g_cond rfl (fun hlen => ?_) (fun hlen => ?_)
  · replace hlen := of_ndec_true hlen
    replace hlen : ¬ a.length = c.length := by omega
    refine g_seq ?_
    refine g_region ?_
    refine g_val rfl rfl rfl (fun _ _ => v_assign rfl) ?_
    refine g_nil ?_
    refine g_n_then ?_
    refine g_ret ?_
    refine g_r_then ?_
    refine g_done rfl (fun w hh => (.tmp rfl .nil)) (fun w hh => ⟨?_, hh.toExt⟩)
    have hne : a ≠ c := fun h => hlen (by rw [h])
    simp [retv, hne]
  · replace hlen := of_ndec_false hlen
    replace hlen : a.length = c.length := by omega
    refine g_skip ?_
    refine g_n_then ?_
    refine g_seq ?_
    refine g_seq ?_
    refine g_region ?_
    refine g_val rfl rfl rfl (fun _ _ => v_move rfl) ?_
    refine g_val rfl rfl rfl (fun w _ => v_lenS (Try.runUnderlying77 w) rfl) ?_
    refine g_val rfl rfl rfl (fun _ _ => v_move rfl) ?_
    refine g_nil ?_
    refine g_n_then ?_
    refine g_block ?_
    refine g_sub (e' := [(13, _), (0, _), (1, _), (12, _)]) ((.cons rfl (.cons rfl (.cons rfl (.cons rfl .nil))))) ?_
    refine g_loopM (ι := Nat) (fun k => [(13, .int .i64 (k : Nat))]) (fun k => []) (fun k => k ≤ a.length ∧ ∀ i, i < k → a.getD i (default : Span) = c.getD i (default : Span)) (fun k => a.length - k) 0 (⟨Nat.zero_le _, fun i hi => absurd hi (by omega)⟩) ?_
    intro k hI0
    refine g_seq ?_
    refine g_region ?_
    refine g_val rfl rfl rfl (fun _ _ => v_lss rfl rfl) ?_
    refine g_nil ?_
    refine g_n_then ?_
    refine g_seq ?_
    refine g_cond rfl (fun hc14_2 => ?_) (fun hc14_2 => ?_)
    · replace hc14_2 := of_decide_eq_true hc14_2
      refine g_skip ?_
      refine g_n_then ?_
      refine g_seq ?_
      refine g_block ?_
      refine g_seq ?_
      refine g_region ?_
      refine g_val rfl rfl rfl (fun _ _ => v_move rfl) ?_
      refine g_val rfl rfl rfl (fun _ _ => v_assign rfl) ?_
      refine g_nil ?_
      refine g_n_then ?_
      refine g_seq ?_
      refine g_draw none (.free 0 (.free 1 (.hoist 2 (.hoist 3 (.free 4 (.free 5 (.hoist 6 (.hoist 7 (.free 8 .done))))))))) _ rfl (by decide +kernel) (fun w k hh => hh.draw k) (fun w hh => hh) ?_
      refine p_free rfl rfl rfl rfl (fun _ _ => v_move rfl) ?_
      refine p_free rfl rfl rfl rfl (fun _ _ => v_move rfl) ?_
      refine p_hoist rfl rfl rfl rfl (fun w _ => v_indexAddr k (Try.runUnderlying77 w) (Try.sizeOf25 w) rfl rfl rfl (by omega) (hra (by omega))) ?_
      refine p_hoist rfl rfl rfl rfl (fun w hh => v_loadAgg (vs := encP _) (Try.isAgg25 w) (Try.sizeOf25 w) rfl (hh.elem (j := k) encP_len 0 rfl (by omega))) ?_
      refine p_free rfl rfl rfl rfl (fun _ _ => v_move rfl) ?_
      refine p_free rfl rfl rfl rfl (fun _ _ => v_move rfl) ?_
      refine p_hoist rfl rfl rfl rfl (fun w _ => v_indexAddr k (Try.runUnderlying77 w) (Try.sizeOf25 w) rfl rfl rfl (by omega) (hrb (by omega))) ?_
      refine p_hoist rfl rfl rfl rfl (fun w hh => v_loadAgg (vs := encP _) (Try.isAgg25 w) (Try.sizeOf25 w) rfl (hh.elem (j := k) encP_len 1 rfl (by omega))) ?_
      refine p_free rfl rfl rfl rfl (fun w _ => v_neqAgg (eq25 _ _ w) eqg25 rfl rfl) ?_
      refine p_done ?_
      refine g_n_then ?_
      refine g_cond rfl (fun hq => ?_) (fun hq => ?_)
      · replace hq := of_ndec_true hq
        refine g_seq ?_
        refine g_region ?_
        refine g_val rfl rfl rfl (fun _ _ => v_assign rfl) ?_
        refine g_nil ?_
        refine g_n_then ?_
        refine g_ret ?_
        refine g_r_blk ?_
        refine g_r_then ?_
        refine g_r_then ?_
        refine g_r_blk ?_
        refine g_r_then ?_
        refine g_done rfl (fun w hh => (.tmp rfl .nil)) (fun w hh => ⟨?_, hh.toExt⟩)
        have hne : a ≠ c := fun h => hq (by rw [h])
        simp [retv, hne]
      · replace hq := of_ndec_false hq
        refine g_skip ?_
        refine g_n_blk ?_
        refine g_n_then ?_
        refine g_region ?_
        refine g_val rfl rfl rfl (fun _ _ => v_add rfl rfl (wrap_i64 (by omega))) ?_
        refine g_val rfl rfl rfl (fun _ _ => v_move rfl) ?_
        refine g_nil ?_
        refine g_n_then ?_
        exact g_againM (i := k) (k + 1) [] ((.cons rfl (.cons rfl (.cons rfl (.cons rfl .nil))))) (by decide) rfl (⟨by omega, fun i hi => by rcases Nat.lt_succ_iff_lt_or_eq.1 hi with h | h; exact hI0.2 i h; subst h; exact hq⟩) (by omega)
    · replace hc14_2 := of_decide_eq_false hc14_2
      refine g_exit ?_
      refine g_x_then ?_
      refine g_x_then ?_
      refine g_x_blk ?_
      refine g_n_then ?_
      refine g_seq ?_
      refine g_region ?_
      refine g_val rfl rfl rfl (fun _ _ => v_assign rfl) ?_
      refine g_nil ?_
      refine g_n_then ?_
      refine g_ret ?_
      have ek : k = a.length := by omega
      subst ek
      have he : a = c := ext_getDd (d := (default : Span)) (by omega) hI0.2
      refine g_done rfl (fun w hh => (.tmp rfl .nil)) (fun w hh => ⟨?_, hh.toExt⟩)
      simp [retv, he]

set_option maxRecDepth 100000 in
set_option maxHeartbeats 4000000 in
theorem c_Eq_Span (ra rb : Option (Nat × Nat)) (a c : List Span) (ca cb : Nat) (w : World) (hla : a.length ≤ 1000000) (hlb : c.length ≤ 1000000) (hra : 0 < a.length → ra ≠ none) (hrb : 0 < c.length → rb ≠ none) (hsa : segOK w (bk ra, off ra, flat encP a)) (hsb : segOK w (bk rb, off rb, flat encP c)) : Ret Try.prog 50 [slv ra a.length ca, slv rb c.length cb] w (.bool (decide (a = c))) := by
  refine g_enter (args := [slv ra a.length ca, slv rb c.length cb]) Try.func50 rfl Try.ntmps50 rfl (e := [(0, _), (1, _)]) rfl (HS.start w [] [(bk ra, off ra, flat encP a), (bk rb, off rb, flat encP c)] (segsC hsa (segsC hsb segsN))) ?_
  refine g_seq ?_
  refine g_region ?_
  refine g_val rfl rfl rfl (fun _ _ => v_assign rfl) ?_
  refine g_nil ?_
  refine g_n_then ?_
  refine g_seq ?_
  refine g_region ?_
  refine g_val rfl rfl rfl (fun _ _ => v_move rfl) ?_
  refine g_val rfl rfl rfl (fun _ _ => v_move rfl) ?_
  refine g_callv rfl rfl rfl rfl rfl rfl rfl (fun a w => Try.call121 a w) (fun w hh => c_Equal_Span ra rb a c ca cb w hla hlb hra hrb (hh.seg 0 rfl) (hh.seg 1 rfl)) ?_
  refine g_val rfl rfl rfl (fun _ _ => v_assign rfl) ?_
  refine g_nil ?_
  refine g_n_then ?_
  refine g_ret ?_
  refine g_done rfl (fun w hh => (.tmp rfl .nil)) (fun w hh => ⟨?_, hh.toExt⟩)
  rfl

set_option maxRecDepth 100000 in
set_option maxHeartbeats 4000000 in
theorem c_Equal_State (ra rb : Option (Nat × Nat)) (a c : List Int) (ca cb : Nat) (w : World) (hla : a.length ≤ 1000000) (hlb : c.length ≤ 1000000) (hra : 0 < a.length → ra ≠ none) (hrb : 0 < c.length → rb ≠ none) (hsa : segOK w (bk ra, off ra, ints a)) (hsb : segOK w (bk rb, off rb, ints c)) : Ret Try.prog 114 [slv ra a.length ca, slv rb c.length cb] w (.bool (decide (a = c))) := by
  refine g_enter (args := [slv ra a.length ca, slv rb c.length cb]) Try.func114 rfl Try.ntmps114 rfl (e := [(0, _), (1, _)]) rfl (HS.start w [] [(bk ra, off ra, ints a), (bk rb, off rb, ints c)] (segsC hsa (segsC hsb segsN))) ?_
  refine g_seq ?_
  refine g_region ?_
  refine g_val rfl rfl rfl (fun _ _ => v_assign rfl) ?_
  refine g_nil ?_
  refine g_n_then ?_
  refine g_seq ?_
  refine g_seq ?_
  refine g_region ?_
  refine g_val rfl rfl rfl (fun _ _ => v_move rfl) ?_
  refine g_val rfl rfl rfl (fun w _ => v_lenS (Try.runUnderlying43 w) rfl) ?_
  refine g_val rfl rfl rfl (fun _ _ => v_move rfl) ?_
  refine g_val rfl rfl rfl (fun w _ => v_lenS (Try.runUnderlying43 w) rfl) ?_
  refine g_val rfl rfl rfl (fun _ _ => v_neq rfl rfl) ?_
  refine g_nil ?_
  refine g_n_then ?_
  refine g_cond rfl (fun hlen => ?_) (fun hlen => ?_)
  · replace hlen := of_ndec_true hlen
    replace hlen : ¬ a.length = c.length := by omega
    refine g_seq ?_
    refine g_region ?_
    refine g_val rfl rfl rfl (fun _ _ => v_assign rfl) ?_
    refine g_nil ?_
    refine g_n_then ?_
    refine g_ret ?_
    refine g_r_then ?_
    refine g_done rfl (fun w hh => (.tmp rfl .nil)) (fun w hh => ⟨?_, hh.toExt⟩)
    have hne : a ≠ c := fun h => hlen (by rw [h])
    simp [retv, hne]
  · replace hlen := of_ndec_false hlen
    replace hlen : a.length = c.length := by omega
    refine g_skip ?_
    refine g_n_then ?_
    refine g_seq ?_
    refine g_seq ?_
    refine g_region ?_
    refine g_val rfl rfl rfl (fun _ _ => v_move rfl) ?_
    refine g_val rfl rfl rfl (fun w _ => v_lenS (Try.runUnderlying43 w) rfl) ?_
    refine g_val rfl rfl rfl (fun _ _ => v_move rfl) ?_
    refine g_nil ?_
    refine g_n_then ?_
    refine g_block ?_
    refine g_sub (e' := [(13, _), (0, _), (1, _), (12, _)]) ((.cons rfl (.cons rfl (.cons rfl (.cons rfl .nil))))) ?_
    refine g_loopM (ι := Nat) (fun k => [(13, .int .i64 (k : Nat))]) (fun k => []) (fun k => k ≤ a.length ∧ ∀ i, i < k → a.getD i (0 : Int) = c.getD i (0 : Int)) (fun k => a.length - k) 0 (⟨Nat.zero_le _, fun i hi => absurd hi (by omega)⟩) ?_
    intro k hI0
    refine g_seq ?_
    refine g_region ?_
    refine g_val rfl rfl rfl (fun _ _ => v_lss rfl rfl) ?_
    refine g_nil ?_
    refine g_n_then ?_
    refine g_seq ?_
    refine g_cond rfl (fun hc14_2 => ?_) (fun hc14_2 => ?_)
    · replace hc14_2 := of_decide_eq_true hc14_2
      refine g_skip ?_
      refine g_n_then ?_
      refine g_seq ?_
      refine g_block ?_
      refine g_seq ?_
      refine g_region ?_
      refine g_val rfl rfl rfl (fun _ _ => v_move rfl) ?_
      refine g_val rfl rfl rfl (fun _ _ => v_assign rfl) ?_
      refine g_nil ?_
      refine g_n_then ?_
      refine g_seq ?_
      refine g_draw none (.free 0 (.free 1 (.hoist 2 (.hoist 3 (.free 4 (.free 5 (.hoist 6 (.hoist 7 (.free 8 .done))))))))) _ rfl (by decide +kernel) (fun w k hh => hh.draw k) (fun w hh => hh) ?_
      refine p_free rfl rfl rfl rfl (fun _ _ => v_move rfl) ?_
      refine p_free rfl rfl rfl rfl (fun _ _ => v_move rfl) ?_
      refine p_hoist rfl rfl rfl rfl (fun w _ => v_indexAddr1 k (Try.runUnderlying43 w) (Try.sizeOf46 w) rfl rfl rfl (by omega) (hra (by omega))) ?_
      refine p_hoist rfl rfl rfl rfl (fun w hh => v_load (Try.isAgg46 w) rfl (hh.int (j := k) 0 rfl (by omega))) ?_
      refine p_free rfl rfl rfl rfl (fun _ _ => v_move rfl) ?_
      refine p_free rfl rfl rfl rfl (fun _ _ => v_move rfl) ?_
      refine p_hoist rfl rfl rfl rfl (fun w _ => v_indexAddr1 k (Try.runUnderlying43 w) (Try.sizeOf46 w) rfl rfl rfl (by omega) (hrb (by omega))) ?_
      refine p_hoist rfl rfl rfl rfl (fun w hh => v_load (Try.isAgg46 w) rfl (hh.int (j := k) 1 rfl (by omega))) ?_
      refine p_free rfl rfl rfl rfl (fun _ _ => v_neq rfl rfl) ?_
      refine p_done ?_
      refine g_n_then ?_
      refine g_cond rfl (fun hq => ?_) (fun hq => ?_)
      · replace hq := of_ndec_true hq
        refine g_seq ?_
        refine g_region ?_
        refine g_val rfl rfl rfl (fun _ _ => v_assign rfl) ?_
        refine g_nil ?_
        refine g_n_then ?_
        refine g_ret ?_
        refine g_r_blk ?_
        refine g_r_then ?_
        refine g_r_then ?_
        refine g_r_blk ?_
        refine g_r_then ?_
        refine g_done rfl (fun w hh => (.tmp rfl .nil)) (fun w hh => ⟨?_, hh.toExt⟩)
        have hne : a ≠ c := fun h => hq (by rw [h])
        simp [retv, hne]
      · replace hq := of_ndec_false hq
        refine g_skip ?_
        refine g_n_blk ?_
        refine g_n_then ?_
        refine g_region ?_
        refine g_val rfl rfl rfl (fun _ _ => v_add rfl rfl (wrap_i64 (by omega))) ?_
        refine g_val rfl rfl rfl (fun _ _ => v_move rfl) ?_
        refine g_nil ?_
        refine g_n_then ?_
        exact g_againM (i := k) (k + 1) [] ((.cons rfl (.cons rfl (.cons rfl (.cons rfl .nil))))) (by decide) rfl (⟨by omega, fun i hi => by rcases Nat.lt_succ_iff_lt_or_eq.1 hi with h | h; exact hI0.2 i h; subst h; exact hq⟩) (by omega)
    · replace hc14_2 := of_decide_eq_false hc14_2
      refine g_exit ?_
      refine g_x_then ?_
      refine g_x_then ?_
      refine g_x_blk ?_
      refine g_n_then ?_
      refine g_seq ?_
      refine g_region ?_
      refine g_val rfl rfl rfl (fun _ _ => v_assign rfl) ?_
      refine g_nil ?_
      refine g_n_then ?_
      refine g_ret ?_
      have ek : k = a.length := by omega
      subst ek
      have he : a = c := ext_getDd (d := (0 : Int)) (by omega) hI0.2
      refine g_done rfl (fun w hh => (.tmp rfl .nil)) (fun w hh => ⟨?_, hh.toExt⟩)
      simp [retv, he]

set_option maxRecDepth 100000 in
set_option maxHeartbeats 4000000 in
theorem c_Eq_State (ra rb : Option (Nat × Nat)) (a c : List Int) (ca cb : Nat) (w : World) (hla : a.length ≤ 1000000) (hlb : c.length ≤ 1000000) (hra : 0 < a.length → ra ≠ none) (hrb : 0 < c.length → rb ≠ none) (hsa : segOK w (bk ra, off ra, ints a)) (hsb : segOK w (bk rb, off rb, ints c)) : Ret Try.prog 39 [slv ra a.length ca, slv rb c.length cb] w (.bool (decide (a = c))) := by
  refine g_enter (args := [slv ra a.length ca, slv rb c.length cb]) Try.func39 rfl Try.ntmps39 rfl (e := [(0, _), (1, _)]) rfl (HS.start w [] [(bk ra, off ra, ints a), (bk rb, off rb, ints c)] (segsC hsa (segsC hsb segsN))) ?_
  refine g_seq ?_
  refine g_region ?_
  refine g_val rfl rfl rfl (fun _ _ => v_assign rfl) ?_
  refine g_nil ?_
  refine g_n_then ?_
  refine g_seq ?_
  refine g_region ?_
  refine g_val rfl rfl rfl (fun _ _ => v_move rfl) ?_
  refine g_val rfl rfl rfl (fun _ _ => v_move rfl) ?_
  refine g_callv rfl rfl rfl rfl rfl rfl rfl (fun a w => Try.call114 a w) (fun w hh => c_Equal_State ra rb a c ca cb w hla hlb hra hrb (hh.seg 0 rfl) (hh.seg 1 rfl)) ?_
  refine g_val rfl rfl rfl (fun _ _ => v_assign rfl) ?_
  refine g_nil ?_
  refine g_n_then ?_
  refine g_ret ?_
  refine g_done rfl (fun w hh => (.tmp rfl .nil)) (fun w hh => ⟨?_, hh.toExt⟩)
  rfl

end Go.Proofs
