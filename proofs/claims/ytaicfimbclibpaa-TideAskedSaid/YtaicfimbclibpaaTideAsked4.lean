/- What the functions that the law TideAsked reaches come to, and why it holds: part 4. -/
import Derived.Test.YtaicfimbclibpaaTideAsked3
namespace Go.Fw
open Go
section
variable {P : Program} {e : EnvL} {w : World} {dst : Option Nat} {ty : TypeId} {pos : String} {after : Array Edge} {g : Option (Nat × Bool)}
theorem v_lookupD {t K E : TypeId} {κ : IntKind} {x i : Operand} {bm : Nat} {k : Int} {l : List (Int × Value)} {z v : Value} (hu : (underlying t).run P w = .ok (.map K E) w) (hk : (underlying K).run P w = .ok (.int κ) w) (hz : (zeroValue E).run P w = .ok z w)
    (hv : (mget l k).getD z = v) (hx : ev e x = some (.map (some bm))) (hi : ev e i = some (.int .i64 k)) (hm : w.heap[bm]? = some (mobj l)) : Val P e w ⟨dst, .lookup t x i false, ty, pos, after, g⟩ v := by
  have := v_lookup (P := P) (dst := dst) (ty := ty) (pos := pos) (after := after) (g := g) hu hk hz hx hi hm
  rw [hv] at this
  exact this
theorem v_lenM {t K E : TypeId} {x : Operand} {bm : Nat} {l : List (Int × Value)} (hu : (underlying t).run P w = .ok (.map K E) w) (hx : ev e x = some (.map (some bm))) (hm : w.heap[bm]? = some (mobj l)) :
    Val P e w ⟨dst, .call ⟨.builtin .len, #[x], #[t]⟩, ty, pos, after, g⟩ (.int .i64 l.length) := fun n ds a he => by
  have h1 := run_getM (P := P) hm
  rw [mobj] at h1
  simp [execOp, he.eval hx, resolve, invoke, builtin, Builtin.len_, hu, h1, goInt, ments_length]
end
section
variable {n : Nat} {ds : List Deferred} {e : EnvL} {P : Program} {r : Option Nat} {Q : Exit → Act → World → Prop} {ops : Array Oper} {w0 : World} {M : List Nat} {own : List (Nat × Obj)} {ro : List Sg}
/-- a call that leaves new blocks, one of them ahead, the others behind -/
theorem g_callW {ι : Type} {o : Oper} {rest : List Oper} {d : Nat} {p : ι → Prop} {A : ι → Nat × Obj} {T : ι → List (Nat × Obj)} {ret : ι → Value} {f : FuncId} {x : Operand} {xs : List Operand} {ts : Array TypeId} {fst cap : Array Value} {vs args : List Value}
    (ho : o.op = .call ⟨.value x, xs.toArray, ts⟩) (hd : o.dst = some d) (hg : o.guard = none) (hn : Nat.blt d n = true)
    (hx : ev e x = some (.func (.func f) fst cap)) (hxs : evs e xs = some vs) (ha : fst.toList ++ vs ++ cap.toList = args)
    (hf : ∀ args w, (callFunc f args).run P w = .ok (.enter f args) w)
    (hc : ∀ w, HS w0 M own ro w → Calls P f args.toArray w (fun en w' => ∃ i, en = .returned (ret i) ∧ p i ∧ Fresh w w' (A i :: T i)))
    (h : ∀ i, p i → G n ds ((d, ret i) :: e) (HS w0 M (A i :: (own ++ T i)) ro) (wpListIn (fw r) 0 P ops Q rest)) : G n ds e (HS w0 M own ro) (wpListIn (fw r) 0 P ops Q (o :: rest)) :=
  g_call (H' := fun i w' => p i ∧ HS w0 M (A i :: (own ++ T i)) ro w') ho hd hg hn hx hxs ha hf (fun w hh => (hc w hh).mono (by
      rintro en w' ⟨i, rfl, hp, hF⟩
      exact ⟨i, rfl, hp, (hh.fresh hF).perm (List.Perm.cons _ List.perm_append_comm)⟩))
    (fun i => g_pure (fun w hh => hh.1) (fun hp => (h i hp).pre (fun w hh => hh.2)))
end
end Go.Fw
namespace Go.Proofs
open Go Go.Fw Go.Pl
theorem way_news {w0 w : World} {own : List (Nat × Obj)} {ro : List Sg} {W : List WV} {e : WV} (hh : HS w0 [] (own ++ wown W) ro w) (he : e ∈ W) (heo : e.ok) : News w0 w [(bk e.q, off e.q, ints e.way)] := by
  have hs := vown_seg (E := 3) hh (fun p hp => List.mem_append_right own (mem_wown he p hp)) heo.hoff heo.noneNil
  refine (News.nil hh.toExt).cons hs (fun hn => ?_)
  cases hq : e.q with
  | none => exact absurd (by simp [heo.noneNil hq]) hn
  | some p =>
    have := hh.new (p.1, .cells (ints e.way ++ e.sp).toArray 3 (0, 0)) (List.mem_append_right own (mem_wown he _ (by rw [hq]; simp [vown])))
    simpa [bk] using this
structure CntOK (k : Nat) (K : List Int) (M : List (Int × Value)) : Prop where
  keys : M.map (·.1) = K
  vals : ∀ p ∈ M, ∃ n : Int, p.2 = .int .i64 n ∧ 0 ≤ n ∧ n ≤ k
theorem mfind_mem : ∀ {M : List (Int × Value)} {x : Int} {i : Nat}, (∃ j v, mfind M x i = some (j, v) ∧ (x, v) ∈ M) ∨ (mfind M x i = none ∧ x ∉ M.map (·.1))
  | [], _, _ => .inr ⟨rfl, by simp⟩
  | (k, v) :: M, x, i => by
    by_cases h : x = k
    · subst h; left; exact ⟨i, v, by simp [mfind], List.mem_cons_self⟩
    · rcases mfind_mem (M := M) (x := x) (i := i + 1) with ⟨j, u, h1, h2⟩ | ⟨h1, h2⟩
      · left; exact ⟨j, u, by simp [mfind, h, h1], List.mem_cons_of_mem _ h2⟩
      · right; exact ⟨by simp [mfind, h, h1], by simp [h]; simpa using h2⟩
theorem CntOK.get {k : Nat} {K : List Int} {M : List (Int × Value)} (h : CntOK k K M) (x : Int) : ∃ n : Int, (mget M x).getD (.int .i64 0) = .int .i64 n ∧ 0 ≤ n ∧ n ≤ k := by
  rcases mfind_mem (M := M) (x := x) (i := 0) with ⟨j, v, h1, h2⟩ | ⟨h1, _⟩
  · obtain ⟨n, h3, h4⟩ := h.vals _ h2
    exact ⟨n, by simp only [mget, h1, Option.map_some, Option.getD_some]; exact h3, h4⟩
  · exact ⟨0, by simp [mget, h1], by omega, by omega⟩
theorem CntOK.set {k : Nat} {K : List Int} {M : List (Int × Value)} (h : CntOK k K M) (x : Int) {n : Int} (hn : 0 ≤ n ∧ n ≤ k) : CntOK (k + 1) (if K.contains x then K else K ++ [x]) (mset M x (.int .i64 (n + 1))) := by
  rcases mfind_mem (M := M) (x := x) (i := 0) with ⟨j, v, h1, h2⟩ | ⟨h1, h2⟩
  · have hm : x ∈ K := by rw [← h.keys]; exact List.mem_map.2 ⟨_, h2, rfl⟩
    have hms : mset M x (.int .i64 (n + 1)) = M.modify j (fun p => (p.1, .int .i64 (n + 1))) := by simp [mset, h1]
    rw [if_pos (by simpa using hm), hms]
    refine ⟨?_, fun p hp => ?_⟩
    · rw [← h.keys]
      apply List.ext_getElem?
      intro i
      rw [List.getElem?_map, List.getElem?_map, List.getElem?_modify]
      cases M[i]? with
      | none => rfl
      | some q => by_cases hji : j = i <;> simp [hji]
    · obtain ⟨i, hi⟩ := List.mem_iff_getElem?.1 hp
      rw [List.getElem?_modify] at hi
      cases hmi : M[i]? with
      | none => rw [hmi] at hi; simp at hi
      | some q =>
        rw [hmi] at hi
        by_cases hji : j = i
        · simp [hji] at hi; subst hi; exact ⟨n + 1, rfl, by omega, by omega⟩
        · simp [hji] at hi; subst hi
          obtain ⟨n', h3, h4, h5⟩ := h.vals q (List.mem_of_getElem? hmi)
          exact ⟨n', h3, h4, by omega⟩
  · have hm : x ∉ K := by rw [← h.keys]; exact h2
    have hms : mset M x (.int .i64 (n + 1)) = M ++ [(x, .int .i64 (n + 1))] := by simp [mset, h1]
    rw [if_neg (by simpa using hm), hms]
    refine ⟨by rw [List.map_append, h.keys]; rfl, fun p hp => ?_⟩
    rcases List.mem_append.1 hp with hp | hp
    · obtain ⟨n', h3, h4, h5⟩ := h.vals p hp
      exact ⟨n', h3, h4, by omega⟩
    · simp at hp; subst hp; exact ⟨n + 1, rfl, by omega, by omega⟩
theorem CntOK.len {k : Nat} {K : List Int} {M : List (Int × Value)} (h : CntOK k K M) : M.length = K.length := by rw [← h.keys]; simp
end Go.Proofs

namespace Go.Proofs
open Go Go.Fw Go.Pl
set_option linter.unusedVariables false
set_option maxRecDepth 100000 in
theorem c_Index (r : Option (Nat × Nat)) (l : List Int) (cp : Nat) (x : Int) (w : World) (hl : l.length ≤ 140737488355328) (hr : 0 < l.length → r ≠ none) (hs : segOK w (bk r, off r, ints l)) : Ret Try.prog 148 [slv r l.length cp, .int .i64 x] w (.int .i64 (idxf (fun y => decide (x = y)) l)) := by
  refine g_enter (args := [slv r l.length cp, .int .i64 x]) Try.func148 rfl Try.ntmps148 rfl (e := [(0, _), (1, _)]) rfl (HS.start w [] [(bk r, off r, ints l)] (segsC hs segsN)) ?_
  refine g_seq ?_
  refine g_region ?_
  refine g_val rfl rfl rfl (fun _ _ => v_assign rfl) ?_
  refine g_nil ?_
  refine g_n_then ?_
  refine g_seq ?_
  refine g_seq ?_
  refine g_region ?_
  refine g_val rfl rfl rfl (fun _ _ => v_move rfl) ?_
  refine g_val rfl rfl rfl (fun w _ => v_lenS (Try.runUnderlying26 w) rfl) ?_
  refine g_val rfl rfl rfl (fun _ _ => v_move rfl) ?_
  refine g_nil ?_
  refine g_n_then ?_
  refine g_block ?_
  refine g_sub (e' := [(8, _), (0, _), (1, _), (7, _)]) ((.cons rfl (.cons rfl (.cons rfl (.cons rfl .nil))))) ?_
  refine g_loopM (ι := Nat) (fun k => [(8, .int .i64 (k : Nat))]) (fun k => []) (fun k => k ≤ l.length ∧ ∀ i, i < k → decide (x = l.getD i 0) = false) (fun k => l.length - k) 0 (⟨Nat.zero_le _, fun i hi => absurd hi (by omega)⟩) ?_
  intro k hI0
  refine g_seq ?_
  refine g_region ?_
  refine g_val rfl rfl rfl (fun _ _ => v_lss rfl rfl) ?_
  refine g_nil ?_
  refine g_n_then ?_
  refine g_seq ?_
  refine g_cond rfl (fun hc9_1 => ?_) (fun hc9_1 => ?_)
  · replace hc9_1 := of_decide_eq_true hc9_1
    refine g_skip ?_
    refine g_n_then ?_
    refine g_seq ?_
    refine g_block ?_
    refine g_seq ?_
    refine g_region ?_
    refine g_val rfl rfl rfl (fun _ _ => v_move rfl) ?_
    refine g_val rfl rfl rfl (fun _ _ => v_assign rfl) ?_
    refine g_nil ?_
    refine g_n_then ?_
    refine g_seq ?_
    refine g_region ?_
    refine g_val rfl rfl rfl (fun _ _ => v_move rfl) ?_
    refine g_val rfl rfl rfl (fun _ _ => v_move rfl) ?_
    refine g_val rfl rfl rfl (fun _ _ => v_move rfl) ?_
    refine g_val rfl rfl rfl (fun w _ => v_indexAddr1 k (Try.runUnderlying26 w) (Try.sizeOf3 w) rfl rfl rfl (by omega) (hr (by omega))) ?_
    refine g_val rfl rfl rfl (fun w hh => v_load (Try.isAgg3 w) rfl (hh.int (j := k) 0 rfl (by omega))) ?_
    refine g_val rfl rfl rfl (fun _ _ => v_eql rfl rfl) ?_
    refine g_nil ?_
    refine g_n_then ?_
    refine g_cond rfl (fun hx => ?_) (fun hx => ?_)
    · refine g_seq ?_
      refine g_region ?_
      refine g_val rfl rfl rfl (fun _ _ => v_move rfl) ?_
      refine g_val rfl rfl rfl (fun _ _ => v_assign rfl) ?_
      refine g_nil ?_
      refine g_n_then ?_
      refine g_ret ?_
      refine g_r_blk ?_
      refine g_r_then ?_
      refine g_r_then ?_
      refine g_r_blk ?_
      refine g_r_then ?_
      refine g_done rfl (fun w hh => (.tmp rfl .nil)) (fun w hh => ⟨?_, hh.toExt⟩)
      rw [idxf_found (d := (0 : Int)) (k := k) (by omega) hI0.2 (by simpa using hx)]; rfl
    · refine g_skip ?_
      refine g_n_blk ?_
      refine g_n_then ?_
      refine g_region ?_
      refine g_val rfl rfl rfl (fun _ _ => v_add rfl rfl (wrap_i64 (by omega))) ?_
      refine g_val rfl rfl rfl (fun _ _ => v_move rfl) ?_
      refine g_nil ?_
      refine g_n_then ?_
      exact g_againM (i := k) (k + 1) [] ((.cons rfl (.cons rfl (.cons rfl (.cons rfl .nil))))) (by decide) rfl (⟨by omega, fun i hi => by rcases Nat.lt_succ_iff_lt_or_eq.1 hi with h | h; exact hI0.2 i h; subst h; simpa using hx⟩) (by omega)
  · replace hc9_1 := of_decide_eq_false hc9_1
    refine g_exit ?_
    refine g_x_then ?_
    refine g_x_then ?_
    refine g_x_blk ?_
    refine g_n_then ?_
    refine g_seq ?_
    refine g_region ?_
    refine g_val rfl rfl rfl (fun _ _ => v_assign rfl) ?_
    refine g_nil ?_
    refine g_n_then ?_
    refine g_ret ?_
    have ek : k = l.length := by omega
    subst ek
    refine g_done rfl (fun w hh => (.tmp rfl .nil)) (fun w hh => ⟨?_, hh.toExt⟩)
    rw [idxf_none (d := (0 : Int)) hI0.2]; rfl

set_option maxRecDepth 100000 in
theorem c_Contains (r : Option (Nat × Nat)) (l : List Int) (cp : Nat) (x : Int) (w : World) (hl : l.length ≤ 140737488355328) (hr : 0 < l.length → r ≠ none) (hs : segOK w (bk r, off r, ints l)) : Ret Try.prog 84 [slv r l.length cp, .int .i64 x] w (.bool (hasI l x)) := by
  refine g_enter (args := [slv r l.length cp, .int .i64 x]) Try.func84 rfl Try.ntmps84 rfl (e := [(0, _), (1, _)]) rfl (HS.start w [] [(bk r, off r, ints l)] (segsC hs segsN)) ?_
  refine g_seq ?_
  refine g_region ?_
  refine g_val rfl rfl rfl (fun _ _ => v_assign rfl) ?_
  refine g_nil ?_
  refine g_n_then ?_
  refine g_seq ?_
  refine g_region ?_
  refine g_val rfl rfl rfl (fun _ _ => v_move rfl) ?_
  refine g_val rfl rfl rfl (fun _ _ => v_move rfl) ?_
  refine g_callv rfl rfl rfl rfl rfl rfl rfl (fun a w => Try.call148 a w) (fun w hh => c_Index r l cp _ w hl hr (hh.seg 0 rfl)) ?_
  refine g_val rfl rfl rfl (fun _ _ => v_geq rfl rfl) ?_
  refine g_val rfl rfl rfl (fun _ _ => v_assign rfl) ?_
  refine g_nil ?_
  refine g_n_then ?_
  refine g_ret ?_
  refine g_done rfl (fun w hh => (.tmp rfl .nil)) (fun w hh => ⟨?_, hh.toExt⟩)
  simp only [retv, idxf_nonneg, hasI]

set_option maxRecDepth 100000 in
theorem c_twice (r : Option (Nat × Nat)) (l : List Int) (cp : Nat) (w : World) (hl : l.length ≤ 140737488355328) (hr : 0 < l.length → r ≠ none) (hs : segOK w (bk r, off r, ints l)) : Ret Try.prog 123 [slv r l.length cp] w (.bool (twiceF l)) := by
  refine g_enter (args := [slv r l.length cp]) Try.func123 rfl Try.ntmps123 rfl (e := [(0, _)]) rfl (HS.start w [] [(bk r, off r, ints l)] (segsC hs segsN)) ?_
  refine g_seq ?_
  refine g_region ?_
  refine g_val rfl rfl rfl (fun _ _ => v_assign rfl) ?_
  refine g_nil ?_
  refine g_n_then ?_
  refine g_seq ?_
  refine g_region ?_
  refine g_makeMap rfl (fun bm hbm => ?_)
  refine g_val rfl rfl rfl (fun _ _ => v_assign rfl) ?_
  refine g_nil ?_
  refine g_n_then ?_
  refine g_seq ?_
  refine g_seq ?_
  refine g_region ?_
  refine g_val rfl rfl rfl (fun _ _ => v_move rfl) ?_
  refine g_val rfl rfl rfl (fun w _ => v_lenS (Try.runUnderlying26 w) rfl) ?_
  refine g_val rfl rfl rfl (fun _ _ => v_move rfl) ?_
  refine g_nil ?_
  refine g_n_then ?_
  refine g_block ?_
  refine g_sub (e' := [(9, _), (0, _), (3, _), (7, _), (8, _)]) ((.cons rfl (.cons rfl (.cons rfl (.cons rfl (.cons rfl .nil)))))) ?_
  refine g_loopM (ι := Nat × List (Int × Value)) (fun (k, M) => [(9, .int .i64 (k : Nat))]) (fun (k, M) => [(bm, mobj M)]) (fun (k, M) => k ≤ l.length ∧ CntOK k (seenN l k) M) (fun (k, M) => l.length - k) (0, []) (⟨Nat.zero_le _, rfl, fun p hp => by cases hp⟩) ?_
  intro ⟨k, M⟩ hI0
  simp only at hI0
  refine g_seq ?_
  refine g_region ?_
  refine g_val rfl rfl rfl (fun _ _ => v_lss rfl rfl) ?_
  refine g_nil ?_
  refine g_n_then ?_
  refine g_seq ?_
  refine g_cond rfl (fun h10 => ?_) (fun h10 => ?_)
  · replace h10 := of_decide_eq_true h10
    refine g_skip ?_
    refine g_n_then ?_
    refine g_seq ?_
    refine g_block ?_
    refine g_seq ?_
    refine g_region ?_
    refine g_val rfl rfl rfl (fun w _ => v_indexAddr1 k (Try.runUnderlying26 w) (Try.sizeOf3 w) rfl rfl rfl (by omega) (hr (by omega))) ?_
    refine g_val rfl rfl rfl (fun w hh => v_load (Try.isAgg3 w) rfl (hh.int (j := k) 0 rfl (by omega))) ?_
    refine g_val rfl rfl rfl (fun _ _ => v_assign rfl) ?_
    refine g_nil ?_
    refine g_n_then ?_
    refine g_region ?_
    refine g_val rfl rfl rfl (fun _ _ => v_move rfl) ?_
    refine g_val rfl rfl rfl (fun _ _ => v_move rfl) ?_
    obtain ⟨cn, hcn, hcb⟩ := hI0.2.get (l.getD k 0)
    refine g_val rfl rfl rfl (fun w hh => v_lookupD (Try.runUnderlying189 w) (Try.runUnderlying3 w) (Try.zeroValue3 w) hcn rfl rfl (hh.get 0 rfl)) ?_
    refine g_val rfl rfl rfl (fun _ _ => v_add rfl rfl (wrap_i64 (by omega))) ?_
    refine g_mapUpdate (own' := [_]) 0 (fun w => Try.runUnderlying189 w) (fun w => Try.runUnderlying3 w) rfl rfl rfl rfl rfl ?_
    refine g_nil ?_
    refine g_n_blk ?_
    refine g_n_then ?_
    refine g_region ?_
    refine g_val rfl rfl rfl (fun _ _ => v_add rfl rfl (wrap_i64 (by omega))) ?_
    refine g_val rfl rfl rfl (fun _ _ => v_move rfl) ?_
    refine g_nil ?_
    refine g_n_then ?_
    exact g_againM (i := ⟨k, M⟩) (k + 1, mset M (l.getD k 0) (.int .i64 (cn + 1))) [0] ((.cons rfl (.cons rfl (.cons rfl (.cons rfl (.cons rfl .nil)))))) (by decide) rfl (⟨by omega, by rw [seenN_succ (by omega)]; exact hI0.2.set _ hcb⟩) (by simp only; omega)
  · replace h10 := of_decide_eq_false h10
    have ek : k = l.length := by omega
    subst ek
    refine g_exit ?_
    refine g_x_then ?_
    refine g_x_then ?_
    refine g_x_blk ?_
    refine g_n_then ?_
    refine g_seq ?_
    refine g_region ?_
    refine g_val rfl rfl rfl (fun _ _ => v_move rfl) ?_
    refine g_val rfl rfl rfl (fun w hh => v_lenM (Try.runUnderlying189 w) rfl (hh.get 0 rfl)) ?_
    refine g_val rfl rfl rfl (fun _ _ => v_move rfl) ?_
    refine g_val rfl rfl rfl (fun w _ => v_lenS (Try.runUnderlying26 w) rfl) ?_
    refine g_val rfl rfl rfl (fun _ _ => v_lss rfl rfl) ?_
    refine g_val rfl rfl rfl (fun _ _ => v_assign rfl) ?_
    refine g_nil ?_
    refine g_n_then ?_
    refine g_ret ?_
    refine g_done rfl (fun w hh => (.tmp rfl .nil)) (fun w hh => ⟨?_, hh.toExt⟩)
    simp only [retv, twiceF, hI0.2.len]
    congr 2
    simp

set_option maxRecDepth 100000 in
theorem c_Way1 (L : LS) (bd : Nat) (g : List Int) (k : Nat) (q most : Int) (b6 b8 : Nat) (w : World) (hL : L.OK w) (hG : Good L.S) (hgl : g.length = 8) (hd : segOK w (bd, 0, L.cells ++ ints g)) (hk : k < L.S.sills.length) (hq : 0 ≤ q ∧ q < L.S.floors.length) (h6 : segOK w (b6, 0, [ptr bd 0])) (h8 : segOK w (b8, 0, [.int .i64 most])) : Ret Try.prog 144 [.int .i64 (k : Nat), .int .i64 q, ptr b6 0, ptr b8 0] w (.bool (mayLe L.S most (k : Nat) q)) := by
  have hlt := hL.tl
  have hlf := hL.fl
  have hls := hL.sl
  have hfl8 := hG.fl
  have htl12 := hG.tl
  refine g_enter (args := [.int .i64 (k : Nat), .int .i64 q, ptr b6 0, ptr b8 0]) Try.func144 rfl Try.ntmps144 rfl (e := [(0, _), (1, _), (2, _), (3, _)]) rfl (HS.start w [] ((b6, 0, [ptr bd 0]) :: (b8, 0, [.int .i64 most]) :: (bd, 0, L.cells ++ ints g) :: L.segs) (segsC h6 (segsC h8 (segsC hd hL.segs)))) ?_
  refine g_seq ?_
  refine g_region ?_
  refine g_val rfl rfl rfl (fun _ _ => v_assign rfl) ?_
  refine g_nil ?_
  refine g_n_then ?_
  refine g_seq ?_
  refine g_draw none (.hoist 0 (.free 1 (.free 2 (.free 3 (.hoist 4 (.free 5 (.hoist 6 (.free 7 (.hoist 8 (.hoist 9 (.free 10 (.free 11 (.free 12 (.hoist 13 (.free 14 (.hoist 15 (.hoist 16 (.hoist 19 (.one 17 (.one 18 (.free 20 (.free 21 .done)))))))))))))))))))))) _ rfl (by decide +kernel) (fun w k hh => hh.draw k) (fun w hh => hh) ?_
  refine p_hoist rfl rfl rfl rfl (fun w hh => v_load (Try.isAgg139 w) rfl (hh.rcell 0 0 rfl rfl)) ?_
  refine p_free rfl rfl rfl rfl (fun _ _ => v_nilCheck rfl) ?_
  refine p_free rfl rfl rfl rfl (fun w _ => v_fieldAddr 0 (Try.runUnderlying157 w) rfl (Try.sizeOf29 w) rfl) ?_
  refine p_free rfl rfl rfl rfl (fun w _ => v_fieldAddr 4 (Try.runUnderlying29 w) rfl (Try.sizeOf27 w) rfl) ?_
  refine p_hoist rfl rfl rfl rfl (fun w hh => v_load (Try.isAgg27 w) rfl (hh.rcell 2 4 rfl rfl)) ?_
  refine p_free rfl rfl rfl rfl (fun _ _ => v_move rfl) ?_
  refine p_hoist rfl rfl rfl rfl (fun w _ => v_indexAddr k (Try.runUnderlying27 w) (Try.sizeOf51 w) rfl rfl rfl (by omega) (hL.s0 (by omega))) ?_
  refine p_free rfl rfl rfl rfl (fun w _ => v_fieldAddr 2 (Try.runUnderlying51 w) rfl (Try.sizeOf3 w) rfl) ?_
  refine p_hoist rfl rfl rfl rfl (fun w hh => v_load (Try.isAgg3 w) rfl (hh.fld (j := k) encS_len 5 2 rfl (by omega) rfl rfl)) ?_
  refine p_hoist rfl rfl rfl rfl (fun w hh => v_load (Try.isAgg139 w) rfl (hh.rcell 0 0 rfl rfl)) ?_
  refine p_free rfl rfl rfl rfl (fun _ _ => v_nilCheck rfl) ?_
  refine p_free rfl rfl rfl rfl (fun w _ => v_fieldAddr 0 (Try.runUnderlying157 w) rfl (Try.sizeOf29 w) rfl) ?_
  refine p_free rfl rfl rfl rfl (fun w _ => v_fieldAddr 3 (Try.runUnderlying29 w) rfl (Try.sizeOf26 w) rfl) ?_
  refine p_hoist rfl rfl rfl rfl (fun w hh => v_load (Try.isAgg26 w) rfl (hh.rcell 2 3 rfl rfl)) ?_
  refine p_free rfl rfl rfl rfl (fun _ _ => v_move rfl) ?_
  refine p_hoist rfl rfl rfl rfl (fun w _ => v_idxI1 (Try.runUnderlying26 w) (Try.sizeOf3 w) rfl rfl (by omega) (by omega) (hL.f0 (by omega))) ?_
  refine p_hoist rfl rfl rfl rfl (fun w hh => v_load (Try.isAgg3 w) rfl (hh.int 4 rfl (by omega))) ?_
  refine p_hoist rfl rfl rfl rfl (fun w hh => v_load (Try.isAgg3 w) rfl (hh.rcell 1 0 rfl rfl)) ?_
  refine p_one rfl ?_
  refine g_buildSlice (vs := [(0, _)]) (cells := [_]) (fun w => Try.runUnderlying26 w) (fun w => Try.sizeOf3 w) (fun w => Try.zeroValue3 w) rfl rfl rfl rfl rfl (fun b1 hb1 => ?_)
  refine p_next (fun w hh => hh.dropN 1 rfl) ?_
  refine p_one rfl ?_
  refine g_callv rfl rfl rfl rfl rfl rfl rfl (fun a w => Try.call134 a w) (fun w hh => c_highest _ [_] (some (_, 0)) 1 w (by simp) (by simp) (hh.ownSeg 0 rfl)) ?_
  refine p_next (fun w hh => hh.dropN 1 rfl) ?_
  refine p_free rfl rfl rfl rfl (fun _ _ => v_leq rfl rfl) ?_
  refine p_free rfl rfl rfl rfl (fun _ _ => v_assign rfl) ?_
  refine p_done ?_
  refine g_n_then ?_
  refine g_ret ?_
  refine g_done rfl (fun w hh => (.tmp rfl .nil)) (fun w hh => ⟨?_, hh.toExt⟩)
  rfl

set_option maxRecDepth 100000 in
theorem c_Way (p : Int) (L : LS) (w : World) (hL : L.OK w) : Calls Try.prog 81 #[L.val, .int .i64 p] w (fun en w' => ∃ q cap, en = .returned (.tuple #[slv q (WayR L.S p).1.length cap, .int .i64 (WayR L.S p).2]) ∧ SlOK q (WayR L.S p).1.length cap ∧ News w w' [(bk q, off q, ints (WayR L.S p).1)]) := by
  have hlt := hL.tl
  have hlf := hL.fl
  have hls := hL.sl
  refine g_enter (args := [L.val, .int .i64 p]) Try.func81 rfl Try.ntmps81 rfl (e := [(0, _), (1, _)]) rfl (HS.start w [] L.segs hL.segs) ?_
  refine g_seq ?_
  refine g_region ?_
  refine g_box rfl rfl (fun b1 hb1 => ?_)
  refine g_val rfl rfl rfl (fun _ _ => v_nilSlice rfl rfl) ?_
  refine g_val rfl rfl rfl (fun _ _ => v_assign rfl) ?_
  refine g_nil ?_
  refine g_n_then ?_
  refine g_seq ?_
  refine g_region ?_
  refine g_val rfl rfl rfl (fun w hh => v_loadAgg (vs := [_, _, _, _, _]) (Try.isAgg29 w) (Try.sizeOf29 w) rfl (hh.cells 0 rfl rfl)) ?_
  refine g_val rfl rfl rfl (fun _ _ => v_move rfl) ?_
  by_cases hg : gatedE L.S p = 0
  · have hc := (gatedE_zero hg).1
    have hpl := isPlace_iff.1 (gatedE_zero hg).2.1
    have hG := good_of_check hc
    have hfl8 := hG.fl
    have htl12 := hG.tl
    have hsl16 := hG.sl
    refine g_callR (ι := Nat) (p := fun _ => True) (S := fun bd => [(bd, 0, L.cells ++ ints (gatesOf L.S))]) (ret := fun bd => .tuple #[ptr bd 0, .int .i64 0]) rfl rfl rfl rfl rfl rfl rfl (fun a w => Try.call106 a w) (fun w hh => c_gatedR p L w (hL.ext hh.toExt) hg) (fun bd _ => ?_)
    refine g_val rfl rfl rfl (fun _ _ => v_move rfl) ?_
    refine g_val rfl rfl rfl (fun _ _ => v_extract rfl rfl) ?_
    refine g_val rfl rfl rfl (fun _ _ => v_extract rfl rfl) ?_
    refine g_alloc (fun w => Try.zeroValue139 w) rfl (fun b2 hb2 => ?_)
    refine g_store1 (own' := (_ :: _)) 0 (fun w => Try.sizeOf139 w) rfl rfl rfl rfl rfl ?_
    refine g_val rfl rfl rfl (fun _ _ => v_assign rfl) ?_
    refine g_nil ?_
    refine g_n_then ?_
    refine g_seq ?_
    refine g_seq ?_
    refine g_region ?_
    refine g_val rfl rfl rfl (fun _ _ => v_move rfl) ?_
    refine g_val rfl rfl rfl (fun _ _ => v_neq rfl rfl) ?_
    refine g_nil ?_
    refine g_n_then ?_
    refine g_condF rfl rfl ?_
    refine g_skip ?_
    refine g_n_then ?_
    refine g_seq ?_
    refine g_region ?_
    refine g_val rfl rfl rfl (fun w hh => v_load (Try.isAgg139 w) rfl (hh.cell 0 rfl rfl)) ?_
    refine g_val rfl rfl rfl (fun _ _ => v_move rfl) ?_
    refine g_val rfl rfl rfl (fun _ _ => v_nilCheck rfl) ?_
    refine g_val rfl rfl rfl (fun w _ => v_fieldAddr 5 (Try.runUnderlying157 w) rfl (Try.sizeOf155 w) rfl) ?_
    refine g_val rfl rfl rfl (fun w _ => v_arrI1 (Try.runUnderlying155 w) (Try.sizeOf3 w) rfl rfl (by omega) (by omega)) ?_
    refine g_val rfl rfl rfl (fun w hh => v_load (Try.isAgg3 w) rfl (hh.rgate 0 rfl (by rw [gates_length]; omega))) ?_
    refine g_alloc (fun w => Try.zeroValue3 w) rfl (fun b3 hb3 => ?_)
    refine g_store1 (own' := (_ :: _)) 0 (fun w => Try.sizeOf3 w) rfl rfl rfl rfl rfl ?_
    refine g_nil ?_
    refine g_n_then ?_
    refine g_seq ?_
    refine g_region ?_
    refine g_val rfl rfl rfl (fun w hh => v_load (Try.isAgg139 w) rfl (hh.cell 1 rfl rfl)) ?_
    refine g_val rfl rfl rfl (fun _ _ => v_makeFunc (u := #[]) (u' := #[_, _]) rfl rfl) ?_
    refine g_callW (ι := Nat × List WV) (p := fun i => wproj i.2 = waysF L.S (mayLe L.S ((gatesOf L.S).getD p.toNat 0)) ∧ ∀ e, e ∈ i.2 → e.ok) (A := fun i => (i.1, mobj (mlist i.2))) (T := fun i => wown i.2) (ret := fun i => .map (some i.1)) rfl rfl rfl rfl rfl rfl rfl (fun a w => Try.call124 a w) (fun w hh => (c_ways L bd (gatesOf L.S) 144 #[] #[ptr b2 0, ptr b3 0] (mayLe L.S ((gatesOf L.S).getD p.toNat 0)) w (hL.ext hh.toExt) hG (hh.seg 0 rfl) (fun a w => Try.call144 a w) (fun w2 hx k q hk hq => c_Way1 L bd (gatesOf L.S) k q ((gatesOf L.S).getD p.toNat 0) b2 b3 w2 ((hL.ext hh.toExt).ext hx) hG gates_length ((hh.seg 0 rfl).ext hx (by simp)) hk hq ((hh.ownSeg 1 rfl).ext hx (by simp)) ((hh.ownSeg 0 rfl).ext hx (by simp)))).mono (by rintro en w' ⟨bm, W, rfl, h1, h2, h3⟩; exact ⟨(bm, W), rfl, ⟨h1, h2⟩, h3⟩)) ?_
    rintro ⟨bm, W⟩ ⟨hWp, hWo⟩
    refine g_val rfl rfl rfl (fun _ _ => v_move rfl) ?_
    rcases wayOf_cons (W := W) (k := p) with ⟨e, he, hek, hme, hwe⟩ | ⟨hme, hwe⟩
    · refine g_val rfl rfl rfl (fun w hh => v_lookupS (Try.runUnderlying170 w) (Try.runUnderlying3 w) (Try.zeroValue26 w) hme rfl rfl (hh.get 0 rfl)) ?_
      refine g_val rfl rfl rfl (fun _ _ => v_assign rfl) ?_
      refine g_val rfl rfl rfl (fun _ _ => v_assign rfl) ?_
      refine g_nil ?_
      refine g_n_then ?_
      refine g_ret ?_
      refine g_done rfl (fun w hh => (.tmp rfl (.tmp rfl .nil))) (fun w hh => ?_)
      have ea : WayR L.S p = (e.way, 0) := by rw [WayR, if_neg (by simp [hg]), ← hWp, hwe]
      rw [ea]
      exact ⟨e.q, e.cap, rfl, (hWo e he).sl, way_news (own := [_, _, _, _]) hh he (hWo e he)⟩
    · refine g_val rfl rfl rfl (fun w hh => v_lookupD (v := slv none 0 0) (Try.runUnderlying170 w) (Try.runUnderlying3 w) (Try.zeroValue26 w) (by rw [hme]; rfl) rfl rfl (hh.get 0 rfl)) ?_
      refine g_val rfl rfl rfl (fun _ _ => v_assign rfl) ?_
      refine g_val rfl rfl rfl (fun _ _ => v_assign rfl) ?_
      refine g_nil ?_
      refine g_n_then ?_
      refine g_ret ?_
      refine g_done rfl (fun w hh => (.tmp rfl (.tmp rfl .nil))) (fun w hh => ?_)
      have ea : WayR L.S p = ([], 0) := by rw [WayR, if_neg (by simp [hg]), ← hWp, hwe]
      rw [ea]
      exact ⟨none, 0, rfl, .nil, (News.nil hh.toExt).cons segOK.nil (fun h => absurd rfl h)⟩
  · refine g_callv rfl rfl rfl rfl rfl rfl rfl (fun a w => Try.call106 a w) (fun w hh => c_gatedE p L w (hL.ext hh.toExt) hg) ?_
    refine g_val rfl rfl rfl (fun _ _ => v_move rfl) ?_
    refine g_val rfl rfl rfl (fun _ _ => v_extract rfl rfl) ?_
    refine g_val rfl rfl rfl (fun _ _ => v_extract rfl rfl) ?_
    refine g_alloc (fun w => Try.zeroValue139 w) rfl (fun b4 hb4 => ?_)
    refine g_store1 (own' := (_ :: _)) 0 (fun w => Try.sizeOf139 w) rfl rfl rfl rfl rfl ?_
    refine g_val rfl rfl rfl (fun _ _ => v_assign rfl) ?_
    refine g_nil ?_
    refine g_n_then ?_
    refine g_seq ?_
    refine g_seq ?_
    refine g_region ?_
    refine g_val rfl rfl rfl (fun _ _ => v_move rfl) ?_
    refine g_val rfl rfl rfl (fun _ _ => v_neq rfl rfl) ?_
    refine g_nil ?_
    refine g_n_then ?_
    refine g_condT rfl (neP hg) ?_
    refine g_seq ?_
    refine g_region ?_
    refine g_val rfl rfl rfl (fun _ _ => v_move rfl) ?_
    refine g_val rfl rfl rfl (fun _ _ => v_nilSlice rfl rfl) ?_
    refine g_val rfl rfl rfl (fun _ _ => v_assign rfl) ?_
    refine g_nil ?_
    refine g_n_then ?_
    refine g_ret ?_
    refine g_r_then ?_
    refine g_done rfl (fun w hh => (.tmp rfl (.tmp rfl .nil))) (fun w hh => ?_)
    have ea : WayR L.S p = ([], gatedE L.S p) := by rw [WayR, if_pos hg]
    rw [ea]
    exact ⟨none, 0, rfl, .nil, (News.nil hh.toExt).cons segOK.nil (fun h => absurd rfl h)⟩

end Go.Proofs

namespace Go.Proofs
open Go Go.Fw Go.Pl
set_option linter.unusedVariables false
set_option maxRecDepth 100000 in
theorem c_Hold1 (i : Int) (bx : Nat) (L : LS) (w : World) (hL : L.OK w) (hb : segOK w (bx, 0, L.cells)) : Ret Try.prog 122 [.int .i64 i, ptr bx 0] w (.bool (isSill L.S i)) := by
  have hlt := hL.tl
  have hlf := hL.fl
  have hls := hL.sl
  refine g_enter (args := [.int .i64 i, ptr bx 0]) Try.func122 rfl Try.ntmps122 rfl (e := [(0, _), (1, _)]) rfl (HS.start w [] ((bx, 0, L.cells) :: L.segs) (segsC hb hL.segs)) ?_
  refine g_seq ?_
  refine g_region ?_
  refine g_val rfl rfl rfl (fun _ _ => v_assign rfl) ?_
  refine g_nil ?_
  refine g_n_then ?_
  refine g_seq ?_
  refine g_region ?_
  refine g_val rfl rfl rfl (fun _ _ => v_move rfl) ?_
  refine g_val rfl rfl rfl (fun w _ => v_fieldAddr 4 (Try.runUnderlying29 w) rfl (Try.sizeOf27 w) rfl) ?_
  refine g_val rfl rfl rfl (fun w hh => v_load (Try.isAgg27 w) rfl (hh.rcell 0 4 rfl rfl)) ?_
  refine g_val rfl rfl rfl (fun w _ => v_lenS (Try.runUnderlying27 w) rfl) ?_
  refine g_val rfl rfl rfl (fun _ _ => v_sub rfl rfl (wrap_i64 (by omega))) ?_
  refine g_callv rfl rfl rfl rfl rfl rfl rfl (fun a w => Try.call90 a w) (fun w hh => c_in _ _ _ w) ?_
  refine g_val rfl rfl rfl (fun _ _ => v_assign rfl) ?_
  refine g_nil ?_
  refine g_n_then ?_
  refine g_ret ?_
  refine g_done rfl (fun w hh => (.tmp rfl .nil)) (fun w hh => ⟨?_, hh.toExt⟩)
  rfl

set_option maxRecDepth 100000 in
theorem c_Hold2 (r1 r2 : Option (Nat × Nat)) (sl pl : List Int) (c1 c2 : Nat) (k q : Int) (b6 b7 : Nat) (w : World) (hl1 : sl.length ≤ 1000000) (hl2 : pl.length ≤ 1000000) (hr1 : 0 < sl.length → r1 ≠ none) (hr2 : 0 < pl.length → r2 ≠ none) (hs1 : segOK w (bk r1, off r1, ints sl)) (hs2 : segOK w (bk r2, off r2, ints pl)) (h6 : segOK w (b6, 0, [slv r1 sl.length c1])) (h7 : segOK w (b7, 0, [slv r2 pl.length c2])) : Ret Try.prog 125 [.int .i64 k, .int .i64 q, ptr b6 0, ptr b7 0] w (.bool (mayFree sl pl k q)) := by
  refine g_enter (args := [.int .i64 k, .int .i64 q, ptr b6 0, ptr b7 0]) Try.func125 rfl Try.ntmps125 rfl (e := [(0, _), (1, _), (2, _), (3, _)]) rfl (HS.start w [] ((b6, 0, [slv r1 sl.length c1]) :: (b7, 0, [slv r2 pl.length c2]) :: (bk r1, off r1, ints sl) :: (bk r2, off r2, ints pl) :: []) (segsC h6 (segsC h7 (segsC hs1 (segsC hs2 segsN))))) ?_
  refine g_seq ?_
  refine g_region ?_
  refine g_val rfl rfl rfl (fun _ _ => v_assign rfl) ?_
  refine g_nil ?_
  refine g_n_then ?_
  refine g_seq ?_
  refine g_region ?_
  refine g_val rfl rfl rfl (fun w hh => v_load (Try.isAgg26 w) rfl (hh.rcell 0 0 rfl rfl)) ?_
  refine g_val rfl rfl rfl (fun _ _ => v_move rfl) ?_
  refine g_callv rfl rfl rfl rfl rfl rfl rfl (fun a w => Try.call84 a w) (fun w hh => c_Contains r1 sl c1 _ w (by omega) hr1 (hh.seg 2 rfl)) ?_
  refine g_val rfl rfl rfl (fun _ _ => v_not rfl) ?_
  refine g_val rfl rfl rfl (fun _ _ => v_move rfl) ?_
  refine g_case 11 rfl (fun hg11_1 => ?_) (fun hg11_1 => ?_)
  · replace hg11_1 := of_not_true hg11_1
    refine g_valG rfl rfl rfl rfl rfl (fun w hh => v_load (Try.isAgg26 w) rfl (hh.rcell 1 0 rfl rfl)) ?_
    refine g_valG rfl rfl rfl rfl rfl (fun _ _ => v_move rfl) ?_
    refine g_callvG rfl rfl rfl rfl rfl rfl rfl rfl rfl (fun a w => Try.call84 a w) (fun w hh => c_Contains r2 pl c2 _ w (by omega) hr2 (hh.seg 3 rfl)) ?_
    refine g_valG rfl rfl rfl rfl rfl (fun _ _ => v_not rfl) ?_
    refine g_val rfl rfl rfl (fun _ _ => v_pickT rfl rfl) ?_
    refine g_val rfl rfl rfl (fun _ _ => v_assign rfl) ?_
    refine g_nil ?_
    refine g_n_then ?_
    refine g_ret ?_
    refine g_done rfl (fun w hh => (.tmp rfl .nil)) (fun w hh => ⟨?_, hh.toExt⟩)
    simp only [retv, mayFree, *]
    rfl
  · replace hg11_1 := of_not_false hg11_1
    refine g_skipG rfl rfl rfl rfl rfl rfl ?_
    refine g_skipG rfl rfl rfl rfl rfl rfl ?_
    refine g_skipG rfl rfl rfl rfl rfl rfl ?_
    refine g_skipG rfl rfl rfl rfl rfl rfl ?_
    refine g_val rfl rfl rfl (fun _ _ => v_pickF rfl rfl) ?_
    refine g_val rfl rfl rfl (fun _ _ => v_assign rfl) ?_
    refine g_nil ?_
    refine g_n_then ?_
    refine g_ret ?_
    refine g_done rfl (fun w hh => (.tmp rfl .nil)) (fun w hh => ⟨?_, hh.toExt⟩)
    simp only [retv, mayFree, *]
    rfl

set_option maxRecDepth 100000 in
theorem c_Hold (p : Int) (r1 r2 : Option (Nat × Nat)) (sl pl : List Int) (c1 c2 : Nat) (L : LS) (w : World) (hL : L.OK w) (hl1 : sl.length ≤ 1000000) (hl2 : pl.length ≤ 1000000) (hr1 : 0 < sl.length → r1 ≠ none) (hr2 : 0 < pl.length → r2 ≠ none) (hs1 : segOK w (bk r1, off r1, ints sl)) (hs2 : segOK w (bk r2, off r2, ints pl)) : Ret Try.prog 51 [L.val, .int .i64 p, slv r1 sl.length c1, slv r2 pl.length c2] w (.tuple #[.int .i64 (HoldR L.S p sl pl).1, .int .i64 (HoldR L.S p sl pl).2]) := by
  have hlt := hL.tl
  have hlf := hL.fl
  have hls := hL.sl
  refine g_enter (args := [L.val, .int .i64 p, slv r1 sl.length c1, slv r2 pl.length c2]) Try.func51 rfl Try.ntmps51 rfl (e := [(0, _), (1, _), (2, _), (3, _)]) rfl (HS.start w [] ((bk r1, off r1, ints sl) :: (bk r2, off r2, ints pl) :: L.segs) (segsC hs1 (segsC hs2 hL.segs))) ?_
  refine g_seq ?_
  refine g_region ?_
  refine g_box rfl rfl (fun b1 hb1 => ?_)
  refine g_box rfl rfl (fun b2 hb2 => ?_)
  refine g_box rfl rfl (fun b3 hb3 => ?_)
  refine g_val rfl rfl rfl (fun _ _ => v_assign rfl) ?_
  refine g_val rfl rfl rfl (fun _ _ => v_assign rfl) ?_
  refine g_nil ?_
  refine g_n_then ?_
  refine g_seq ?_
  refine g_region ?_
  refine g_val rfl rfl rfl (fun w hh => v_loadAgg (vs := [_, _, _, _, _]) (Try.isAgg29 w) (Try.sizeOf29 w) rfl (hh.cells 2 rfl rfl)) ?_
  by_cases hc : check L.S = 0
  · have hG := good_of_check hc
    have hfl8 := hG.fl
    have htl12 := hG.tl
    have hsl16 := hG.sl
    refine g_callR (ι := Nat) (p := fun _ => True) (S := fun bd => [(bd, 0, L.cells ++ ints (gatesOf L.S))]) (ret := fun bd => .tuple #[ptr bd 0, .int .i64 0]) rfl rfl rfl rfl rfl rfl rfl (fun a w => Try.call102 a w) (fun w hh => c_openedR L w (hL.ext hh.toExt) hc) (fun bd _ => ?_)
    refine g_val rfl rfl rfl (fun _ _ => v_move rfl) ?_
    refine g_val rfl rfl rfl (fun _ _ => v_extract rfl rfl) ?_
    refine g_val rfl rfl rfl (fun _ _ => v_extract rfl rfl) ?_
    refine g_val rfl rfl rfl (fun _ _ => v_assign rfl) ?_
    refine g_val rfl rfl rfl (fun _ _ => v_assign rfl) ?_
    refine g_nil ?_
    refine g_n_then ?_
    refine g_seq ?_
    refine g_block ?_
    refine g_seq ?_
    refine g_region ?_
    refine g_val rfl rfl rfl (fun _ _ => v_move rfl) ?_
    refine g_val rfl rfl rfl (fun _ _ => v_neq rfl rfl) ?_
    refine g_val rfl rfl rfl (fun _ _ => v_assign rfl) ?_
    refine g_nil ?_
    refine g_n_then ?_
    refine g_condF rfl rfl ?_
    refine g_seq ?_
    refine g_draw none (.free 0 (.free 1 (.free 2 (.hoist 3 (.free 4 (.one 5 (.free 6 (.free 7 (.hoist 8 (.free 9 (.one 10 (.free 11 (.free 12 (.free 13 (.hoist 14 (.free 15 (.free 16 (.free 17 (.hoist 18 (.free 19 (.one 20 (.free 21 (.free 22 (.free 23 .done)))))))))))))))))))))))) _ rfl (by decide +kernel) (fun w k hh => hh.draw k) (fun w hh => hh) ?_
    refine p_free rfl rfl rfl rfl (fun _ _ => v_move rfl) ?_
    refine p_free rfl rfl rfl rfl (fun _ _ => v_nilCheck rfl) ?_
    refine p_free rfl rfl rfl rfl (fun w _ => v_fieldAddr 0 (Try.runUnderlying157 w) rfl (Try.sizeOf29 w) rfl) ?_
    refine p_hoist rfl rfl rfl rfl (fun w hh => v_loadAgg (vs := [_, _, _, _, _]) (Try.isAgg29 w) (Try.sizeOf29 w) rfl (hh.rcells 0 0 rfl rfl)) ?_
    refine p_free rfl rfl rfl rfl (fun _ _ => v_move rfl) ?_
    refine p_one rfl ?_
    refine g_callv rfl rfl rfl rfl rfl rfl rfl (fun a w => Try.call89 a w) (fun w hh => c_place _ L w (hL.ext hh.toExt)) ?_
    refine p_next (fun w hh => hh) ?_
    refine p_free rfl rfl rfl rfl (fun _ _ => v_not rfl) ?_
    refine p_free rfl rfl rfl rfl (fun _ _ => v_move rfl) ?_
    refine g_case 37 rfl (fun hg37_1 => ?_) (fun hg37_1 => ?_)
    · replace hg37_1 := of_not_true hg37_1
      have hg37_1 := hg37_1
      refine p_skip rfl rfl rfl rfl rfl rfl rfl ?_
      refine p_skipF rfl rfl rfl rfl rfl rfl rfl ?_
      refine p_one rfl ?_
      refine g_skipG rfl rfl rfl rfl rfl rfl ?_
      refine p_next (fun w hh => hh) ?_
      refine p_skipF rfl rfl rfl rfl rfl rfl rfl ?_
      refine p_free rfl rfl rfl rfl (fun _ _ => v_pickT rfl rfl) ?_
      refine p_free rfl rfl rfl rfl (fun _ _ => v_move rfl) ?_
      refine p_skip rfl rfl rfl rfl rfl rfl rfl ?_
      refine p_skipF rfl rfl rfl rfl rfl rfl rfl ?_
      refine p_skipF rfl rfl rfl rfl rfl rfl rfl ?_
      refine p_skipF rfl rfl rfl rfl rfl rfl rfl ?_
      refine p_skip rfl rfl rfl rfl rfl rfl rfl ?_
      refine p_skipF rfl rfl rfl rfl rfl rfl rfl ?_
      refine p_one rfl ?_
      refine g_skipG rfl rfl rfl rfl rfl rfl ?_
      refine p_next (fun w hh => hh) ?_
      refine p_skipF rfl rfl rfl rfl rfl rfl rfl ?_
      refine p_free rfl rfl rfl rfl (fun _ _ => v_pickT rfl rfl) ?_
      refine p_free rfl rfl rfl rfl (fun _ _ => v_assign rfl) ?_
      refine p_done ?_
      refine g_n_then ?_
      refine g_condT rfl rfl ?_
      refine g_seq ?_
      refine g_region ?_
      refine g_val rfl rfl rfl (fun _ _ => v_assign rfl) ?_
      refine g_val rfl rfl rfl (fun _ _ => v_assign rfl) ?_
      refine g_nil ?_
      refine g_n_then ?_
      refine g_ret ?_
      refine g_r_blk ?_
      refine g_r_then ?_
      refine g_done rfl (fun w hh => (.tmp rfl (.tmp rfl .nil))) (fun w hh => ⟨?_, hh.toExt⟩)
      have eE : holdE L.S p sl pl = 1 := by simp only [holdE, *, ne_eq, not_true_eq_false, not_false_eq_true, if_false, if_true, Bool.true_eq_false, Bool.false_eq_true, or_self, or_true, true_or]
      rw [HoldR, if_pos (by rw [eE]; decide), eE]
      rfl
    · replace hg37_1 := of_not_false hg37_1
      have hpl := isPlace_iff.1 hg37_1
      refine p_hoistG rfl rfl rfl rfl rfl rfl (fun w hh => v_load (Try.isAgg26 w) rfl (hh.cell 1 rfl rfl)) ?_
      refine p_freeG rfl rfl rfl rfl rfl rfl (fun _ _ => v_makeFunc (u := #[]) (u' := #[_]) rfl rfl) ?_
      refine p_one rfl ?_
      refine g_callvG rfl rfl rfl rfl rfl rfl rfl rfl rfl (fun a w => Try.call94 a w) (fun w hh => c_every_int 122 #[] #[ptr b1 0] (isSill L.S) sl r1 c1 w (by omega) hr1 (hh.seg 1 rfl) (fun a w => Try.call122 a w) (fun w2 hx j hj => c_Hold1 _ b1 L w2 ((hL.ext hh.toExt).ext hx) ((hh.ownSeg 2 rfl).ext hx (by simp)))) ?_
      refine p_next (fun w hh => hh) ?_
      refine p_freeG rfl rfl rfl rfl rfl rfl (fun _ _ => v_not rfl) ?_
      refine p_free rfl rfl rfl rfl (fun _ _ => v_pickF rfl rfl) ?_
      refine p_free rfl rfl rfl rfl (fun _ _ => v_move rfl) ?_
      refine g_case 43 rfl (fun hev1 => ?_) (fun hev1 => ?_)
      · replace hev1 := of_not_true hev1
        refine p_skip rfl rfl rfl rfl rfl rfl rfl ?_
        refine p_skipF rfl rfl rfl rfl rfl rfl rfl ?_
        refine p_skipF rfl rfl rfl rfl rfl rfl rfl ?_
        refine p_skipF rfl rfl rfl rfl rfl rfl rfl ?_
        refine p_skip rfl rfl rfl rfl rfl rfl rfl ?_
        refine p_skipF rfl rfl rfl rfl rfl rfl rfl ?_
        refine p_one rfl ?_
        refine g_skipG rfl rfl rfl rfl rfl rfl ?_
        refine p_next (fun w hh => hh) ?_
        refine p_skipF rfl rfl rfl rfl rfl rfl rfl ?_
        refine p_free rfl rfl rfl rfl (fun _ _ => v_pickT rfl rfl) ?_
        refine p_free rfl rfl rfl rfl (fun _ _ => v_assign rfl) ?_
        refine p_done ?_
        refine g_n_then ?_
        refine g_condT rfl rfl ?_
        refine g_seq ?_
        refine g_region ?_
        refine g_val rfl rfl rfl (fun _ _ => v_assign rfl) ?_
        refine g_val rfl rfl rfl (fun _ _ => v_assign rfl) ?_
        refine g_nil ?_
        refine g_n_then ?_
        refine g_ret ?_
        refine g_r_blk ?_
        refine g_r_then ?_
        refine g_done rfl (fun w hh => (.tmp rfl (.tmp rfl .nil))) (fun w hh => ⟨?_, hh.toExt⟩)
        have eE : holdE L.S p sl pl = 1 := by simp only [holdE, *, ne_eq, not_true_eq_false, not_false_eq_true, if_false, if_true, Bool.true_eq_false, Bool.false_eq_true, or_self, or_true, true_or]
        rw [HoldR, if_pos (by rw [eE]; decide), eE]
        rfl
      · replace hev1 := of_not_false hev1
        refine p_hoistG rfl rfl rfl rfl rfl rfl (fun w hh => v_load (Try.isAgg26 w) rfl (hh.cell 0 rfl rfl)) ?_
        refine p_freeG rfl rfl rfl rfl rfl rfl (fun _ _ => v_move rfl) ?_
        refine p_freeG rfl rfl rfl rfl rfl rfl (fun _ _ => v_nilCheck rfl) ?_
        refine p_freeG rfl rfl rfl rfl rfl rfl (fun w _ => v_fieldAddr 0 (Try.runUnderlying157 w) rfl (Try.sizeOf29 w) rfl) ?_
        refine p_hoistG rfl rfl rfl rfl rfl rfl (fun w hh => v_loadAgg (vs := [_, _, _, _, _]) (Try.isAgg29 w) (Try.sizeOf29 w) rfl (hh.rcells 0 0 rfl rfl)) ?_
        refine p_freeG rfl rfl rfl rfl rfl rfl (fun _ _ => v_makeFunc (u := #[_]) (u' := #[]) rfl rfl) ?_
        refine p_one rfl ?_
        refine g_callvG rfl rfl rfl rfl rfl rfl rfl rfl rfl (fun a w => Try.call94 a w) (fun w hh => c_every_int 89 #[L.val] #[] (isPlace L.S) pl r2 c2 w (by omega) hr2 (hh.seg 2 rfl) (fun a w => Try.call89 a w) (fun w2 hx j hj => c_place _ L w2 ((hL.ext hh.toExt).ext hx))) ?_
        refine p_next (fun w hh => hh) ?_
        refine p_freeG rfl rfl rfl rfl rfl rfl (fun _ _ => v_not rfl) ?_
        refine p_free rfl rfl rfl rfl (fun _ _ => v_pickF rfl rfl) ?_
        refine p_free rfl rfl rfl rfl (fun _ _ => v_assign rfl) ?_
        refine p_done ?_
        refine g_n_then ?_
        refine g_cond rfl (fun hev2 => ?_) (fun hev2 => ?_)
        · replace hev2 := of_not_true hev2
          refine g_seq ?_
          refine g_region ?_
          refine g_val rfl rfl rfl (fun _ _ => v_assign rfl) ?_
          refine g_val rfl rfl rfl (fun _ _ => v_assign rfl) ?_
          refine g_nil ?_
          refine g_n_then ?_
          refine g_ret ?_
          refine g_r_blk ?_
          refine g_r_then ?_
          refine g_done rfl (fun w hh => (.tmp rfl (.tmp rfl .nil))) (fun w hh => ⟨?_, hh.toExt⟩)
          have eE : holdE L.S p sl pl = 1 := by simp only [holdE, *, ne_eq, not_true_eq_false, not_false_eq_true, if_false, if_true, Bool.true_eq_false, Bool.false_eq_true, or_self, or_true, true_or]
          rw [HoldR, if_pos (by rw [eE]; decide), eE]
          rfl
        · replace hev2 := of_not_false hev2
          refine g_seq ?_
          refine g_region ?_
          refine g_val rfl rfl rfl (fun w hh => v_load (Try.isAgg26 w) rfl (hh.cell 1 rfl rfl)) ?_
          refine g_callv rfl rfl rfl rfl rfl rfl rfl (fun a w => Try.call123 a w) (fun w hh => c_twice r1 sl c1 w (by omega) hr1 (hh.seg 1 rfl)) ?_
          refine g_val rfl rfl rfl (fun _ _ => v_move rfl) ?_
          refine g_case 56 rfl (fun hg56_4 => ?_) (fun hg56_4 => ?_)
          · have hg56_4 := hg56_4
            refine g_skipG rfl rfl rfl rfl rfl rfl ?_
            refine g_skipG rfl rfl rfl rfl rfl rfl ?_
            refine g_val rfl rfl rfl (fun _ _ => v_pickT rfl rfl) ?_
            refine g_val rfl rfl rfl (fun _ _ => v_assign rfl) ?_
            refine g_nil ?_
            refine g_n_then ?_
            refine g_condT rfl rfl ?_
            refine g_seq ?_
            refine g_region ?_
            refine g_val rfl rfl rfl (fun _ _ => v_assign rfl) ?_
            refine g_val rfl rfl rfl (fun _ _ => v_assign rfl) ?_
            refine g_nil ?_
            refine g_n_then ?_
            refine g_ret ?_
            refine g_r_blk ?_
            refine g_r_then ?_
            refine g_done rfl (fun w hh => (.tmp rfl (.tmp rfl .nil))) (fun w hh => ⟨?_, hh.toExt⟩)
            have eE : holdE L.S p sl pl = 5 := by simp only [holdE, *, ne_eq, not_true_eq_false, not_false_eq_true, if_false, if_true, Bool.true_eq_false, Bool.false_eq_true, or_self, or_true, true_or]
            rw [HoldR, if_pos (by rw [eE]; decide), eE]
            rfl
          · have hg56_4 := hg56_4
            refine g_valG rfl rfl rfl rfl rfl (fun w hh => v_load (Try.isAgg26 w) rfl (hh.cell 0 rfl rfl)) ?_
            refine g_callvG rfl rfl rfl rfl rfl rfl rfl rfl rfl (fun a w => Try.call123 a w) (fun w hh => c_twice r2 pl c2 w (by omega) hr2 (hh.seg 2 rfl)) ?_
            refine g_val rfl rfl rfl (fun _ _ => v_pickF rfl rfl) ?_
            refine g_val rfl rfl rfl (fun _ _ => v_assign rfl) ?_
            refine g_nil ?_
            refine g_n_then ?_
            refine g_cond rfl (fun hc53_5 => ?_) (fun hc53_5 => ?_)
            · have hc53_5 := hc53_5
              refine g_seq ?_
              refine g_region ?_
              refine g_val rfl rfl rfl (fun _ _ => v_assign rfl) ?_
              refine g_val rfl rfl rfl (fun _ _ => v_assign rfl) ?_
              refine g_nil ?_
              refine g_n_then ?_
              refine g_ret ?_
              refine g_r_blk ?_
              refine g_r_then ?_
              refine g_done rfl (fun w hh => (.tmp rfl (.tmp rfl .nil))) (fun w hh => ⟨?_, hh.toExt⟩)
              have eE : holdE L.S p sl pl = 5 := by simp only [holdE, *, ne_eq, not_true_eq_false, not_false_eq_true, if_false, if_true, Bool.true_eq_false, Bool.false_eq_true, or_self, or_true, true_or]
              rw [HoldR, if_pos (by rw [eE]; decide), eE]
              rfl
            · have hc53_5 := hc53_5
              refine g_skip ?_
              refine g_n_blk ?_
              refine g_n_then ?_
              refine g_seq ?_
              refine g_region ?_
              refine g_val rfl rfl rfl (fun _ _ => v_move rfl) ?_
              refine g_val rfl rfl rfl (fun _ _ => v_makeFunc (u := #[]) (u' := #[_, _]) rfl rfl) ?_
              refine g_callW (ι := Nat × List WV) (p := fun i => wproj i.2 = waysF L.S (mayFree sl pl) ∧ ∀ e, e ∈ i.2 → e.ok) (A := fun i => (i.1, mobj (mlist i.2))) (T := fun i => wown i.2) (ret := fun i => .map (some i.1)) rfl rfl rfl rfl rfl rfl rfl (fun a w => Try.call124 a w) (fun w hh => (c_ways L bd (gatesOf L.S) 125 #[] #[ptr b2 0, ptr b3 0] (mayFree sl pl) w (hL.ext hh.toExt) hG (hh.seg 0 rfl) (fun a w => Try.call125 a w) (fun w2 hx k q hk hq => c_Hold2 r1 r2 sl pl c1 c2 _ _ b2 b3 w2 hl1 hl2 hr1 hr2 ((hh.seg 1 rfl).ext hx (by simp)) ((hh.seg 2 rfl).ext hx (by simp)) ((hh.ownSeg 1 rfl).ext hx (by simp)) ((hh.ownSeg 0 rfl).ext hx (by simp)))).mono (by rintro en w' ⟨bm, W, rfl, h1, h2, h3⟩; exact ⟨(bm, W), rfl, ⟨h1, h2⟩, h3⟩)) ?_
              rintro ⟨bm, W⟩ ⟨hWp, hWo⟩
              refine g_val rfl rfl rfl (fun _ _ => v_assign rfl) ?_
              refine g_nil ?_
              refine g_n_then ?_
              refine g_seq ?_
              refine g_seq ?_
              refine g_region ?_
              refine g_val rfl rfl rfl (fun _ _ => v_move rfl) ?_
              refine g_val rfl rfl rfl (fun _ _ => v_move rfl) ?_
              refine g_val rfl rfl rfl (fun w hh => v_lookup2 (Try.runUnderlying170 w) (Try.runUnderlying3 w) (Try.zeroValue26 w) rfl rfl (hh.get 0 rfl)) ?_
              refine g_val rfl rfl rfl (fun _ _ => v_move rfl) ?_
              refine g_val rfl rfl rfl (fun _ _ => v_extract rfl rfl) ?_
              refine g_val rfl rfl rfl (fun _ _ => v_extract rfl rfl) ?_
              refine g_val rfl rfl rfl (fun _ _ => v_assign rfl) ?_
              refine g_val rfl rfl rfl (fun _ _ => v_assign rfl) ?_
              refine g_nil ?_
              refine g_n_then ?_
              refine g_seq ?_
              refine g_region ?_
              refine g_val rfl rfl rfl (fun _ _ => v_move rfl) ?_
              refine g_nil ?_
              refine g_n_then ?_
              refine g_cond rfl (fun hme => ?_) (fun hme => ?_)
              · rw [mget_isSome, hWp] at hme
                refine g_seq ?_
                refine g_region ?_
                refine g_val rfl rfl rfl (fun _ _ => v_assign rfl) ?_
                refine g_val rfl rfl rfl (fun _ _ => v_assign rfl) ?_
                refine g_nil ?_
                refine g_n_then ?_
                refine g_ret ?_
                refine g_r_then ?_
                refine g_done rfl (fun w hh => (.tmp rfl (.tmp rfl .nil))) (fun w hh => ⟨?_, hh.toExt⟩)
                have eE : holdE L.S p sl pl = 8 := by simp only [holdE, *, ne_eq, not_true_eq_false, not_false_eq_true, if_false, if_true, Bool.true_eq_false, Bool.false_eq_true, or_self, or_true, true_or]
                rw [HoldR, if_pos (by rw [eE]; decide), eE]
                rfl
              · rw [mget_isSome, hWp] at hme
                refine g_skip ?_
                refine g_n_then ?_
                refine g_seq ?_
                refine g_seq ?_
                refine g_region ?_
                refine g_val rfl rfl rfl (fun w hh => v_load (Try.isAgg26 w) rfl (hh.cell 2 rfl rfl)) ?_
                refine g_val rfl rfl rfl (fun w _ => v_lenS (Try.runUnderlying26 w) rfl) ?_
                refine g_val rfl rfl rfl (fun w hh => v_load (Try.isAgg26 w) rfl (hh.cell 1 rfl rfl)) ?_
                refine g_val rfl rfl rfl (fun w _ => v_lenS (Try.runUnderlying26 w) rfl) ?_
                refine g_val rfl rfl rfl (fun _ _ => v_add rfl rfl (wrap_i64 (by omega))) ?_
                refine g_val rfl rfl rfl (fun _ _ => v_eql rfl rfl) ?_
                refine g_nil ?_
                refine g_n_then ?_
                refine g_cond rfl (fun hc75_7 => ?_) (fun hc75_7 => ?_)
                · replace hc75_7 := of_decide_eq_true hc75_7
                  refine g_seq ?_
                  refine g_region ?_
                  refine g_val rfl rfl rfl (fun _ _ => v_assign rfl) ?_
                  refine g_val rfl rfl rfl (fun _ _ => v_assign rfl) ?_
                  refine g_nil ?_
                  refine g_n_then ?_
                  refine g_ret ?_
                  refine g_r_then ?_
                  refine g_done rfl (fun w hh => (.tmp rfl (.tmp rfl .nil))) (fun w hh => ⟨?_, hh.toExt⟩)
                  have eE : holdE L.S p sl pl = 6 := by simp only [holdE, *, ne_eq, not_true_eq_false, not_false_eq_true, if_false, if_true, Bool.true_eq_false, Bool.false_eq_true, or_self, or_true, true_or]
                  rw [HoldR, if_pos (by rw [eE]; decide), eE]
                  rfl
                · replace hc75_7 := of_decide_eq_false hc75_7
                  refine g_skip ?_
                  refine g_n_then ?_
                  refine g_seq ?_
                  refine g_region ?_
                  refine g_val rfl rfl rfl (fun _ _ => v_assign rfl) ?_
                  refine g_nil ?_
                  refine g_n_then ?_
                  refine g_seq ?_
                  refine g_seq ?_
                  refine g_region ?_
                  refine g_val rfl rfl rfl (fun w hh => v_load (Try.isAgg26 w) rfl (hh.cell 2 rfl rfl)) ?_
                  refine g_val rfl rfl rfl (fun w _ => v_lenS (Try.runUnderlying26 w) rfl) ?_
                  refine g_val rfl rfl rfl (fun _ _ => v_move rfl) ?_
                  refine g_nil ?_
                  refine g_n_then ?_
                  refine g_block ?_
                  refine g_sub (e' := [(78, _), (15, _), (4, _), (7, _), (76, _), (77, _)]) ((.cons rfl (.cons rfl (.cons rfl (.cons rfl (.cons rfl (.cons rfl .nil))))))) ?_
                  refine g_loopM (ι := Nat) (fun k => [(78, .int .i64 (k : Nat)), (15, .int .i64 (holdS L.S (sl.take k)))]) (fun k => []) (fun k => k ≤ sl.length) (fun k => sl.length - k) 0 (Nat.zero_le _) ?_
                  intro k hI1
                  refine g_seq ?_
                  refine g_region ?_
                  refine g_val rfl rfl rfl (fun _ _ => v_lss rfl rfl) ?_
                  refine g_nil ?_
                  refine g_n_then ?_
                  refine g_seq ?_
                  refine g_cond rfl (fun h79 => ?_) (fun h79 => ?_)
                  · replace h79 := of_decide_eq_true h79
                    have hin := isSill_iff.1 (all_getD (d := (0 : Int)) hev1 (j := k) (by omega))
                    refine g_skip ?_
                    refine g_n_then ?_
                    refine g_seq ?_
                    refine g_block ?_
                    refine g_seq ?_
                    refine g_region ?_
                    refine g_val rfl rfl rfl (fun w _ => v_indexAddr1 k (Try.runUnderlying26 w) (Try.sizeOf3 w) rfl rfl rfl (by omega) (hr1 (by omega))) ?_
                    refine g_val rfl rfl rfl (fun w hh => v_load (Try.isAgg3 w) rfl (hh.int (j := k) 1 rfl (by omega))) ?_
                    refine g_val rfl rfl rfl (fun _ _ => v_assign rfl) ?_
                    refine g_nil ?_
                    refine g_n_then ?_
                    refine g_region ?_
                    refine g_val rfl rfl rfl (fun _ _ => v_move rfl) ?_
                    refine g_val rfl rfl rfl (fun w _ => v_fieldAddr 4 (Try.runUnderlying29 w) rfl (Try.sizeOf27 w) rfl) ?_
                    refine g_val rfl rfl rfl (fun w hh => v_load (Try.isAgg27 w) rfl (hh.cell 3 rfl rfl)) ?_
                    refine g_val rfl rfl rfl (fun _ _ => v_move rfl) ?_
                    refine g_val rfl rfl rfl (fun w _ => v_idxI (Try.runUnderlying27 w) (Try.sizeOf51 w) rfl rfl (by omega) (by omega) (hL.s0 (by omega))) ?_
                    refine g_val rfl rfl rfl (fun w _ => v_fieldAddr 2 (Try.runUnderlying51 w) rfl (Try.sizeOf3 w) rfl) ?_
                    refine g_val rfl rfl rfl (fun w hh => v_load (Try.isAgg3 w) rfl (hh.fld encS_len 5 2 rfl (by omega) rfl rfl)) ?_
                    refine g_val rfl rfl rfl (fun _ _ => v_min rfl rfl) ?_
                    refine g_val rfl rfl rfl (fun _ _ => v_assign rfl) ?_
                    refine g_nil ?_
                    refine g_n_blk ?_
                    refine g_n_then ?_
                    refine g_region ?_
                    refine g_val rfl rfl rfl (fun _ _ => v_add rfl rfl (wrap_i64 (by omega))) ?_
                    refine g_val rfl rfl rfl (fun _ _ => v_move rfl) ?_
                    refine g_nil ?_
                    refine g_n_then ?_
                    have e1 : holdS L.S (sl.take (k + 1)) = min (holdS L.S (sl.take k)) (L.S.sills.getD (sl.getD k 0).toNat default).h := take_foldl (d := (0 : Int)) (by omega)
                    refine g_set 15 rfl (congrArg (Value.int .i64) e1.symm) ?_
                    exact g_againD (i := k) (k + 1) 0 ((.cons rfl (.cons rfl (.cons rfl (.cons rfl (.cons rfl (.cons rfl .nil))))))) rfl (by omega) (by omega)
                  · replace h79 := of_decide_eq_false h79
                    have ek : k = sl.length := by omega
                    subst ek
                    rw [List.take_length]
                    refine g_exit ?_
                    refine g_x_then ?_
                    refine g_x_then ?_
                    refine g_x_blk ?_
                    refine g_n_then ?_
                    refine g_seq ?_
                    refine g_seq ?_
                    refine g_region ?_
                    refine g_val rfl rfl rfl (fun w hh => v_load (Try.isAgg26 w) rfl (hh.cell 1 rfl rfl)) ?_
                    refine g_val rfl rfl rfl (fun w _ => v_lenS (Try.runUnderlying26 w) rfl) ?_
                    refine g_val rfl rfl rfl (fun _ _ => v_move rfl) ?_
                    refine g_nil ?_
                    refine g_n_then ?_
                    refine g_block ?_
                    refine g_sub (e' := [(93, _), (15, _), (4, _), (91, _), (92, _)]) ((.cons rfl (.cons rfl (.cons rfl (.cons rfl (.cons rfl .nil)))))) ?_
                    refine g_loopM (ι := Nat) (fun k => [(93, .int .i64 (k : Nat)), (15, .int .i64 (holdV L.S sl (pl.take k)))]) (fun k => []) (fun k => k ≤ pl.length) (fun k => pl.length - k) 0 (Nat.zero_le _) ?_
                    intro k hI3
                    refine g_seq ?_
                    refine g_region ?_
                    refine g_val rfl rfl rfl (fun _ _ => v_lss rfl rfl) ?_
                    refine g_nil ?_
                    refine g_n_then ?_
                    refine g_seq ?_
                    refine g_cond rfl (fun h94 => ?_) (fun h94 => ?_)
                    · replace h94 := of_decide_eq_true h94
                      have hin := isPlace_iff.1 (all_getD (d := (0 : Int)) hev2 (j := k) (by omega))
                      refine g_skip ?_
                      refine g_n_then ?_
                      refine g_seq ?_
                      refine g_block ?_
                      refine g_seq ?_
                      refine g_region ?_
                      refine g_val rfl rfl rfl (fun w _ => v_indexAddr1 k (Try.runUnderlying26 w) (Try.sizeOf3 w) rfl rfl rfl (by omega) (hr2 (by omega))) ?_
                      refine g_val rfl rfl rfl (fun w hh => v_load (Try.isAgg3 w) rfl (hh.int (j := k) 2 rfl (by omega))) ?_
                      refine g_val rfl rfl rfl (fun _ _ => v_assign rfl) ?_
                      refine g_nil ?_
                      refine g_n_then ?_
                      refine g_region ?_
                      refine g_val rfl rfl rfl (fun _ _ => v_move rfl) ?_
                      refine g_val rfl rfl rfl (fun w _ => v_fieldAddr 3 (Try.runUnderlying29 w) rfl (Try.sizeOf26 w) rfl) ?_
                      refine g_val rfl rfl rfl (fun w hh => v_load (Try.isAgg26 w) rfl (hh.cell 3 rfl rfl)) ?_
                      refine g_val rfl rfl rfl (fun _ _ => v_move rfl) ?_
                      refine g_val rfl rfl rfl (fun w _ => v_idxI1 (Try.runUnderlying26 w) (Try.sizeOf3 w) rfl rfl (by omega) (by omega) (hL.f0 (by omega))) ?_
                      refine g_val rfl rfl rfl (fun w hh => v_load (Try.isAgg3 w) rfl (hh.int 4 rfl (by omega))) ?_
                      refine g_val rfl rfl rfl (fun _ _ => v_min rfl rfl) ?_
                      refine g_val rfl rfl rfl (fun _ _ => v_assign rfl) ?_
                      refine g_nil ?_
                      refine g_n_blk ?_
                      refine g_n_then ?_
                      refine g_region ?_
                      refine g_val rfl rfl rfl (fun _ _ => v_add rfl rfl (wrap_i64 (by omega))) ?_
                      refine g_val rfl rfl rfl (fun _ _ => v_move rfl) ?_
                      refine g_nil ?_
                      refine g_n_then ?_
                      have e1 : holdV L.S sl (pl.take (k + 1)) = min (holdV L.S sl (pl.take k)) (L.S.floors.getD (pl.getD k 0).toNat 0) := take_foldl (d := (0 : Int)) (by omega)
                      refine g_set 15 rfl (congrArg (Value.int .i64) e1.symm) ?_
                      exact g_againD (i := k) (k + 1) 0 ((.cons rfl (.cons rfl (.cons rfl (.cons rfl (.cons rfl .nil)))))) rfl (by omega) (by omega)
                    · replace h94 := of_decide_eq_false h94
                      have ek : k = pl.length := by omega
                      subst ek
                      rw [List.take_length]
                      refine g_exit ?_
                      refine g_x_then ?_
                      refine g_x_then ?_
                      refine g_x_blk ?_
                      refine g_n_then ?_
                      refine g_seq ?_
                      refine g_region ?_
                      refine g_val rfl rfl rfl (fun _ _ => v_move rfl) ?_
                      refine g_val rfl rfl rfl (fun _ _ => v_assign rfl) ?_
                      refine g_val rfl rfl rfl (fun _ _ => v_assign rfl) ?_
                      refine g_nil ?_
                      refine g_n_then ?_
                      refine g_ret ?_
                      refine g_done rfl (fun w hh => (.tmp rfl (.tmp rfl .nil))) (fun w hh => ⟨?_, hh.toExt⟩)
                      have eE : holdE L.S p sl pl = 0 := by simp only [holdE, *, ne_eq, not_true_eq_false, if_false, Bool.true_eq_false, Bool.false_eq_true, or_self]
                      rw [HoldR, if_neg (by simp [eE])]
                      rfl
  · refine g_callv rfl rfl rfl rfl rfl rfl rfl (fun a w => Try.call102 a w) (fun w hh => c_openedE L w (hL.ext hh.toExt) hc) ?_
    refine g_val rfl rfl rfl (fun _ _ => v_move rfl) ?_
    refine g_val rfl rfl rfl (fun _ _ => v_extract rfl rfl) ?_
    refine g_val rfl rfl rfl (fun _ _ => v_extract rfl rfl) ?_
    refine g_val rfl rfl rfl (fun _ _ => v_assign rfl) ?_
    refine g_val rfl rfl rfl (fun _ _ => v_assign rfl) ?_
    refine g_nil ?_
    refine g_n_then ?_
    refine g_seq ?_
    refine g_block ?_
    refine g_seq ?_
    refine g_region ?_
    refine g_val rfl rfl rfl (fun _ _ => v_move rfl) ?_
    refine g_val rfl rfl rfl (fun _ _ => v_neq rfl rfl) ?_
    refine g_val rfl rfl rfl (fun _ _ => v_assign rfl) ?_
    refine g_nil ?_
    refine g_n_then ?_
    refine g_condT rfl (neP hc) ?_
    refine g_seq ?_
    refine g_region ?_
    refine g_val rfl rfl rfl (fun _ _ => v_move rfl) ?_
    refine g_val rfl rfl rfl (fun _ _ => v_assign rfl) ?_
    refine g_val rfl rfl rfl (fun _ _ => v_assign rfl) ?_
    refine g_nil ?_
    refine g_n_then ?_
    refine g_ret ?_
    refine g_r_blk ?_
    refine g_r_then ?_
    refine g_done rfl (fun w hh => (.tmp rfl (.tmp rfl .nil))) (fun w hh => ⟨?_, hh.toExt⟩)
    have eE : holdE L.S p sl pl = check L.S := by simp only [holdE, *, ne_eq, not_true_eq_false, not_false_eq_true, if_false, if_true, Bool.true_eq_false, Bool.false_eq_true, or_self, or_true, true_or]
    rw [HoldR, if_pos (by rw [eE]; exact hc), eE]
    rfl

end Go.Proofs

namespace Go.Proofs
open Go Go.Fw Go.Pl
set_option maxRecDepth 100000 in
theorem c_pick (b : Nat) (r : Option Addr) (l : List Int) (cap : Nat) (p : Int × Int) (w : World) (hb : w.heap[b]? = some (hobj r l.length cap p)) (hs : segOK w (bkA r, offA r, u8s l)) (hne : u8s l ≠ [] → bkA r ≠ b) (hr : 0 < l.length → ∃ sb so, r = some ⟨sb, so, none⟩) (hl : l.length ≤ 9223372036854775807) (hp : hok l.length p) : Calls Try.prog 132 #[ptr b 0] w (fun en w' => ∃ (n : Int) (q : Int × Int), en = .returned (.int .i64 n) ∧ (0 ≤ n ∧ n ≤ 32767) ∧ hok l.length q ∧ Ext [b] w w' ∧ w'.heap[b]? = some (hobj r l.length cap q)) := by
  unfold hok at hp
  refine g_enter (args := [ptr b 0]) Try.func132 rfl Try.ntmps132 rfl (e := [(0, _)]) rfl (HS.start1 w b (hobj r l.length cap p) [(bkA r, offA r, u8s l)] hb (by simpa using ⟨hs, hne⟩)) ?_
  refine g_seq ?_
  refine g_region ?_
  refine g_val rfl rfl rfl (fun _ _ => v_assign rfl) ?_
  refine g_nil ?_
  refine g_n_then ?_
  refine g_seq ?_
  refine g_region ?_
  refine g_val rfl rfl rfl (fun _ _ => v_move rfl) ?_
  refine g_val rfl rfl rfl (fun _ _ => v_nilCheck rfl) ?_
  refine g_val rfl rfl rfl (fun w _ => v_fieldAddr 2 (Try.runUnderlying138 w) rfl (Try.sizeOf136 w) rfl) ?_
  refine g_val rfl rfl rfl (fun w hh => v_load (Try.isAgg136 w) rfl (hh.cell 0 rfl rfl)) ?_
  refine g_val rfl rfl rfl (fun _ _ => v_addW rfl rfl) ?_
  refine g_val rfl rfl rfl (fun _ _ => v_mulW rfl rfl) ?_
  refine g_val rfl rfl rfl (fun _ _ => v_assign rfl) ?_
  refine g_nil ?_
  refine g_n_then ?_
  refine g_seq ?_
  refine g_seq ?_
  refine g_draw none (.free 0 (.free 1 (.free 2 (.hoist 3 (.free 4 (.free 5 (.free 6 (.hoist 7 (.free 8 (.free 9 .done)))))))))) _ rfl (by decide +kernel) (fun w k hh => hh.draw k) (fun w hh => hh) ?_
  refine p_free rfl rfl rfl rfl (fun _ _ => v_move rfl) ?_
  refine p_free rfl rfl rfl rfl (fun _ _ => v_nilCheck rfl) ?_
  refine p_free rfl rfl rfl rfl (fun w _ => v_fieldAddr 1 (Try.runUnderlying138 w) rfl (Try.sizeOf3 w) rfl) ?_
  refine p_hoist rfl rfl rfl rfl (fun w hh => v_load (Try.isAgg3 w) rfl (hh.cell 0 rfl rfl)) ?_
  refine p_free rfl rfl rfl rfl (fun _ _ => v_move rfl) ?_
  refine p_free rfl rfl rfl rfl (fun _ _ => v_nilCheck rfl) ?_
  refine p_free rfl rfl rfl rfl (fun w _ => v_fieldAddr 0 (Try.runUnderlying138 w) rfl (Try.sizeOf22 w) rfl) ?_
  refine p_hoist rfl rfl rfl rfl (fun w hh => v_load (Try.isAgg22 w) rfl (hh.cell 0 rfl rfl)) ?_
  refine p_free rfl rfl rfl rfl (fun w _ => v_len (Try.runUnderlying22 w) rfl) ?_
  refine p_free rfl rfl rfl rfl (fun _ _ => v_lss rfl rfl) ?_
  refine p_done ?_
  refine g_n_then ?_
  refine g_cond rfl (fun h19 => ?_) (fun h19 => ?_)
  · replace h19 := of_decide_eq_true h19
    obtain ⟨sb, so, rfl⟩ := hr (by omega)
    refine g_draw none (.free 0 (.free 1 (.free 2 (.free 3 (.hoist 4 (.free 5 (.free 6 (.free 7 (.hoist 8 (.hoist 9 (.hoist 10 (.free 11 (.free 12 (.free 13 (.free 14 .done))))))))))))))) _ rfl (by decide +kernel) (fun w k hh => hh.draw k) (fun w hh => hh) ?_
    refine p_free rfl rfl rfl rfl (fun _ _ => v_move rfl) ?_
    refine p_free rfl rfl rfl rfl (fun _ _ => v_move rfl) ?_
    refine p_free rfl rfl rfl rfl (fun _ _ => v_nilCheck rfl) ?_
    refine p_free rfl rfl rfl rfl (fun w _ => v_fieldAddr 0 (Try.runUnderlying138 w) rfl (Try.sizeOf22 w) rfl) ?_
    refine p_hoist rfl rfl rfl rfl (fun w hh => v_load (Try.isAgg22 w) rfl (hh.cell 0 rfl rfl)) ?_
    refine p_free rfl rfl rfl rfl (fun _ _ => v_move rfl) ?_
    refine p_free rfl rfl rfl rfl (fun _ _ => v_nilCheck rfl) ?_
    refine p_free rfl rfl rfl rfl (fun w _ => v_fieldAddr 1 (Try.runUnderlying138 w) rfl (Try.sizeOf3 w) rfl) ?_
    refine p_hoist rfl rfl rfl rfl (fun w hh => v_load (Try.isAgg3 w) rfl (hh.cell 0 rfl rfl)) ?_
    refine p_hoist rfl rfl rfl rfl (fun w _ => v_idxI1 (r := some (sb, so)) (Try.runUnderlying22 w) (Try.sizeOf5 w) rfl rfl (by omega) (by omega) (by simp)) ?_
    refine p_hoist rfl rfl rfl rfl (fun w hh => v_load (Try.isAgg5 w) rfl (hh.u8 0 rfl (by omega))) ?_
    refine p_free rfl rfl rfl rfl (fun w _ => v_conv (Try.runUnderlying5 w) (Try.runUnderlying136 w) rfl) ?_
    refine p_free rfl rfl rfl rfl (fun _ _ => v_mulW rfl rfl) ?_
    refine p_free rfl rfl rfl rfl (fun _ _ => v_addW rfl rfl) ?_
    refine p_free rfl rfl rfl rfl (fun _ _ => v_assign rfl) ?_
    refine p_done ?_
    refine g_n_then ?_
    refine g_seq ?_
    refine g_seq ?_
    refine g_region ?_
    refine g_val rfl rfl rfl (fun _ _ => v_move rfl) ?_
    refine g_val rfl rfl rfl (fun _ _ => v_nilCheck rfl) ?_
    refine g_val rfl rfl rfl (fun w _ => v_fieldAddr 1 (Try.runUnderlying138 w) rfl (Try.sizeOf3 w) rfl) ?_
    refine g_val rfl rfl rfl (fun w hh => v_load (Try.isAgg3 w) rfl (hh.cell 0 rfl rfl)) ?_
    refine g_val rfl rfl rfl (fun _ _ => v_add rfl rfl (wrap_i64 (by omega))) ?_
    refine g_val rfl rfl rfl (fun _ _ => v_nilCheck rfl) ?_
    refine g_val rfl rfl rfl (fun w _ => v_fieldAddr 1 (Try.runUnderlying138 w) rfl (Try.sizeOf3 w) rfl) ?_
    refine g_storeAt (cs' := #[_, _, _]) (own' := (_ :: _)) 0 (fun w => Try.sizeOf3 w) rfl rfl rfl rfl rfl rfl rfl ?_
    refine g_nil ?_
    refine g_n_then ?_
    refine g_seq ?_
    refine g_draw none (.free 0 (.free 1 (.free 2 (.hoist 3 (.free 4 (.free 5 (.free 6 (.hoist 7 (.free 8 (.free 9 .done)))))))))) _ rfl (by decide +kernel) (fun w k hh => hh.draw k) (fun w hh => hh) ?_
    refine p_free rfl rfl rfl rfl (fun _ _ => v_move rfl) ?_
    refine p_free rfl rfl rfl rfl (fun _ _ => v_nilCheck rfl) ?_
    refine p_free rfl rfl rfl rfl (fun w _ => v_fieldAddr 1 (Try.runUnderlying138 w) rfl (Try.sizeOf3 w) rfl) ?_
    refine p_hoist rfl rfl rfl rfl (fun w hh => v_load (Try.isAgg3 w) rfl (hh.cell 0 rfl rfl)) ?_
    refine p_free rfl rfl rfl rfl (fun _ _ => v_move rfl) ?_
    refine p_free rfl rfl rfl rfl (fun _ _ => v_nilCheck rfl) ?_
    refine p_free rfl rfl rfl rfl (fun w _ => v_fieldAddr 0 (Try.runUnderlying138 w) rfl (Try.sizeOf22 w) rfl) ?_
    refine p_hoist rfl rfl rfl rfl (fun w hh => v_load (Try.isAgg22 w) rfl (hh.cell 0 rfl rfl)) ?_
    refine p_free rfl rfl rfl rfl (fun w _ => v_len (Try.runUnderlying22 w) rfl) ?_
    refine p_free rfl rfl rfl rfl (fun _ _ => v_geq rfl rfl) ?_
    refine p_done ?_
    refine g_n_then ?_
    refine g_cond rfl (fun hc50_2 => ?_) (fun hc50_2 => ?_)
    · replace hc50_2 := of_decide_eq_true hc50_2
      refine g_region ?_
      refine g_val rfl rfl rfl (fun _ _ => v_move rfl) ?_
      refine g_val rfl rfl rfl (fun _ _ => v_move rfl) ?_
      refine g_val rfl rfl rfl (fun _ _ => v_move rfl) ?_
      refine g_val rfl rfl rfl (fun _ _ => v_nilCheck rfl) ?_
      refine g_val rfl rfl rfl (fun w _ => v_fieldAddr 2 (Try.runUnderlying138 w) rfl (Try.sizeOf136 w) rfl) ?_
      refine g_val rfl rfl rfl (fun w hh => v_load (Try.isAgg136 w) rfl (hh.cell 0 rfl rfl)) ?_
      refine g_val rfl rfl rfl (fun _ _ => v_addW rfl rfl) ?_
      refine g_val rfl rfl rfl (fun _ _ => v_nilCheck rfl) ?_
      refine g_val rfl rfl rfl (fun w _ => v_fieldAddr 1 (Try.runUnderlying138 w) rfl (Try.sizeOf3 w) rfl) ?_
      refine g_storeAt (cs' := #[_, _, _]) (own' := (_ :: _)) 0 (fun w => Try.sizeOf3 w) rfl rfl rfl rfl rfl rfl rfl ?_
      refine g_val rfl rfl rfl (fun _ _ => v_nilCheck rfl) ?_
      refine g_val rfl rfl rfl (fun w _ => v_fieldAddr 2 (Try.runUnderlying138 w) rfl (Try.sizeOf136 w) rfl) ?_
      refine g_storeAt (cs' := #[_, _, _]) (own' := (_ :: _)) 0 (fun w => Try.sizeOf136 w) rfl rfl rfl rfl rfl rfl rfl ?_
      refine g_nil ?_
      refine g_n_then ?_
      refine g_seq ?_
      refine g_region ?_
      refine g_val rfl rfl rfl (fun _ _ => v_move rfl) ?_
      refine g_val rfl rfl rfl (fun _ _ => v_move rfl) ?_
      refine g_val rfl rfl rfl (fun _ _ => v_shr rfl rfl (by decide)) ?_
      refine g_val rfl rfl rfl (fun _ _ => v_bits rfl rfl rfl) ?_
      refine g_val rfl rfl rfl (fun _ _ => v_bits rfl rfl rfl) ?_
      refine g_val rfl rfl rfl (fun w _ => v_conv (Try.runUnderlying136 w) (Try.runUnderlying3 w) rfl) ?_
      refine g_val rfl rfl rfl (fun _ _ => v_assign rfl) ?_
      refine g_nil ?_
      refine g_n_then ?_
      refine g_ret ?_
      refine g_done rfl (fun w hh => (.tmp rfl .nil)) (fun w hh => ⟨_, (_, _), rfl, and_bound _ _ rfl, ?_, hh.toExt, hh.get 0 rfl⟩)
      unfold hok at *
      first | (simp; done) | (simp only; omega) | omega
    · replace hc50_2 := of_decide_eq_false hc50_2
      refine g_skip ?_
      refine g_n_then ?_
      refine g_seq ?_
      refine g_region ?_
      refine g_val rfl rfl rfl (fun _ _ => v_move rfl) ?_
      refine g_val rfl rfl rfl (fun _ _ => v_move rfl) ?_
      refine g_val rfl rfl rfl (fun _ _ => v_shr rfl rfl (by decide)) ?_
      refine g_val rfl rfl rfl (fun _ _ => v_bits rfl rfl rfl) ?_
      refine g_val rfl rfl rfl (fun _ _ => v_bits rfl rfl rfl) ?_
      refine g_val rfl rfl rfl (fun w _ => v_conv (Try.runUnderlying136 w) (Try.runUnderlying3 w) rfl) ?_
      refine g_val rfl rfl rfl (fun _ _ => v_assign rfl) ?_
      refine g_nil ?_
      refine g_n_then ?_
      refine g_ret ?_
      refine g_done rfl (fun w hh => (.tmp rfl .nil)) (fun w hh => ⟨_, (_, _), rfl, and_bound _ _ rfl, ?_, hh.toExt, hh.get 0 rfl⟩)
      unfold hok at *
      first | (simp; done) | (simp only; omega) | omega
  · replace h19 := of_decide_eq_false h19
    refine g_skip ?_
    refine g_n_then ?_
    refine g_seq ?_
    refine g_seq ?_
    refine g_region ?_
    refine g_val rfl rfl rfl (fun _ _ => v_move rfl) ?_
    refine g_val rfl rfl rfl (fun _ _ => v_nilCheck rfl) ?_
    refine g_val rfl rfl rfl (fun w _ => v_fieldAddr 1 (Try.runUnderlying138 w) rfl (Try.sizeOf3 w) rfl) ?_
    refine g_val rfl rfl rfl (fun w hh => v_load (Try.isAgg3 w) rfl (hh.cell 0 rfl rfl)) ?_
    refine g_val rfl rfl rfl (fun _ _ => v_add rfl rfl (wrap_i64 (by omega))) ?_
    refine g_val rfl rfl rfl (fun _ _ => v_nilCheck rfl) ?_
    refine g_val rfl rfl rfl (fun w _ => v_fieldAddr 1 (Try.runUnderlying138 w) rfl (Try.sizeOf3 w) rfl) ?_
    refine g_storeAt (cs' := #[_, _, _]) (own' := (_ :: _)) 0 (fun w => Try.sizeOf3 w) rfl rfl rfl rfl rfl rfl rfl ?_
    refine g_nil ?_
    refine g_n_then ?_
    refine g_seq ?_
    refine g_draw none (.free 0 (.free 1 (.free 2 (.hoist 3 (.free 4 (.free 5 (.free 6 (.hoist 7 (.free 8 (.free 9 .done)))))))))) _ rfl (by decide +kernel) (fun w k hh => hh.draw k) (fun w hh => hh) ?_
    refine p_free rfl rfl rfl rfl (fun _ _ => v_move rfl) ?_
    refine p_free rfl rfl rfl rfl (fun _ _ => v_nilCheck rfl) ?_
    refine p_free rfl rfl rfl rfl (fun w _ => v_fieldAddr 1 (Try.runUnderlying138 w) rfl (Try.sizeOf3 w) rfl) ?_
    refine p_hoist rfl rfl rfl rfl (fun w hh => v_load (Try.isAgg3 w) rfl (hh.cell 0 rfl rfl)) ?_
    refine p_free rfl rfl rfl rfl (fun _ _ => v_move rfl) ?_
    refine p_free rfl rfl rfl rfl (fun _ _ => v_nilCheck rfl) ?_
    refine p_free rfl rfl rfl rfl (fun w _ => v_fieldAddr 0 (Try.runUnderlying138 w) rfl (Try.sizeOf22 w) rfl) ?_
    refine p_hoist rfl rfl rfl rfl (fun w hh => v_load (Try.isAgg22 w) rfl (hh.cell 0 rfl rfl)) ?_
    refine p_free rfl rfl rfl rfl (fun w _ => v_len (Try.runUnderlying22 w) rfl) ?_
    refine p_free rfl rfl rfl rfl (fun _ _ => v_geq rfl rfl) ?_
    refine p_done ?_
    refine g_n_then ?_
    refine g_cond rfl (fun hc50_3 => ?_) (fun hc50_3 => ?_)
    · replace hc50_3 := of_decide_eq_true hc50_3
      refine g_region ?_
      refine g_val rfl rfl rfl (fun _ _ => v_move rfl) ?_
      refine g_val rfl rfl rfl (fun _ _ => v_move rfl) ?_
      refine g_val rfl rfl rfl (fun _ _ => v_move rfl) ?_
      refine g_val rfl rfl rfl (fun _ _ => v_nilCheck rfl) ?_
      refine g_val rfl rfl rfl (fun w _ => v_fieldAddr 2 (Try.runUnderlying138 w) rfl (Try.sizeOf136 w) rfl) ?_
      refine g_val rfl rfl rfl (fun w hh => v_load (Try.isAgg136 w) rfl (hh.cell 0 rfl rfl)) ?_
      refine g_val rfl rfl rfl (fun _ _ => v_addW rfl rfl) ?_
      refine g_val rfl rfl rfl (fun _ _ => v_nilCheck rfl) ?_
      refine g_val rfl rfl rfl (fun w _ => v_fieldAddr 1 (Try.runUnderlying138 w) rfl (Try.sizeOf3 w) rfl) ?_
      refine g_storeAt (cs' := #[_, _, _]) (own' := (_ :: _)) 0 (fun w => Try.sizeOf3 w) rfl rfl rfl rfl rfl rfl rfl ?_
      refine g_val rfl rfl rfl (fun _ _ => v_nilCheck rfl) ?_
      refine g_val rfl rfl rfl (fun w _ => v_fieldAddr 2 (Try.runUnderlying138 w) rfl (Try.sizeOf136 w) rfl) ?_
      refine g_storeAt (cs' := #[_, _, _]) (own' := (_ :: _)) 0 (fun w => Try.sizeOf136 w) rfl rfl rfl rfl rfl rfl rfl ?_
      refine g_nil ?_
      refine g_n_then ?_
      refine g_seq ?_
      refine g_region ?_
      refine g_val rfl rfl rfl (fun _ _ => v_move rfl) ?_
      refine g_val rfl rfl rfl (fun _ _ => v_move rfl) ?_
      refine g_val rfl rfl rfl (fun _ _ => v_shr rfl rfl (by decide)) ?_
      refine g_val rfl rfl rfl (fun _ _ => v_bits rfl rfl rfl) ?_
      refine g_val rfl rfl rfl (fun _ _ => v_bits rfl rfl rfl) ?_
      refine g_val rfl rfl rfl (fun w _ => v_conv (Try.runUnderlying136 w) (Try.runUnderlying3 w) rfl) ?_
      refine g_val rfl rfl rfl (fun _ _ => v_assign rfl) ?_
      refine g_nil ?_
      refine g_n_then ?_
      refine g_ret ?_
      refine g_done rfl (fun w hh => (.tmp rfl .nil)) (fun w hh => ⟨_, (_, _), rfl, and_bound _ _ rfl, ?_, hh.toExt, hh.get 0 rfl⟩)
      unfold hok at *
      first | (simp; done) | (simp only; omega) | omega
    · replace hc50_3 := of_decide_eq_false hc50_3
      refine g_skip ?_
      refine g_n_then ?_
      refine g_seq ?_
      refine g_region ?_
      refine g_val rfl rfl rfl (fun _ _ => v_move rfl) ?_
      refine g_val rfl rfl rfl (fun _ _ => v_move rfl) ?_
      refine g_val rfl rfl rfl (fun _ _ => v_shr rfl rfl (by decide)) ?_
      refine g_val rfl rfl rfl (fun _ _ => v_bits rfl rfl rfl) ?_
      refine g_val rfl rfl rfl (fun _ _ => v_bits rfl rfl rfl) ?_
      refine g_val rfl rfl rfl (fun w _ => v_conv (Try.runUnderlying136 w) (Try.runUnderlying3 w) rfl) ?_
      refine g_val rfl rfl rfl (fun _ _ => v_assign rfl) ?_
      refine g_nil ?_
      refine g_n_then ?_
      refine g_ret ?_
      refine g_done rfl (fun w hh => (.tmp rfl .nil)) (fun w hh => ⟨_, (_, _), rfl, and_bound _ _ rfl, ?_, hh.toExt, hh.get 0 rfl⟩)
      unfold hok at *
      first | (simp; done) | (simp only; omega) | omega
end Go.Proofs

namespace Go.Fw
open Go
theorem madeCells_len {z : Array Value} {k : Nat} : (madeCells z k).toList.length = k := by simp [madeCells]
section
variable {n : Nat} {ds : List Deferred} {e : EnvL} {P : Program} {r : Option Nat} {Q : Exit → Act → World → Prop} {ops : Array Oper} {w0 : World} {M : List Nat} {own : List (Nat × Obj)} {ro : List Sg}
/-- append of nothing -/
theorem g_append0 {rest : List Oper} {d : Nat} {t ty E : TypeId} {x y : Operand} {len cap c : Nat} {q q2 : Option (Nat × Nat)} {pos : String} {after : Array Edge}
    (ht : P.underlying t = some (.slice E)) (hi : (P.info? E).isSome = true) (hx : ev e x = some (slv q len cap)) (hy : ev e y = some (slv q2 0 c)) (hle : len ≤ cap) (hn : Nat.blt d n = true)
    (h : G n ds ((d, slv q len cap) :: e) (HS w0 M own ro) (wpListIn (fw r) 0 P ops Q rest)) :
    G n ds e (HS w0 M own ro) (wpListIn (fw r) 0 P ops Q (⟨some d, .call ⟨.builtin .append, #[x, y], #[t, t]⟩, ty, pos, after, none⟩ :: rest)) := fun a w he hh => by
  obtain ⟨ii, hii⟩ := Option.isSome_iff_exists.1 hi
  have hrun : (Builtin.append_ #[t, t] ty #[slv q len cap, slv q2 0 c]).run P w = .ok (slv q len cap) w := by
    cases q <;> cases q2 <;> simp [Builtin.append_, run_underlying ht, sizeOf, typeInfo, hii, Builtin.lenOf, Builtin.firstCells, hle, slv, storeCells, loadCells, loadCellsFrom]
  refine wpListIn_value (wanted_none rfl _) (v := slv q len cap) (w' := w) (by simp only [execOp, resolve]; simp [invoke, builtin, he.eval hx, he.eval hy, hrun]) ?_
  exact h _ _ (he.put hn _) hh
theorem g_makeCap {rest : List Oper} {d : Nat} {t E : TypeId} {z : Value} {sz bytes c : Nat} {x y : Operand} {k1 k2 : IntKind} {m1 m2 : Int} {ty : TypeId} {pos : String} {after : Array Edge}
    (ht : P.underlying t = some (.slice E)) (hi : (P.info? E).map (fun i => (i.zero, i.size, i.bytes)) = some (some z, sz, bytes)) (hx : ev e x = some (.int k1 m1)) (hy : ev e y = some (.int k2 m2)) (h1 : m1 = 0) (h2 : m2 = (c : Int)) (hb : bytes * c ≤ 281474976710656) (hc : c ≤ 9223372036854775807) (hn : Nat.blt d n = true)
    (h : ∀ b, w0.heap.size ≤ b → G n ds ((d, slv (some (b, 0)) 0 c) :: e) (HS w0 M (vown E [] (madeCells z.cells (c * sz)).toList (some (b, 0)) ++ own) ro) (wpListIn (fw r) 0 P ops Q rest)) :
    G n ds e (HS w0 M own ro) (wpListIn (fw r) 0 P ops Q (⟨some d, .makeSlice t x y, ty, pos, after, none⟩ :: rest)) := by
  obtain ⟨ii, hi1, hi2⟩ : ∃ ii, P.info? E = some ii ∧ (ii.zero, ii.size, ii.bytes) = (some z, sz, bytes) := by
    cases hii : P.info? E with
    | none => simp [hii] at hi
    | some ii => exact ⟨ii, rfl, by simpa [hii] using hi⟩
  simp only [Prod.mk.injEq] at hi2
  obtain ⟨h3, h4, h5⟩ := hi2
  exact g_makeSlice (l := 0) (c := c) ht hi1 h3 h4 h5 hx hy (by simpa using h1) h2 (Nat.zero_le _) hb hc hn (fun b hb => h b hb)
end
end Go.Fw
namespace Go.Proofs
open Go Go.Fw Go.Pl
theorem flat_ones {α : Type} {enc : α → List Value} (h : ∀ x, ones (enc x) = true) (l : List α) : ∀ u ∈ flat enc l, u.oneCell' = true := fun u hu => by
  obtain ⟨x, _, hx⟩ := List.mem_flatMap.1 hu
  exact ones_all (h x) u hx
theorem ints_ones (l : List Int) : ∀ u ∈ ints l, u.oneCell' = true := ones_all ones_ints
theorem dup_vok {z : Array Value} {sz n b : Nat} (hn : n ≤ 1000000) : VOK sz 0 n [] (madeCells z (n * sz)).toList (some (b, 0)) := ⟨by simp, by simp only [List.nil_append, madeCells_len], Nat.zero_le _, by simp only [maxLen]; omega, by simp, by simp⟩
theorem ext_getDd {α : Type} {d : α} {a b : List α} (hl : a.length = b.length) (h : ∀ j, j < a.length → a.getD j d = b.getD j d) : a = b := by
  apply List.ext_getElem hl
  intro j h1 h2
  have := h j h1
  simpa [List.getD_eq_getElem?_getD, h1, h2] using this
end Go.Proofs

namespace Go.Proofs
open Go Go.Fw Go.Pl
set_option linter.unusedVariables false
theorem upto_bd {m k : Int} (hm : 0 ≤ m ∧ m ≤ 32767) (hk : (-4000000000000000000 ≤ k ∧ k ≤ 4000000000000000000)) : 0 ≤ m.tmod (max 1 (k + 1)) ∧ m.tmod (max 1 (k + 1)) ≤ max 0 k := by
  have h1 : 0 < max 1 (k + 1) := by omega
  have h2 := Int.tmod_lt_of_pos m h1
  have h3 := Int.tmod_nonneg (max 1 (k + 1)) hm.1
  omega
set_option maxRecDepth 100000 in
theorem infs3' : (Try.prog.info? 3).isSome = true := by kernel_rfl
theorem encW_ones (x : Water) : ones (encW x) = true := rfl
set_option maxRecDepth 100000 in
theorem inf68 : (Try.prog.info? 68).map (fun i => (i.zero, i.size, i.bytes)) = some (some (.agg #[.int .i64 0, .int .i64 0]), 2, 16) := by kernel_rfl
set_option maxRecDepth 100000 in
theorem infs68' : (Try.prog.info? 68).isSome = true := by kernel_rfl
set_option maxRecDepth 100000 in
theorem eqg68 : Try.prog.eqGuardType Try.prog.depth 68 = false := by decide +kernel
set_option maxRecDepth 100000 in
theorem sth68 : Try.prog.stoodInHeld 68 = false := by decide +kernel
set_option maxRecDepth 100000 in
theorem eq68 (x y : Water) (w : World) : (Op.equalIn 10000 68 (.agg (encW x).toArray) (.agg (encW y).toArray)).run Try.prog w = .ok (decide (x = y)) w := by
  have h := equal_struct (xs := (encW x).toArray) (ys := (encW y).toArray) Try.underlying68 sth68 (.int rfl (fun w => Try.isAgg3 w) ⟨_, Try.underlying3⟩ rfl rfl (.int rfl (fun w => Try.isAgg3 w) ⟨_, Try.underlying3⟩ rfl rfl .nil)) w
  rw [h]
  congr 1
  cases x; cases y
  rw [Bool.eq_iff_iff]
  simp only [Bool.and_eq_true, decide_eq_true_eq, Water.mk.injEq, and_true]
theorem encS_ones (x : Sill) : ones (encS x) = true := rfl
set_option maxRecDepth 100000 in
theorem inf51 : (Try.prog.info? 51).map (fun i => (i.zero, i.size, i.bytes)) = some (some (.agg #[.int .i64 0, .int .i64 0, .int .i64 0]), 3, 24) := by kernel_rfl
set_option maxRecDepth 100000 in
theorem infs51' : (Try.prog.info? 51).isSome = true := by kernel_rfl
set_option maxRecDepth 100000 in
theorem eqg51 : Try.prog.eqGuardType Try.prog.depth 51 = false := by decide +kernel
set_option maxRecDepth 100000 in
theorem sth51 : Try.prog.stoodInHeld 51 = false := by decide +kernel
set_option maxRecDepth 100000 in
theorem eq51 (x y : Sill) (w : World) : (Op.equalIn 10000 51 (.agg (encS x).toArray) (.agg (encS y).toArray)).run Try.prog w = .ok (decide (x = y)) w := by
  have h := equal_struct (xs := (encS x).toArray) (ys := (encS y).toArray) Try.underlying51 sth51 (.int rfl (fun w => Try.isAgg3 w) ⟨_, Try.underlying3⟩ rfl rfl (.int rfl (fun w => Try.isAgg3 w) ⟨_, Try.underlying3⟩ rfl rfl (.int rfl (fun w => Try.isAgg3 w) ⟨_, Try.underlying3⟩ rfl rfl .nil))) w
  rw [h]
  congr 1
  cases x; cases y
  rw [Bool.eq_iff_iff]
  simp only [Bool.and_eq_true, decide_eq_true_eq, Sill.mk.injEq, and_true]
theorem encL_ones (x : Look) : ones (encL x) = true := rfl
set_option maxRecDepth 100000 in
theorem inf89 : (Try.prog.info? 89).map (fun i => (i.zero, i.size, i.bytes)) = some (some (.agg #[.int .i64 0, .int .i64 0, .bool false]), 3, 24) := by kernel_rfl
set_option maxRecDepth 100000 in
theorem infs89' : (Try.prog.info? 89).isSome = true := by kernel_rfl
set_option maxRecDepth 100000 in
theorem eqg89 : Try.prog.eqGuardType Try.prog.depth 89 = false := by decide +kernel
set_option maxRecDepth 100000 in
theorem sth89 : Try.prog.stoodInHeld 89 = false := by decide +kernel
set_option maxRecDepth 100000 in
theorem eq89 (x y : Look) (w : World) : (Op.equalIn 10000 89 (.agg (encL x).toArray) (.agg (encL y).toArray)).run Try.prog w = .ok (decide (x = y)) w := by
  have h := equal_struct (xs := (encL x).toArray) (ys := (encL y).toArray) Try.underlying89 sth89 (.int rfl (fun w => Try.isAgg3 w) ⟨_, Try.underlying3⟩ rfl rfl (.int rfl (fun w => Try.isAgg3 w) ⟨_, Try.underlying3⟩ rfl rfl (.bool rfl (fun w => Try.isAgg4 w) Try.underlying4 rfl rfl .nil))) w
  rw [h]
  congr 1
  cases x; cases y
  rw [Bool.eq_iff_iff]
  simp only [Bool.and_eq_true, decide_eq_true_eq, Look.mk.injEq, and_true]
theorem encP_ones (x : Span) : ones (encP x) = true := rfl
set_option maxRecDepth 100000 in
theorem eqg25 : Try.prog.eqGuardType Try.prog.depth 25 = false := by decide +kernel
set_option maxRecDepth 100000 in
theorem sth25 : Try.prog.stoodInHeld 25 = false := by decide +kernel
set_option maxRecDepth 100000 in
theorem eq25 (x y : Span) (w : World) : (Op.equalIn 10000 25 (.agg (encP x).toArray) (.agg (encP y).toArray)).run Try.prog w = .ok (decide (x = y)) w := by
  have h := equal_struct (xs := (encP x).toArray) (ys := (encP y).toArray) Try.underlying25 sth25 (.int rfl (fun w => Try.isAgg3 w) ⟨_, Try.underlying3⟩ rfl rfl (.int rfl (fun w => Try.isAgg3 w) ⟨_, Try.underlying3⟩ rfl rfl .nil)) w
  rw [h]
  congr 1
  cases x; cases y
  rw [Bool.eq_iff_iff]
  simp only [Bool.and_eq_true, decide_eq_true_eq, Span.mk.injEq, and_true]
set_option maxRecDepth 100000 in
set_option maxHeartbeats 4000000 in
theorem c_Upto (b : Nat) (r : Option Addr) (l : List Int) (cap : Nat) (p : Int × Int) (k : Int) (w : World) (hb : w.heap[b]? = some (hobj r l.length cap p)) (hs : segOK w (bkA r, offA r, u8s l)) (hne : u8s l ≠ [] → bkA r ≠ b) (hr : 0 < l.length → ∃ sb so, r = some ⟨sb, so, none⟩) (hl : l.length ≤ 9223372036854775807) (hp : hok l.length p) (hk : (-4000000000000000000 ≤ k ∧ k ≤ 4000000000000000000)) : Calls Try.prog 64 #[ptr b 0, .int .i64 k] w (fun en w' => ∃ (n : Int) (q : Int × Int), en = .returned (.int .i64 n) ∧ (0 ≤ n ∧ n ≤ max 0 k) ∧ hok l.length q ∧ Ext [b] w w' ∧ w'.heap[b]? = some (hobj r l.length cap q)) := by
  refine g_enter (args := [ptr b 0, .int .i64 k]) Try.func64 rfl Try.ntmps64 rfl (e := [(0, _), (1, _)]) rfl (HS.start1 w b (hobj r l.length cap p) [(bkA r, offA r, u8s l)] hb (by simpa using ⟨hs, hne⟩)) ?_
  refine g_seq ?_
  refine g_region ?_
  refine g_val rfl rfl rfl (fun _ _ => v_assign rfl) ?_
  refine g_nil ?_
  refine g_n_then ?_
  refine g_seq ?_
  refine g_region ?_
  refine g_val rfl rfl rfl (fun _ _ => v_move rfl) ?_
  refine g_callU (ι := Int × (Int × Int)) (p := fun i => (0 ≤ i.1 ∧ i.1 ≤ 32767) ∧ hok l.length i.2) (ob' := fun i => hobj r l.length cap i.2) (ret := fun i => .int .i64 i.1) 0 rfl rfl rfl rfl rfl rfl rfl (fun a w => Try.call132 a w) rfl (fun _ => rfl) (fun w hh => (c_pick b r l cap _  w (hh.get 0 rfl) (hh.seg 0 rfl) hne hr hl (by assumption)).mono (by rintro en w' ⟨n, q, rfl, hn, hq, hx, hb'⟩; exact ⟨(n, q), rfl, ⟨hn, hq⟩, hx, hb'⟩)) (fun n1 hhn1 => ?_)
  have hn1 := hhn1.1
  have hqn1 := hhn1.2
  refine g_val rfl rfl rfl (fun _ _ => v_move rfl) ?_
  refine g_val rfl rfl rfl (fun _ _ => v_add rfl rfl (wrap_i64 (by omega))) ?_
  refine g_val rfl rfl rfl (fun _ _ => v_max rfl rfl) ?_
  refine g_val rfl rfl rfl (fun _ _ => v_rem rfl rfl (by omega)) ?_
  refine g_val rfl rfl rfl (fun _ _ => v_assign rfl) ?_
  refine g_nil ?_
  refine g_n_then ?_
  refine g_ret ?_
  refine g_done rfl (fun w hh => (.tmp rfl .nil)) (fun w hh => ⟨_, _, rfl, ?_, by assumption, hh.toExt, hh.get 0 rfl⟩)
  exact upto_bd (by omega) (by omega)

set_option maxRecDepth 100000 in
set_option maxHeartbeats 4000000 in
theorem c_From (b : Nat) (r : Option Addr) (l : List Int) (cap : Nat) (p : Int × Int) (lo hi : Int) (w : World) (hb : w.heap[b]? = some (hobj r l.length cap p)) (hs : segOK w (bkA r, offA r, u8s l)) (hne : u8s l ≠ [] → bkA r ≠ b) (hr : 0 < l.length → ∃ sb so, r = some ⟨sb, so, none⟩) (hl : l.length ≤ 9223372036854775807) (hp : hok l.length p) (hk : (-1000000000000000000 ≤ lo ∧ lo ≤ 1000000000000000000) ∧ (-1000000000000000000 ≤ hi ∧ hi ≤ 1000000000000000000)) : Calls Try.prog 20 #[ptr b 0, .int .i64 lo, .int .i64 hi] w (fun en w' => ∃ (n : Int) (q : Int × Int), en = .returned (.int .i64 n) ∧ (lo ≤ n ∧ n ≤ max lo hi) ∧ hok l.length q ∧ Ext [b] w w' ∧ w'.heap[b]? = some (hobj r l.length cap q)) := by
  refine g_enter (args := [ptr b 0, .int .i64 lo, .int .i64 hi]) Try.func20 rfl Try.ntmps20 rfl (e := [(0, _), (1, _), (2, _)]) rfl (HS.start1 w b (hobj r l.length cap p) [(bkA r, offA r, u8s l)] hb (by simpa using ⟨hs, hne⟩)) ?_
  refine g_seq ?_
  refine g_region ?_
  refine g_val rfl rfl rfl (fun _ _ => v_assign rfl) ?_
  refine g_nil ?_
  refine g_n_then ?_
  refine g_seq ?_
  refine g_region ?_
  refine g_val rfl rfl rfl (fun _ _ => v_move rfl) ?_
  refine g_val rfl rfl rfl (fun _ _ => v_move rfl) ?_
  refine g_val rfl rfl rfl (fun _ _ => v_move rfl) ?_
  refine g_val rfl rfl rfl (fun _ _ => v_move rfl) ?_
  refine g_val rfl rfl rfl (fun _ _ => v_sub rfl rfl (wrap_i64 (by omega))) ?_
  refine g_callU (ι := Int × (Int × Int)) (p := fun i => (0 ≤ i.1 ∧ i.1 ≤ max 0 (hi - lo)) ∧ hok l.length i.2) (ob' := fun i => hobj r l.length cap i.2) (ret := fun i => .int .i64 i.1) 0 rfl rfl rfl rfl rfl rfl rfl (fun a w => Try.call64 a w) rfl (fun _ => rfl) (fun w hh => (c_Upto b r l cap _ (hi - lo) w (hh.get 0 rfl) (hh.seg 0 rfl) hne hr hl (by assumption) (by omega)).mono (by rintro en w' ⟨n, q, rfl, hn, hq, hx, hb'⟩; exact ⟨(n, q), rfl, ⟨hn, hq⟩, hx, hb'⟩)) (fun n1 hhn1 => ?_)
  have hn1 := hhn1.1
  have hqn1 := hhn1.2
  refine g_val rfl rfl rfl (fun _ _ => v_add rfl rfl (wrap_i64 (by omega))) ?_
  refine g_val rfl rfl rfl (fun _ _ => v_assign rfl) ?_
  refine g_nil ?_
  refine g_n_then ?_
  refine g_ret ?_
  refine g_done rfl (fun w hh => (.tmp rfl .nil)) (fun w hh => ⟨_, _, rfl, ?_, by assumption, hh.toExt, hh.get 0 rfl⟩)
  omega

set_option maxRecDepth 100000 in
set_option maxHeartbeats 4000000 in
theorem c_Once (b : Nat) (r : Option Addr) (l : List Int) (cap : Nat) (p : Int × Int) (k : Int) (w : World) (hb : w.heap[b]? = some (hobj r l.length cap p)) (hs : segOK w (bkA r, offA r, u8s l)) (hne : u8s l ≠ [] → bkA r ≠ b) (hr : 0 < l.length → ∃ sb so, r = some ⟨sb, so, none⟩) (hl : l.length ≤ 9223372036854775807) (hp : hok l.length p) (hk : -1000000000000000000 ≤ k ∧ k ≤ 1000000000000000000) : Calls Try.prog 85 #[ptr b 0, .int .i64 k] w (fun en w' => ∃ (n : Bool) (q : Int × Int), en = .returned (.bool n) ∧ (True) ∧ hok l.length q ∧ Ext [b] w w' ∧ w'.heap[b]? = some (hobj r l.length cap q)) := by
  refine g_enter (args := [ptr b 0, .int .i64 k]) Try.func85 rfl Try.ntmps85 rfl (e := [(0, _), (1, _)]) rfl (HS.start1 w b (hobj r l.length cap p) [(bkA r, offA r, u8s l)] hb (by simpa using ⟨hs, hne⟩)) ?_
  refine g_seq ?_
  refine g_region ?_
  refine g_val rfl rfl rfl (fun _ _ => v_assign rfl) ?_
  refine g_nil ?_
  refine g_n_then ?_
  refine g_seq ?_
  refine g_region ?_
  refine g_val rfl rfl rfl (fun _ _ => v_move rfl) ?_
  refine g_val rfl rfl rfl (fun _ _ => v_move rfl) ?_
  refine g_val rfl rfl rfl (fun _ _ => v_sub rfl rfl (wrap_i64 (by omega))) ?_
  refine g_callU (ι := Int × (Int × Int)) (p := fun i => (0 ≤ i.1 ∧ i.1 ≤ max 0 (k - 1)) ∧ hok l.length i.2) (ob' := fun i => hobj r l.length cap i.2) (ret := fun i => .int .i64 i.1) 0 rfl rfl rfl rfl rfl rfl rfl (fun a w => Try.call64 a w) rfl (fun _ => rfl) (fun w hh => (c_Upto b r l cap _ (k - 1) w (hh.get 0 rfl) (hh.seg 0 rfl) hne hr hl (by assumption) (by omega)).mono (by rintro en w' ⟨n, q, rfl, hn, hq, hx, hb'⟩; exact ⟨(n, q), rfl, ⟨hn, hq⟩, hx, hb'⟩)) (fun n1 hhn1 => ?_)
  have hn1 := hhn1.1
  have hqn1 := hhn1.2
  refine g_val rfl rfl rfl (fun _ _ => v_eql rfl rfl) ?_
  refine g_val rfl rfl rfl (fun _ _ => v_assign rfl) ?_
  refine g_nil ?_
  refine g_n_then ?_
  refine g_ret ?_
  refine g_done rfl (fun w hh => (.tmp rfl .nil)) (fun w hh => ⟨_, _, rfl, ?_, by assumption, hh.toExt, hh.get 0 rfl⟩)
  trivial

set_option maxRecDepth 100000 in
set_option maxHeartbeats 4000000 in
theorem c_Pile (r : Option Addr) (n cap : Nat) (w : World) : Calls Try.prog 19 #[.slice r n cap] w (fun en w' => ∃ b : Nat, en = .returned (ptr b 0) ∧ Fresh w w' [(b, hobj r n cap (0, 0))]) := by
  refine g_enter (args := [.slice r n cap]) Try.func19 rfl Try.ntmps19 rfl (e := [(0, _)]) rfl (HS.start w [] [] segsN) ?_
  refine g_seq ?_
  refine g_region ?_
  refine g_val rfl rfl rfl (fun _ _ => v_assign rfl) ?_
  refine g_nil ?_
  refine g_n_then ?_
  refine g_seq ?_
  refine g_region ?_
  refine g_val rfl rfl rfl (fun _ _ => v_move rfl) ?_
  refine g_val rfl rfl rfl (fun _ _ => v_build (vs := [(0, _)]) (cells := [_, _, _]) rfl rfl) ?_
  refine g_box rfl rfl (fun b1 hb1 => ?_)
  refine g_val rfl rfl rfl (fun _ _ => v_assign rfl) ?_
  refine g_nil ?_
  refine g_n_then ?_
  refine g_ret ?_
  refine g_done rfl (fun w hh => (.tmp rfl .nil)) (fun w hh => ⟨_, rfl, hh.toFresh⟩)

set_option maxRecDepth 100000 in
set_option maxHeartbeats 4000000 in
theorem c_Dup_int (r : Option (Nat × Nat)) (l : List Int) (cp : Nat) (w : World) (hl : l.length ≤ 1000000) (hr : 0 < l.length → r ≠ none) (hs : segOK w (bk r, off r, ints l)) : Calls Try.prog 65 #[slv r l.length cp] w (fun en w' => ∃ q cap, en = .returned (slv q l.length cap) ∧ SlOK q l.length cap ∧ News w w' [(bk q, off q, ints l)]) := by
  refine g_enter (args := [slv r l.length cp]) Try.func65 rfl Try.ntmps65 rfl (e := [(0, _)]) rfl (HS.start w [] [(bk r, off r, ints l)] (segsC hs segsN)) ?_
  refine g_seq ?_
  refine g_region ?_
  refine g_val rfl rfl rfl (fun _ _ => v_nilSlice rfl rfl) ?_
  refine g_nil ?_
  refine g_n_then ?_
  refine g_seq ?_
  refine g_region ?_
  refine g_val rfl rfl rfl (fun _ _ => v_move rfl) ?_
  refine g_val rfl rfl rfl (fun w _ => v_lenS (Try.runUnderlying26 w) rfl) ?_
  refine g_makeCap (c := l.length) Try.underlying26 inf3 rfl rfl rfl rfl (by omega) (by omega) rfl (fun bn hbn => ?_)
  refine g_val rfl rfl rfl (fun _ _ => v_move rfl) ?_
  rcases Nat.eq_zero_or_pos l.length with h0 | h0
  · have hl0 := List.length_eq_zero_iff.1 h0
    subst hl0
    refine g_append0 Try.underlying26 infs3' rfl rfl (Nat.le_refl _) rfl ?_
    refine g_val rfl rfl rfl (fun _ _ => v_assign rfl) ?_
    refine g_nil ?_
    refine g_n_then ?_
    refine g_ret ?_
    refine g_done rfl (fun w hh => (.tmp rfl .nil)) (fun w hh => ?_)
    exact ⟨some (bn, 0), 0, rfl, ⟨by simp, Nat.le_refl _⟩, (News.nil hh.toExt).cons segOK.nil (fun h => absurd rfl h)⟩
  · refine g_appendM [] (news := ints l) (m := l.length) (q2 := r) Try.underlying26 inf3 rfl rfl rfl (dup_vok hl) (hr h0) h0 (by rw [ints_length, Nat.mul_one]) (fun w hh => hh.seg 0 rfl) (ints_ones l) (by simp only [maxLen]; omega) (by omega) rfl (fun q cap sp hv => ?_)
    rw [List.nil_append, Nat.zero_add] at hv
    rw [List.nil_append, Nat.zero_add]
    refine g_val rfl rfl rfl (fun _ _ => v_assign rfl) ?_
    refine g_nil ?_
    refine g_n_then ?_
    refine g_ret ?_
    refine g_done rfl (fun w hh => (.tmp rfl .nil)) (fun w hh => ?_)
    exact ⟨some q, cap, rfl, hv.sl, hh.vec [] hv.hoff hv.noneNil⟩

set_option maxRecDepth 100000 in
set_option maxHeartbeats 4000000 in
theorem c_Equal_int (ra rb : Option (Nat × Nat)) (a c : List Int) (ca cb : Nat) (w : World) (hla : a.length ≤ 1000000) (hlb : c.length ≤ 1000000) (hra : 0 < a.length → ra ≠ none) (hrb : 0 < c.length → rb ≠ none) (hsa : segOK w (bk ra, off ra, ints a)) (hsb : segOK w (bk rb, off rb, ints c)) : Ret Try.prog 130 [slv ra a.length ca, slv rb c.length cb] w (.bool (decide (a = c))) := by
  refine g_enter (args := [slv ra a.length ca, slv rb c.length cb]) Try.func130 rfl Try.ntmps130 rfl (e := [(0, _), (1, _)]) rfl (HS.start w [] [(bk ra, off ra, ints a), (bk rb, off rb, ints c)] (segsC hsa (segsC hsb segsN))) ?_
  refine g_seq ?_
  refine g_region ?_
  refine g_val rfl rfl rfl (fun _ _ => v_assign rfl) ?_
  refine g_nil ?_
  refine g_n_then ?_
  refine g_seq ?_
  refine g_seq ?_
  refine g_region ?_
  refine g_val rfl rfl rfl (fun _ _ => v_move rfl) ?_
  refine g_val rfl rfl rfl (fun w _ => v_lenS (Try.runUnderlying26 w) rfl) ?_
  refine g_val rfl rfl rfl (fun _ _ => v_move rfl) ?_
  refine g_val rfl rfl rfl (fun w _ => v_lenS (Try.runUnderlying26 w) rfl) ?_
  refine g_val rfl rfl rfl (fun _ _ => v_neq rfl rfl) ?_
  refine g_nil ?_
  refine g_n_then ?_
  refine g_cond rfl (fun hlen => ?_) (fun hlen => ?_)
  · replace hlen := of_ndec_true hlen
    replace hlen : ¬ a.length = c.length := by omega
    refine g_seq ?_
    refine g_region ?_
    refine g_val rfl rfl rfl (fun _ _ => v_assign rfl) ?_
    refine g_nil ?_
    refine g_n_then ?_
    refine g_ret ?_
    refine g_r_then ?_
    refine g_done rfl (fun w hh => (.tmp rfl .nil)) (fun w hh => ⟨?_, hh.toExt⟩)
    have hne : a ≠ c := fun h => hlen (by rw [h])
    simp [retv, hne]
  · replace hlen := of_ndec_false hlen
    replace hlen : a.length = c.length := by omega
    refine g_skip ?_
    refine g_n_then ?_
    refine g_seq ?_
    refine g_seq ?_
    refine g_region ?_
    refine g_val rfl rfl rfl (fun _ _ => v_move rfl) ?_
    refine g_val rfl rfl rfl (fun w _ => v_lenS (Try.runUnderlying26 w) rfl) ?_
    refine g_val rfl rfl rfl (fun _ _ => v_move rfl) ?_
    refine g_nil ?_
    refine g_n_then ?_
    refine g_block ?_
    refine g_sub (e' := [(13, _), (0, _), (1, _), (12, _)]) ((.cons rfl (.cons rfl (.cons rfl (.cons rfl .nil))))) ?_
    refine g_loopM (ι := Nat) (fun k => [(13, .int .i64 (k : Nat))]) (fun k => []) (fun k => k ≤ a.length ∧ ∀ i, i < k → a.getD i (0 : Int) = c.getD i (0 : Int)) (fun k => a.length - k) 0 (⟨Nat.zero_le _, fun i hi => absurd hi (by omega)⟩) ?_
    intro k hI0
    refine g_seq ?_
    refine g_region ?_
    refine g_val rfl rfl rfl (fun _ _ => v_lss rfl rfl) ?_
    refine g_nil ?_
    refine g_n_then ?_
    refine g_seq ?_
    refine g_cond rfl (fun hc14_2 => ?_) (fun hc14_2 => ?_)
    · replace hc14_2 := of_decide_eq_true hc14_2
      refine g_skip ?_
      refine g_n_then ?_
      refine g_seq ?_
      refine g_block ?_
      refine g_seq ?_
      refine g_region ?_
      refine g_val rfl rfl rfl (fun _ _ => v_move rfl) ?_
      refine g_val rfl rfl rfl (fun _ _ => v_assign rfl) ?_
      refine g_nil ?_
      refine g_n_then ?_
      refine g_seq ?_
      refine g_draw none (.free 0 (.free 1 (.hoist 2 (.hoist 3 (.free 4 (.free 5 (.hoist 6 (.hoist 7 (.free 8 .done))))))))) _ rfl (by decide +kernel) (fun w k hh => hh.draw k) (fun w hh => hh) ?_
      refine p_free rfl rfl rfl rfl (fun _ _ => v_move rfl) ?_
      refine p_free rfl rfl rfl rfl (fun _ _ => v_move rfl) ?_
      refine p_hoist rfl rfl rfl rfl (fun w _ => v_indexAddr1 k (Try.runUnderlying26 w) (Try.sizeOf3 w) rfl rfl rfl (by omega) (hra (by omega))) ?_
      refine p_hoist rfl rfl rfl rfl (fun w hh => v_load (Try.isAgg3 w) rfl (hh.int (j := k) 0 rfl (by omega))) ?_
      refine p_free rfl rfl rfl rfl (fun _ _ => v_move rfl) ?_
      refine p_free rfl rfl rfl rfl (fun _ _ => v_move rfl) ?_
      refine p_hoist rfl rfl rfl rfl (fun w _ => v_indexAddr1 k (Try.runUnderlying26 w) (Try.sizeOf3 w) rfl rfl rfl (by omega) (hrb (by omega))) ?_
      refine p_hoist rfl rfl rfl rfl (fun w hh => v_load (Try.isAgg3 w) rfl (hh.int (j := k) 1 rfl (by omega))) ?_
      refine p_free rfl rfl rfl rfl (fun _ _ => v_neq rfl rfl) ?_
      refine p_done ?_
      refine g_n_then ?_
      refine g_cond rfl (fun hq => ?_) (fun hq => ?_)
      · replace hq := of_ndec_true hq
        refine g_seq ?_
        refine g_region ?_
        refine g_val rfl rfl rfl (fun _ _ => v_assign rfl) ?_
        refine g_nil ?_
        refine g_n_then ?_
        refine g_ret ?_
        refine g_r_blk ?_
        refine g_r_then ?_
        refine g_r_then ?_
        refine g_r_blk ?_
        refine g_r_then ?_
        refine g_done rfl (fun w hh => (.tmp rfl .nil)) (fun w hh => ⟨?_, hh.toExt⟩)
        have hne : a ≠ c := fun h => hq (by rw [h])
        simp [retv, hne]
      · replace hq := of_ndec_false hq
        refine g_skip ?_
        refine g_n_blk ?_
        refine g_n_then ?_
        refine g_region ?_
        refine g_val rfl rfl rfl (fun _ _ => v_add rfl rfl (wrap_i64 (by omega))) ?_
        refine g_val rfl rfl rfl (fun _ _ => v_move rfl) ?_
        refine g_nil ?_
        refine g_n_then ?_
        exact g_againM (i := k) (k + 1) [] ((.cons rfl (.cons rfl (.cons rfl (.cons rfl .nil))))) (by decide) rfl (⟨by omega, fun i hi => by rcases Nat.lt_succ_iff_lt_or_eq.1 hi with h | h; exact hI0.2 i h; subst h; exact hq⟩) (by omega)
    · replace hc14_2 := of_decide_eq_false hc14_2
      refine g_exit ?_
      refine g_x_then ?_
      refine g_x_then ?_
      refine g_x_blk ?_
      refine g_n_then ?_
      refine g_seq ?_
      refine g_region ?_
      refine g_val rfl rfl rfl (fun _ _ => v_assign rfl) ?_
      refine g_nil ?_
      refine g_n_then ?_
      refine g_ret ?_
      have ek : k = a.length := by omega
      subst ek
      have he : a = c := ext_getDd (d := (0 : Int)) (by omega) hI0.2
      refine g_done rfl (fun w hh => (.tmp rfl .nil)) (fun w hh => ⟨?_, hh.toExt⟩)
      simp [retv, he]

set_option maxRecDepth 100000 in
set_option maxHeartbeats 4000000 in
theorem c_Eq_int (ra rb : Option (Nat × Nat)) (a c : List Int) (ca cb : Nat) (w : World) (hla : a.length ≤ 1000000) (hlb : c.length ≤ 1000000) (hra : 0 < a.length → ra ≠ none) (hrb : 0 < c.length → rb ≠ none) (hsa : segOK w (bk ra, off ra, ints a)) (hsb : segOK w (bk rb, off rb, ints c)) : Ret Try.prog 59 [slv ra a.length ca, slv rb c.length cb] w (.bool (decide (a = c))) := by
  refine g_enter (args := [slv ra a.length ca, slv rb c.length cb]) Try.func59 rfl Try.ntmps59 rfl (e := [(0, _), (1, _)]) rfl (HS.start w [] [(bk ra, off ra, ints a), (bk rb, off rb, ints c)] (segsC hsa (segsC hsb segsN))) ?_
  refine g_seq ?_
  refine g_region ?_
  refine g_val rfl rfl rfl (fun _ _ => v_assign rfl) ?_
  refine g_nil ?_
  refine g_n_then ?_
  refine g_seq ?_
  refine g_region ?_
  refine g_val rfl rfl rfl (fun _ _ => v_move rfl) ?_
  refine g_val rfl rfl rfl (fun _ _ => v_move rfl) ?_
  refine g_callv rfl rfl rfl rfl rfl rfl rfl (fun a w => Try.call130 a w) (fun w hh => c_Equal_int ra rb a c ca cb w hla hlb hra hrb (hh.seg 0 rfl) (hh.seg 1 rfl)) ?_
  refine g_val rfl rfl rfl (fun _ _ => v_assign rfl) ?_
  refine g_nil ?_
  refine g_n_then ?_
  refine g_ret ?_
  refine g_done rfl (fun w hh => (.tmp rfl .nil)) (fun w hh => ⟨?_, hh.toExt⟩)
  rfl

set_option maxRecDepth 100000 in
set_option maxHeartbeats 4000000 in
theorem c_Dup_Water (r : Option (Nat × Nat)) (l : List Water) (cp : Nat) (w : World) (hl : l.length ≤ 1000000) (hr : 0 < l.length → r ≠ none) (hs : segOK w (bk r, off r, flat encW l)) : Calls Try.prog 100 #[slv r l.length cp] w (fun en w' => ∃ q cap, en = .returned (slv q l.length cap) ∧ SlOK q l.length cap ∧ News w w' [(bk q, off q, flat encW l)]) := by
  refine g_enter (args := [slv r l.length cp]) Try.func100 rfl Try.ntmps100 rfl (e := [(0, _)]) rfl (HS.start w [] [(bk r, off r, flat encW l)] (segsC hs segsN)) ?_
  refine g_seq ?_
  refine g_region ?_
  refine g_val rfl rfl rfl (fun _ _ => v_nilSlice rfl rfl) ?_
  refine g_nil ?_
  refine g_n_then ?_
  refine g_seq ?_
  refine g_region ?_
  refine g_val rfl rfl rfl (fun _ _ => v_move rfl) ?_
  refine g_val rfl rfl rfl (fun w _ => v_lenS (Try.runUnderlying23 w) rfl) ?_
  refine g_makeCap (c := l.length) Try.underlying23 inf68 rfl rfl rfl rfl (by omega) (by omega) rfl (fun bn hbn => ?_)
  refine g_val rfl rfl rfl (fun _ _ => v_move rfl) ?_
  rcases Nat.eq_zero_or_pos l.length with h0 | h0
  · have hl0 := List.length_eq_zero_iff.1 h0
    subst hl0
    refine g_append0 Try.underlying23 infs68' rfl rfl (Nat.le_refl _) rfl ?_
    refine g_val rfl rfl rfl (fun _ _ => v_assign rfl) ?_
    refine g_nil ?_
    refine g_n_then ?_
    refine g_ret ?_
    refine g_done rfl (fun w hh => (.tmp rfl .nil)) (fun w hh => ?_)
    exact ⟨some (bn, 0), 0, rfl, ⟨by simp, Nat.le_refl _⟩, (News.nil hh.toExt).cons segOK.nil (fun h => absurd rfl h)⟩
  · refine g_appendM [] (news := flat encW l) (m := l.length) (q2 := r) Try.underlying23 inf68 rfl rfl rfl (dup_vok hl) (hr h0) h0 (flat_length encW_len l) (fun w hh => hh.seg 0 rfl) (flat_ones encW_ones l) (by simp only [maxLen]; omega) (by omega) rfl (fun q cap sp hv => ?_)
    rw [List.nil_append, Nat.zero_add] at hv
    rw [List.nil_append, Nat.zero_add]
    refine g_val rfl rfl rfl (fun _ _ => v_assign rfl) ?_
    refine g_nil ?_
    refine g_n_then ?_
    refine g_ret ?_
    refine g_done rfl (fun w hh => (.tmp rfl .nil)) (fun w hh => ?_)
    exact ⟨some q, cap, rfl, hv.sl, hh.vec [] hv.hoff hv.noneNil⟩

set_option maxRecDepth 100000 in
set_option maxHeartbeats 4000000 in
theorem c_Equal_Water (ra rb : Option (Nat × Nat)) (a c : List Water) (ca cb : Nat) (w : World) (hla : a.length ≤ 1000000) (hlb : c.length ≤ 1000000) (hra : 0 < a.length → ra ≠ none) (hrb : 0 < c.length → rb ≠ none) (hsa : segOK w (bk ra, off ra, flat encW a)) (hsb : segOK w (bk rb, off rb, flat encW c)) : Ret Try.prog 157 [slv ra a.length ca, slv rb c.length cb] w (.bool (decide (a = c))) := by
  refine g_enter (args := [slv ra a.length ca, slv rb c.length cb]) Try.func157 rfl Try.ntmps157 rfl (e := [(0, _), (1, _)]) rfl (HS.start w [] [(bk ra, off ra, flat encW a), (bk rb, off rb, flat encW c)] (segsC hsa (segsC hsb segsN))) ?_
  refine g_seq ?_
  refine g_region ?_
  refine g_val rfl rfl rfl (fun _ _ => v_assign rfl) ?_
  refine g_nil ?_
  refine g_n_then ?_
  refine g_seq ?_
  refine g_seq ?_
  refine g_region ?_
  refine g_val rfl rfl rfl (fun _ _ => v_move rfl) ?_
  refine g_val rfl rfl rfl (fun w _ => v_lenS (Try.runUnderlying23 w) rfl) ?_
  refine g_val rfl rfl rfl (fun _ _ => v_move rfl) ?_
  refine g_val rfl rfl rfl (fun w _ => v_lenS (Try.runUnderlying23 w) rfl) ?_
  refine g_val rfl rfl rfl (fun _ _ => v_neq rfl rfl) ?_
  refine g_nil ?_
  refine g_n_then ?_
  refine g_cond rfl (fun hlen => ?_) (fun hlen => ?_)
  · replace hlen := of_ndec_true hlen
    replace hlen : ¬ a.length = c.length := by omega
    refine g_seq ?_
    refine g_region ?_
    refine g_val rfl rfl rfl (fun _ _ => v_assign rfl) ?_
    refine g_nil ?_
    refine g_n_then ?_
    refine g_ret ?_
    refine g_r_then ?_
    refine g_done rfl (fun w hh => (.tmp rfl .nil)) (fun w hh => ⟨?_, hh.toExt⟩)
    have hne : a ≠ c := fun h => hlen (by rw [h])
    simp [retv, hne]
  · replace hlen := of_ndec_false hlen
    replace hlen : a.length = c.length := by omega
    refine g_skip ?_
    refine g_n_then ?_
    refine g_seq ?_
    refine g_seq ?_
    refine g_region ?_
    refine g_val rfl rfl rfl (fun _ _ => v_move rfl) ?_
    refine g_val rfl rfl rfl (fun w _ => v_lenS (Try.runUnderlying23 w) rfl) ?_
    refine g_val rfl rfl rfl (fun _ _ => v_move rfl) ?_
    refine g_nil ?_
    refine g_n_then ?_
    refine g_block ?_
    refine g_sub (e' := [(13, _), (0, _), (1, _), (12, _)]) ((.cons rfl (.cons rfl (.cons rfl (.cons rfl .nil))))) ?_
    refine g_loopM (ι := Nat) (fun k => [(13, .int .i64 (k : Nat))]) (fun k => []) (fun k => k ≤ a.length ∧ ∀ i, i < k → a.getD i (default : Water) = c.getD i (default : Water)) (fun k => a.length - k) 0 (⟨Nat.zero_le _, fun i hi => absurd hi (by omega)⟩) ?_
    intro k hI0
    refine g_seq ?_
    refine g_region ?_
    refine g_val rfl rfl rfl (fun _ _ => v_lss rfl rfl) ?_
    refine g_nil ?_
    refine g_n_then ?_
    refine g_seq ?_
    refine g_cond rfl (fun hc14_2 => ?_) (fun hc14_2 => ?_)
    · replace hc14_2 := of_decide_eq_true hc14_2
      refine g_skip ?_
      refine g_n_then ?_
      refine g_seq ?_
      refine g_block ?_
      refine g_seq ?_
      refine g_region ?_
      refine g_val rfl rfl rfl (fun _ _ => v_move rfl) ?_
      refine g_val rfl rfl rfl (fun _ _ => v_assign rfl) ?_
      refine g_nil ?_
      refine g_n_then ?_
      refine g_seq ?_
      refine g_draw none (.free 0 (.free 1 (.hoist 2 (.hoist 3 (.free 4 (.free 5 (.hoist 6 (.hoist 7 (.free 8 .done))))))))) _ rfl (by decide +kernel) (fun w k hh => hh.draw k) (fun w hh => hh) ?_
      refine p_free rfl rfl rfl rfl (fun _ _ => v_move rfl) ?_
      refine p_free rfl rfl rfl rfl (fun _ _ => v_move rfl) ?_
      refine p_hoist rfl rfl rfl rfl (fun w _ => v_indexAddr k (Try.runUnderlying23 w) (Try.sizeOf68 w) rfl rfl rfl (by omega) (hra (by omega))) ?_
      refine p_hoist rfl rfl rfl rfl (fun w hh => v_loadAgg (vs := encW _) (Try.isAgg68 w) (Try.sizeOf68 w) rfl (hh.elem (j := k) encW_len 0 rfl (by omega))) ?_
      refine p_free rfl rfl rfl rfl (fun _ _ => v_move rfl) ?_
      refine p_free rfl rfl rfl rfl (fun _ _ => v_move rfl) ?_
      refine p_hoist rfl rfl rfl rfl (fun w _ => v_indexAddr k (Try.runUnderlying23 w) (Try.sizeOf68 w) rfl rfl rfl (by omega) (hrb (by omega))) ?_
      refine p_hoist rfl rfl rfl rfl (fun w hh => v_loadAgg (vs := encW _) (Try.isAgg68 w) (Try.sizeOf68 w) rfl (hh.elem (j := k) encW_len 1 rfl (by omega))) ?_
      refine p_free rfl rfl rfl rfl (fun w _ => v_neqAgg (eq68 _ _ w) eqg68 rfl rfl) ?_
      refine p_done ?_
      refine g_n_then ?_
      refine g_cond rfl (fun hq => ?_) (fun hq => ?_)
      · replace hq := of_ndec_true hq
        refine g_seq ?_
        refine g_region ?_
        refine g_val rfl rfl rfl (fun _ _ => v_assign rfl) ?_
        refine g_nil ?_
        refine g_n_then ?_
        refine g_ret ?_
        refine g_r_blk ?_
        refine g_r_then ?_
        refine g_r_then ?_
        refine g_r_blk ?_
        refine g_r_then ?_
        refine g_done rfl (fun w hh => (.tmp rfl .nil)) (fun w hh => ⟨?_, hh.toExt⟩)
        have hne : a ≠ c := fun h => hq (by rw [h])
        simp [retv, hne]
      · replace hq := of_ndec_false hq
        refine g_skip ?_
        refine g_n_blk ?_
        refine g_n_then ?_
        refine g_region ?_
        refine g_val rfl rfl rfl (fun _ _ => v_add rfl rfl (wrap_i64 (by omega))) ?_
        refine g_val rfl rfl rfl (fun _ _ => v_move rfl) ?_
        refine g_nil ?_
        refine g_n_then ?_
        exact g_againM (i := k) (k + 1) [] ((.cons rfl (.cons rfl (.cons rfl (.cons rfl .nil))))) (by decide) rfl (⟨by omega, fun i hi => by rcases Nat.lt_succ_iff_lt_or_eq.1 hi with h | h; exact hI0.2 i h; subst h; exact hq⟩) (by omega)
    · replace hc14_2 := of_decide_eq_false hc14_2
      refine g_exit ?_
      refine g_x_then ?_
      refine g_x_then ?_
      refine g_x_blk ?_
      refine g_n_then ?_
      refine g_seq ?_
      refine g_region ?_
      refine g_val rfl rfl rfl (fun _ _ => v_assign rfl) ?_
      refine g_nil ?_
      refine g_n_then ?_
      refine g_ret ?_
      have ek : k = a.length := by omega
      subst ek
      have he : a = c := ext_getDd (d := (default : Water)) (by omega) hI0.2
      refine g_done rfl (fun w hh => (.tmp rfl .nil)) (fun w hh => ⟨?_, hh.toExt⟩)
      simp [retv, he]

set_option maxRecDepth 100000 in
set_option maxHeartbeats 4000000 in
theorem c_Eq_Water (ra rb : Option (Nat × Nat)) (a c : List Water) (ca cb : Nat) (w : World) (hla : a.length ≤ 1000000) (hlb : c.length ≤ 1000000) (hra : 0 < a.length → ra ≠ none) (hrb : 0 < c.length → rb ≠ none) (hsa : segOK w (bk ra, off ra, flat encW a)) (hsb : segOK w (bk rb, off rb, flat encW c)) : Ret Try.prog 112 [slv ra a.length ca, slv rb c.length cb] w (.bool (decide (a = c))) := by
  refine g_enter (args := [slv ra a.length ca, slv rb c.length cb]) Try.func112 rfl Try.ntmps112 rfl (e := [(0, _), (1, _)]) rfl (HS.start w [] [(bk ra, off ra, flat encW a), (bk rb, off rb, flat encW c)] (segsC hsa (segsC hsb segsN))) ?_
  refine g_seq ?_
  refine g_region ?_
  refine g_val rfl rfl rfl (fun _ _ => v_assign rfl) ?_
  refine g_nil ?_
  refine g_n_then ?_
  refine g_seq ?_
  refine g_region ?_
  refine g_val rfl rfl rfl (fun _ _ => v_move rfl) ?_
  refine g_val rfl rfl rfl (fun _ _ => v_move rfl) ?_
  refine g_callv rfl rfl rfl rfl rfl rfl rfl (fun a w => Try.call157 a w) (fun w hh => c_Equal_Water ra rb a c ca cb w hla hlb hra hrb (hh.seg 0 rfl) (hh.seg 1 rfl)) ?_
  refine g_val rfl rfl rfl (fun _ _ => v_assign rfl) ?_
  refine g_nil ?_
  refine g_n_then ?_
  refine g_ret ?_
  refine g_done rfl (fun w hh => (.tmp rfl .nil)) (fun w hh => ⟨?_, hh.toExt⟩)
  rfl

set_option maxRecDepth 100000 in
set_option maxHeartbeats 4000000 in
theorem c_Dup_Sill (r : Option (Nat × Nat)) (l : List Sill) (cp : Nat) (w : World) (hl : l.length ≤ 1000000) (hr : 0 < l.length → r ≠ none) (hs : segOK w (bk r, off r, flat encS l)) : Calls Try.prog 101 #[slv r l.length cp] w (fun en w' => ∃ q cap, en = .returned (slv q l.length cap) ∧ SlOK q l.length cap ∧ News w w' [(bk q, off q, flat encS l)]) := by
  refine g_enter (args := [slv r l.length cp]) Try.func101 rfl Try.ntmps101 rfl (e := [(0, _)]) rfl (HS.start w [] [(bk r, off r, flat encS l)] (segsC hs segsN)) ?_
  refine g_seq ?_
  refine g_region ?_
  refine g_val rfl rfl rfl (fun _ _ => v_nilSlice rfl rfl) ?_
  refine g_nil ?_
  refine g_n_then ?_
  refine g_seq ?_
  refine g_region ?_
  refine g_val rfl rfl rfl (fun _ _ => v_move rfl) ?_
  refine g_val rfl rfl rfl (fun w _ => v_lenS (Try.runUnderlying27 w) rfl) ?_
  refine g_makeCap (c := l.length) Try.underlying27 inf51 rfl rfl rfl rfl (by omega) (by omega) rfl (fun bn hbn => ?_)
  refine g_val rfl rfl rfl (fun _ _ => v_move rfl) ?_
  rcases Nat.eq_zero_or_pos l.length with h0 | h0
  · have hl0 := List.length_eq_zero_iff.1 h0
    subst hl0
    refine g_append0 Try.underlying27 infs51' rfl rfl (Nat.le_refl _) rfl ?_
    refine g_val rfl rfl rfl (fun _ _ => v_assign rfl) ?_
    refine g_nil ?_
    refine g_n_then ?_
    refine g_ret ?_
    refine g_done rfl (fun w hh => (.tmp rfl .nil)) (fun w hh => ?_)
    exact ⟨some (bn, 0), 0, rfl, ⟨by simp, Nat.le_refl _⟩, (News.nil hh.toExt).cons segOK.nil (fun h => absurd rfl h)⟩
  · refine g_appendM [] (news := flat encS l) (m := l.length) (q2 := r) Try.underlying27 inf51 rfl rfl rfl (dup_vok hl) (hr h0) h0 (flat_length encS_len l) (fun w hh => hh.seg 0 rfl) (flat_ones encS_ones l) (by simp only [maxLen]; omega) (by omega) rfl (fun q cap sp hv => ?_)
    rw [List.nil_append, Nat.zero_add] at hv
    rw [List.nil_append, Nat.zero_add]
    refine g_val rfl rfl rfl (fun _ _ => v_assign rfl) ?_
    refine g_nil ?_
    refine g_n_then ?_
    refine g_ret ?_
    refine g_done rfl (fun w hh => (.tmp rfl .nil)) (fun w hh => ?_)
    exact ⟨some q, cap, rfl, hv.sl, hh.vec [] hv.hoff hv.noneNil⟩

set_option maxRecDepth 100000 in
set_option maxHeartbeats 4000000 in
theorem c_Equal_Sill (ra rb : Option (Nat × Nat)) (a c : List Sill) (ca cb : Nat) (w : World) (hla : a.length ≤ 1000000) (hlb : c.length ≤ 1000000) (hra : 0 < a.length → ra ≠ none) (hrb : 0 < c.length → rb ≠ none) (hsa : segOK w (bk ra, off ra, flat encS a)) (hsb : segOK w (bk rb, off rb, flat encS c)) : Ret Try.prog 158 [slv ra a.length ca, slv rb c.length cb] w (.bool (decide (a = c))) := by
  refine g_enter (args := [slv ra a.length ca, slv rb c.length cb]) Try.func158 rfl Try.ntmps158 rfl (e := [(0, _), (1, _)]) rfl (HS.start w [] [(bk ra, off ra, flat encS a), (bk rb, off rb, flat encS c)] (segsC hsa (segsC hsb segsN))) ?_
  refine g_seq ?_
  refine g_region ?_
  refine g_val rfl rfl rfl (fun _ _ => v_assign rfl) ?_
  refine g_nil ?_
  refine g_n_then ?_
  refine g_seq ?_
  refine g_seq ?_
  refine g_region ?_
  refine g_val rfl rfl rfl (fun _ _ => v_move rfl) ?_
  refine g_val rfl rfl rfl (fun w _ => v_lenS (Try.runUnderlying27 w) rfl) ?_
  refine g_val rfl rfl rfl (fun _ _ => v_move rfl) ?_
  refine g_val rfl rfl rfl (fun w _ => v_lenS (Try.runUnderlying27 w) rfl) ?_
  refine g_val rfl rfl rfl (fun _ _ => v_neq rfl rfl) ?_
  refine g_nil ?_
  refine g_n_then ?_
  refine g_cond rfl (fun hlen => ?_) (fun hlen => ?_)
  · replace hlen := of_ndec_true hlen
    replace hlen : ¬ a.length = c.length := by omega
    refine g_seq ?_
    refine g_region ?_
    refine g_val rfl rfl rfl (fun _ _ => v_assign rfl) ?_
    refine g_nil ?_
    refine g_n_then ?_
    refine g_ret ?_
    refine g_r_then ?_
    refine g_done rfl (fun w hh => (.tmp rfl .nil)) (fun w hh => ⟨?_, hh.toExt⟩)
    have hne : a ≠ c := fun h => hlen (by rw [h])
    simp [retv, hne]
  · replace hlen := of_ndec_false hlen
    replace hlen : a.length = c.length := by omega
    refine g_skip ?_
    refine g_n_then ?_
    refine g_seq ?_
    refine g_seq ?_
    refine g_region ?_
    refine g_val rfl rfl rfl (fun _ _ => v_move rfl) ?_
    refine g_val rfl rfl rfl (fun w _ => v_lenS (Try.runUnderlying27 w) rfl) ?_
    refine g_val rfl rfl rfl (fun _ _ => v_move rfl) ?_
    refine g_nil ?_
    refine g_n_then ?_
    refine g_block ?_
    refine g_sub (e' := [(13, _), (0, _), (1, _), (12, _)]) ((.cons rfl (.cons rfl (.cons rfl (.cons rfl .nil))))) ?_
    refine g_loopM (ι := Nat) (fun k => [(13, .int .i64 (k : Nat))]) (fun k => []) (fun k => k ≤ a.length ∧ ∀ i, i < k → a.getD i (default : Sill) = c.getD i (default : Sill)) (fun k => a.length - k) 0 (⟨Nat.zero_le _, fun i hi => absurd hi (by omega)⟩) ?_
    intro k hI0
    refine g_seq ?_
    refine g_region ?_
    refine g_val rfl rfl rfl (fun _ _ => v_lss rfl rfl) ?_
    refine g_nil ?_
    refine g_n_then ?_
    refine g_seq ?_
    refine g_cond rfl (fun hc14_2 => ?_) (fun hc14_2 => ?_)
    · replace hc14_2 := of_decide_eq_true hc14_2
      refine g_skip ?_
      refine g_n_then ?_
      refine g_seq ?_
      refine g_block ?_
      refine g_seq ?_
      refine g_region ?_
      refine g_val rfl rfl rfl (fun _ _ => v_move rfl) ?_
      refine g_val rfl rfl rfl (fun _ _ => v_assign rfl) ?_
      refine g_nil ?_
      refine g_n_then ?_
      refine g_seq ?_
      refine g_draw none (.free 0 (.free 1 (.hoist 2 (.hoist 3 (.free 4 (.free 5 (.hoist 6 (.hoist 7 (.free 8 .done))))))))) _ rfl (by decide +kernel) (fun w k hh => hh.draw k) (fun w hh => hh) ?_
      refine p_free rfl rfl rfl rfl (fun _ _ => v_move rfl) ?_
      refine p_free rfl rfl rfl rfl (fun _ _ => v_move rfl) ?_
      refine p_hoist rfl rfl rfl rfl (fun w _ => v_indexAddr k (Try.runUnderlying27 w) (Try.sizeOf51 w) rfl rfl rfl (by omega) (hra (by omega))) ?_
      refine p_hoist rfl rfl rfl rfl (fun w hh => v_loadAgg (vs := encS _) (Try.isAgg51 w) (Try.sizeOf51 w) rfl (hh.elem (j := k) encS_len 0 rfl (by omega))) ?_
      refine p_free rfl rfl rfl rfl (fun _ _ => v_move rfl) ?_
      refine p_free rfl rfl rfl rfl (fun _ _ => v_move rfl) ?_
      refine p_hoist rfl rfl rfl rfl (fun w _ => v_indexAddr k (Try.runUnderlying27 w) (Try.sizeOf51 w) rfl rfl rfl (by omega) (hrb (by omega))) ?_
      refine p_hoist rfl rfl rfl rfl (fun w hh => v_loadAgg (vs := encS _) (Try.isAgg51 w) (Try.sizeOf51 w) rfl (hh.elem (j := k) encS_len 1 rfl (by omega))) ?_
      refine p_free rfl rfl rfl rfl (fun w _ => v_neqAgg (eq51 _ _ w) eqg51 rfl rfl) ?_
      refine p_done ?_
      refine g_n_then ?_
      refine g_cond rfl (fun hq => ?_) (fun hq => ?_)
      · replace hq := of_ndec_true hq
        refine g_seq ?_
        refine g_region ?_
        refine g_val rfl rfl rfl (fun _ _ => v_assign rfl) ?_
        refine g_nil ?_
        refine g_n_then ?_
        refine g_ret ?_
        refine g_r_blk ?_
        refine g_r_then ?_
        refine g_r_then ?_
        refine g_r_blk ?_
        refine g_r_then ?_
        refine g_done rfl (fun w hh => (.tmp rfl .nil)) (fun w hh => ⟨?_, hh.toExt⟩)
        have hne : a ≠ c := fun h => hq (by rw [h])
        simp [retv, hne]
      · replace hq := of_ndec_false hq
        refine g_skip ?_
        refine g_n_blk ?_
        refine g_n_then ?_
        refine g_region ?_
        refine g_val rfl rfl rfl (fun _ _ => v_add rfl rfl (wrap_i64 (by omega))) ?_
        refine g_val rfl rfl rfl (fun _ _ => v_move rfl) ?_
        refine g_nil ?_
        refine g_n_then ?_
        exact g_againM (i := k) (k + 1) [] ((.cons rfl (.cons rfl (.cons rfl (.cons rfl .nil))))) (by decide) rfl (⟨by omega, fun i hi => by rcases Nat.lt_succ_iff_lt_or_eq.1 hi with h | h; exact hI0.2 i h; subst h; exact hq⟩) (by omega)
    · replace hc14_2 := of_decide_eq_false hc14_2
      refine g_exit ?_
      refine g_x_then ?_
      refine g_x_then ?_
      refine g_x_blk ?_
      refine g_n_then ?_
      refine g_seq ?_
      refine g_region ?_
      refine g_val rfl rfl rfl (fun _ _ => v_assign rfl) ?_
      refine g_nil ?_
      refine g_n_then ?_
      refine g_ret ?_
      have ek : k = a.length := by omega
      subst ek
      have he : a = c := ext_getDd (d := (default : Sill)) (by omega) hI0.2
      refine g_done rfl (fun w hh => (.tmp rfl .nil)) (fun w hh => ⟨?_, hh.toExt⟩)
      simp [retv, he]

set_option maxRecDepth 100000 in
set_option maxHeartbeats 4000000 in
theorem c_Eq_Sill (ra rb : Option (Nat × Nat)) (a c : List Sill) (ca cb : Nat) (w : World) (hla : a.length ≤ 1000000) (hlb : c.length ≤ 1000000) (hra : 0 < a.length → ra ≠ none) (hrb : 0 < c.length → rb ≠ none) (hsa : segOK w (bk ra, off ra, flat encS a)) (hsb : segOK w (bk rb, off rb, flat encS c)) : Ret Try.prog 113 [slv ra a.length ca, slv rb c.length cb] w (.bool (decide (a = c))) := by
  refine g_enter (args := [slv ra a.length ca, slv rb c.length cb]) Try.func113 rfl Try.ntmps113 rfl (e := [(0, _), (1, _)]) rfl (HS.start w [] [(bk ra, off ra, flat encS a), (bk rb, off rb, flat encS c)] (segsC hsa (segsC hsb segsN))) ?_
  refine g_seq ?_
  refine g_region ?_
  refine g_val rfl rfl rfl (fun _ _ => v_assign rfl) ?_
  refine g_nil ?_
  refine g_n_then ?_
  refine g_seq ?_
  refine g_region ?_
  refine g_val rfl rfl rfl (fun _ _ => v_move rfl) ?_
  refine g_val rfl rfl rfl (fun _ _ => v_move rfl) ?_
  refine g_callv rfl rfl rfl rfl rfl rfl rfl (fun a w => Try.call158 a w) (fun w hh => c_Equal_Sill ra rb a c ca cb w hla hlb hra hrb (hh.seg 0 rfl) (hh.seg 1 rfl)) ?_
  refine g_val rfl rfl rfl (fun _ _ => v_assign rfl) ?_
  refine g_nil ?_
  refine g_n_then ?_
  refine g_ret ?_
  refine g_done rfl (fun w hh => (.tmp rfl .nil)) (fun w hh => ⟨?_, hh.toExt⟩)
  rfl

set_option maxRecDepth 100000 in
set_option maxHeartbeats 4000000 in
theorem c_Dup_Look (r : Option (Nat × Nat)) (l : List Look) (cp : Nat) (w : World) (hl : l.length ≤ 1000000) (hr : 0 < l.length → r ≠ none) (hs : segOK w (bk r, off r, flat encL l)) : Calls Try.prog 53 #[slv r l.length cp] w (fun en w' => ∃ q cap, en = .returned (slv q l.length cap) ∧ SlOK q l.length cap ∧ News w w' [(bk q, off q, flat encL l)]) := by
  refine g_enter (args := [slv r l.length cp]) Try.func53 rfl Try.ntmps53 rfl (e := [(0, _)]) rfl (HS.start w [] [(bk r, off r, flat encL l)] (segsC hs segsN)) ?_
  refine g_seq ?_
  refine g_region ?_
  refine g_val rfl rfl rfl (fun _ _ => v_nilSlice rfl rfl) ?_
  refine g_nil ?_
  refine g_n_then ?_
  refine g_seq ?_
  refine g_region ?_
  refine g_val rfl rfl rfl (fun _ _ => v_move rfl) ?_
  refine g_val rfl rfl rfl (fun w _ => v_lenS (Try.runUnderlying35 w) rfl) ?_
  refine g_makeCap (c := l.length) Try.underlying35 inf89 rfl rfl rfl rfl (by omega) (by omega) rfl (fun bn hbn => ?_)
  refine g_val rfl rfl rfl (fun _ _ => v_move rfl) ?_
  rcases Nat.eq_zero_or_pos l.length with h0 | h0
  · have hl0 := List.length_eq_zero_iff.1 h0
    subst hl0
    refine g_append0 Try.underlying35 infs89' rfl rfl (Nat.le_refl _) rfl ?_
    refine g_val rfl rfl rfl (fun _ _ => v_assign rfl) ?_
    refine g_nil ?_
    refine g_n_then ?_
    refine g_ret ?_
    refine g_done rfl (fun w hh => (.tmp rfl .nil)) (fun w hh => ?_)
    exact ⟨some (bn, 0), 0, rfl, ⟨by simp, Nat.le_refl _⟩, (News.nil hh.toExt).cons segOK.nil (fun h => absurd rfl h)⟩
  · refine g_appendM [] (news := flat encL l) (m := l.length) (q2 := r) Try.underlying35 inf89 rfl rfl rfl (dup_vok hl) (hr h0) h0 (flat_length encL_len l) (fun w hh => hh.seg 0 rfl) (flat_ones encL_ones l) (by simp only [maxLen]; omega) (by omega) rfl (fun q cap sp hv => ?_)
    rw [List.nil_append, Nat.zero_add] at hv
    rw [List.nil_append, Nat.zero_add]
    refine g_val rfl rfl rfl (fun _ _ => v_assign rfl) ?_
    refine g_nil ?_
    refine g_n_then ?_
    refine g_ret ?_
    refine g_done rfl (fun w hh => (.tmp rfl .nil)) (fun w hh => ?_)
    exact ⟨some q, cap, rfl, hv.sl, hh.vec [] hv.hoff hv.noneNil⟩

set_option maxRecDepth 100000 in
set_option maxHeartbeats 4000000 in
theorem c_Equal_Look (ra rb : Option (Nat × Nat)) (a c : List Look) (ca cb : Nat) (w : World) (hla : a.length ≤ 1000000) (hlb : c.length ≤ 1000000) (hra : 0 < a.length → ra ≠ none) (hrb : 0 < c.length → rb ≠ none) (hsa : segOK w (bk ra, off ra, flat encL a)) (hsb : segOK w (bk rb, off rb, flat encL c)) : Ret Try.prog 131 [slv ra a.length ca, slv rb c.length cb] w (.bool (decide (a = c))) := by
  refine g_enter (args := [slv ra a.length ca, slv rb c.length cb]) Try.func131 rfl Try.ntmps131 rfl (e := [(0, _), (1, _)]) rfl (HS.start w [] [(bk ra, off ra, flat encL a), (bk rb, off rb, flat encL c)] (segsC hsa (segsC hsb segsN))) ?_
  refine g_seq ?_
  refine g_region ?_
  refine g_val rfl rfl rfl (fun _ _ => v_assign rfl) ?_
  refine g_nil ?_
  refine g_n_then ?_
  refine g_seq ?_
  refine g_seq ?_
  refine g_region ?_
  refine g_val rfl rfl rfl (fun _ _ => v_move rfl) ?_
  refine g_val rfl rfl rfl (fun w _ => v_lenS (Try.runUnderlying35 w) rfl) ?_
  refine g_val rfl rfl rfl (fun _ _ => v_move rfl) ?_
  refine g_val rfl rfl rfl (fun w _ => v_lenS (Try.runUnderlying35 w) rfl) ?_
  refine g_val rfl rfl rfl (fun _ _ => v_neq rfl rfl) ?_
  refine g_nil ?_
  refine g_n_then ?_
  refine g_cond rfl (fun hlen => ?_) (fun hlen => ?_)
  · replace hlen := of_ndec_true hlen
    replace hlen : ¬ a.length = c.length := by omega
    refine g_seq ?_
    refine g_region ?_
    refine g_val rfl rfl rfl (fun _ _ => v_assign rfl) ?_
    refine g_nil ?_
    refine g_n_then ?_
    refine g_ret ?_
    refine g_r_then ?_
    refine g_done rfl (fun w hh => (.tmp rfl .nil)) (fun w hh => ⟨?_, hh.toExt⟩)
    have hne : a ≠ c := fun h => hlen (by rw [h])
    simp [retv, hne]
  · replace hlen := of_ndec_false hlen
    replace hlen : a.length = c.length := by omega
    refine g_skip ?_
    refine g_n_then ?_
    refine g_seq ?_
    refine g_seq ?_
    refine g_region ?_
    refine g_val rfl rfl rfl (fun _ _ => v_move rfl) ?_
    refine g_val rfl rfl rfl (fun w _ => v_lenS (Try.runUnderlying35 w) rfl) ?_
    refine g_val rfl rfl rfl (fun _ _ => v_move rfl) ?_
    refine g_nil ?_
    refine g_n_then ?_
    refine g_block ?_
    refine g_sub (e' := [(13, _), (0, _), (1, _), (12, _)]) ((.cons rfl (.cons rfl (.cons rfl (.cons rfl .nil))))) ?_
    refine g_loopM (ι := Nat) (fun k => [(13, .int .i64 (k : Nat))]) (fun k => []) (fun k => k ≤ a.length ∧ ∀ i, i < k → a.getD i (default : Look) = c.getD i (default : Look)) (fun k => a.length - k) 0 (⟨Nat.zero_le _, fun i hi => absurd hi (by omega)⟩) ?_
    intro k hI0
    refine g_seq ?_
    refine g_region ?_
    refine g_val rfl rfl rfl (fun _ _ => v_lss rfl rfl) ?_
    refine g_nil ?_
    refine g_n_then ?_
    refine g_seq ?_
    refine g_cond rfl (fun hc14_2 => ?_) (fun hc14_2 => ?_)
    · replace hc14_2 := of_decide_eq_true hc14_2
      refine g_skip ?_
      refine g_n_then ?_
      refine g_seq ?_
      refine g_block ?_
      refine g_seq ?_
      refine g_region ?_
      refine g_val rfl rfl rfl (fun _ _ => v_move rfl) ?_
      refine g_val rfl rfl rfl (fun _ _ => v_assign rfl) ?_
      refine g_nil ?_
      refine g_n_then ?_
      refine g_seq ?_
      refine g_draw none (.free 0 (.free 1 (.hoist 2 (.hoist 3 (.free 4 (.free 5 (.hoist 6 (.hoist 7 (.free 8 .done))))))))) _ rfl (by decide +kernel) (fun w k hh => hh.draw k) (fun w hh => hh) ?_
      refine p_free rfl rfl rfl rfl (fun _ _ => v_move rfl) ?_
      refine p_free rfl rfl rfl rfl (fun _ _ => v_move rfl) ?_
      refine p_hoist rfl rfl rfl rfl (fun w _ => v_indexAddr k (Try.runUnderlying35 w) (Try.sizeOf89 w) rfl rfl rfl (by omega) (hra (by omega))) ?_
      refine p_hoist rfl rfl rfl rfl (fun w hh => v_loadAgg (vs := encL _) (Try.isAgg89 w) (Try.sizeOf89 w) rfl (hh.elem (j := k) encL_len 0 rfl (by omega))) ?_
      refine p_free rfl rfl rfl rfl (fun _ _ => v_move rfl) ?_
      refine p_free rfl rfl rfl rfl (fun _ _ => v_move rfl) ?_
      refine p_hoist rfl rfl rfl rfl (fun w _ => v_indexAddr k (Try.runUnderlying35 w) (Try.sizeOf89 w) rfl rfl rfl (by omega) (hrb (by omega))) ?_
      refine p_hoist rfl rfl rfl rfl (fun w hh => v_loadAgg (vs := encL _) (Try.isAgg89 w) (Try.sizeOf89 w) rfl (hh.elem (j := k) encL_len 1 rfl (by omega))) ?_
      refine p_free rfl rfl rfl rfl (fun w _ => v_neqAgg (eq89 _ _ w) eqg89 rfl rfl) ?_
      refine p_done ?_
      refine g_n_then ?_
      refine g_cond rfl (fun hq => ?_) (fun hq => ?_)
      · replace hq := of_ndec_true hq
        refine g_seq ?_
        refine g_region ?_
        refine g_val rfl rfl rfl (fun _ _ => v_assign rfl) ?_
        refine g_nil ?_
        refine g_n_then ?_
        refine g_ret ?_
        refine g_r_blk ?_
        refine g_r_then ?_
        refine g_r_then ?_
        refine g_r_blk ?_
        refine g_r_then ?_
        refine g_done rfl (fun w hh => (.tmp rfl .nil)) (fun w hh => ⟨?_, hh.toExt⟩)
        have hne : a ≠ c := fun h => hq (by rw [h])
        simp [retv, hne]
      · replace hq := of_ndec_false hq
        refine g_skip ?_
        refine g_n_blk ?_
        refine g_n_then ?_
        refine g_region ?_
        refine g_val rfl rfl rfl (fun _ _ => v_add rfl rfl (wrap_i64 (by omega))) ?_
        refine g_val rfl rfl rfl (fun _ _ => v_move rfl) ?_
        refine g_nil ?_
        refine g_n_then ?_
        exact g_againM (i := k) (k + 1) [] ((.cons rfl (.cons rfl (.cons rfl (.cons rfl .nil))))) (by decide) rfl (⟨by omega, fun i hi => by rcases Nat.lt_succ_iff_lt_or_eq.1 hi with h | h; exact hI0.2 i h; subst h; exact hq⟩) (by omega)
    · replace hc14_2 := of_decide_eq_false hc14_2
      refine g_exit ?_
      refine g_x_then ?_
      refine g_x_then ?_
      refine g_x_blk ?_
      refine g_n_then ?_
      refine g_seq ?_
      refine g_region ?_
      refine g_val rfl rfl rfl (fun _ _ => v_assign rfl) ?_
      refine g_nil ?_
      refine g_n_then ?_
      refine g_ret ?_
      have ek : k = a.length := by omega
      subst ek
      have he : a = c := ext_getDd (d := (default : Look)) (by omega) hI0.2
      refine g_done rfl (fun w hh => (.tmp rfl .nil)) (fun w hh => ⟨?_, hh.toExt⟩)
      simp [retv, he]

set_option maxRecDepth 100000 in
set_option maxHeartbeats 4000000 in
theorem c_Eq_Look (ra rb : Option (Nat × Nat)) (a c : List Look) (ca cb : Nat) (w : World) (hla : a.length ≤ 1000000) (hlb : c.length ≤ 1000000) (hra : 0 < a.length → ra ≠ none) (hrb : 0 < c.length → rb ≠ none) (hsa : segOK w (bk ra, off ra, flat encL a)) (hsb : segOK w (bk rb, off rb, flat encL c)) : Ret Try.prog 60 [slv ra a.length ca, slv rb c.length cb] w (.bool (decide (a = c))) := by
  refine g_enter (args := [slv ra a.length ca, slv rb c.length cb]) Try.func60 rfl Try.ntmps60 rfl (e := [(0, _), (1, _)]) rfl (HS.start w [] [(bk ra, off ra, flat encL a), (bk rb, off rb, flat encL c)] (segsC hsa (segsC hsb segsN))) ?_
  refine g_seq ?_
  refine g_region ?_
  refine g_val rfl rfl rfl (fun _ _ => v_assign rfl) ?_
  refine g_nil ?_
  refine g_n_then ?_
  refine g_seq ?_
  refine g_region ?_
  refine g_val rfl rfl rfl (fun _ _ => v_move rfl) ?_
  refine g_val rfl rfl rfl (fun _ _ => v_move rfl) ?_
  refine g_callv rfl rfl rfl rfl rfl rfl rfl (fun a w => Try.call131 a w) (fun w hh => c_Equal_Look ra rb a c ca cb w hla hlb hra hrb (hh.seg 0 rfl) (hh.seg 1 rfl)) ?_
  refine g_val rfl rfl rfl (fun _ _ => v_assign rfl) ?_
  refine g_nil ?_
  refine g_n_then ?_
  refine g_ret ?_
  refine g_done rfl (fun w hh => (.tmp rfl .nil)) (fun w hh => ⟨?_, hh.toExt⟩)
  rfl

set_option maxRecDepth 100000 in
set_option maxHeartbeats 4000000 in
theorem c_Equal_Span (ra rb : Option (Nat × Nat)) (a c : List Span) (ca cb : Nat) (w : World) (hla : a.length ≤ 1000000) (hlb : c.length ≤ 1000000) (hra : 0 < a.length → ra ≠ none) (hrb : 0 < c.length → rb ≠ none) (hsa : segOK w (bk ra, off ra, flat encP a)) (hsb : segOK w (bk rb, off rb, flat encP c)) : Ret Try.prog 121 [slv ra a.length ca, slv rb c.length cb] w (.bool (decide (a = c))) := by
  refine g_enter (args := [slv ra a.length ca, slv rb c.length cb]) Try.func121 rfl Try.ntmps121 rfl (e := [(0, _), (1, _)]) rfl (HS.start w [] [(bk ra, off ra, flat encP a), (bk rb, off rb, flat encP c)] (segsC hsa (segsC hsb segsN))) ?_
  refine g_seq ?_
  refine g_region ?_
  refine g_val rfl rfl rfl (fun _ _ => v_assign rfl) ?_
  refine g_nil ?_
  refine g_n_then ?_
  refine g_seq ?_
  refine g_seq ?_
  refine g_region ?_
  refine g_val rfl rfl rfl (fun _ _ => v_move rfl) ?_
  refine g_val rfl rfl rfl (fun w _ => v_lenS (Try.runUnderlying77 w) rfl) ?_
  refine g_val rfl rfl rfl (fun _ _ => v_move rfl) ?_
  refine g_val rfl rfl rfl (fun w _ => v_lenS (Try.runUnderlying77 w) rfl) ?_
  refine g_val rfl rfl rfl (fun _ _ => v_neq rfl rfl) ?_
  refine g_nil ?_
  refine g_n_then ?_
  refine g_cond rfl (fun hlen => ?_) (fun hlen => ?_)
  · replace hlen := of_ndec_true hlen
    replace hlen : ¬ a.length = c.length := by omega
    refine g_seq ?_
    refine g_region ?_
    refine g_val rfl rfl rfl (fun _ _ => v_assign rfl) ?_
    refine g_nil ?_
    refine g_n_then ?_
    refine g_ret ?_
    refine g_r_then ?_
    refine g_done rfl (fun w hh => (.tmp rfl .nil)) (fun w hh => ⟨?_, hh.toExt⟩)
    have hne : a ≠ c := fun h => hlen (by rw [h])
    simp [retv, hne]
  · replace hlen := of_ndec_false hlen
    replace hlen : a.length = c.length := by omega
    refine g_skip ?_
    refine g_n_then ?_
    refine g_seq ?_
    refine g_seq ?_
    refine g_region ?_
    refine g_val rfl rfl rfl (fun _ _ => v_move rfl) ?_
    refine g_val rfl rfl rfl (fun w _ => v_lenS (Try.runUnderlying77 w) rfl) ?_
    refine g_val rfl rfl rfl (fun _ _ => v_move rfl) ?_
    refine g_nil ?_
    refine g_n_then ?_
    refine g_block ?_
    refine g_sub (e' := [(13, _), (0, _), (1, _), (12, _)]) ((.cons rfl (.cons rfl (.cons rfl (.cons rfl .nil))))) ?_
    refine g_loopM (ι := Nat) (fun k => [(13, .int .i64 (k : Nat))]) (fun k => []) (fun k => k ≤ a.length ∧ ∀ i, i < k → a.getD i (default : Span) = c.getD i (default : Span)) (fun k => a.length - k) 0 (⟨Nat.zero_le _, fun i hi => absurd hi (by omega)⟩) ?_
    intro k hI0
    refine g_seq ?_
    refine g_region ?_
    refine g_val rfl rfl rfl (fun _ _ => v_lss rfl rfl) ?_
    refine g_nil ?_
    refine g_n_then ?_
    refine g_seq ?_
    refine g_cond rfl (fun hc14_2 => ?_) (fun hc14_2 => ?_)
    · replace hc14_2 := of_decide_eq_true hc14_2
      refine g_skip ?_
      refine g_n_then ?_
      refine g_seq ?_
      refine g_block ?_
      refine g_seq ?_
      refine g_region ?_
      refine g_val rfl rfl rfl (fun _ _ => v_move rfl) ?_
      refine g_val rfl rfl rfl (fun _ _ => v_assign rfl) ?_
      refine g_nil ?_
      refine g_n_then ?_
      refine g_seq ?_
      refine g_draw none (.free 0 (.free 1 (.hoist 2 (.hoist 3 (.free 4 (.free 5 (.hoist 6 (.hoist 7 (.free 8 .done))))))))) _ rfl (by decide +kernel) (fun w k hh => hh.draw k) (fun w hh => hh) ?_
      refine p_free rfl rfl rfl rfl (fun _ _ => v_move rfl) ?_
      refine p_free rfl rfl rfl rfl (fun _ _ => v_move rfl) ?_
      refine p_hoist rfl rfl rfl rfl (fun w _ => v_indexAddr k (Try.runUnderlying77 w) (Try.sizeOf25 w) rfl rfl rfl (by omega) (hra (by omega))) ?_
      refine p_hoist rfl rfl rfl rfl (fun w hh => v_loadAgg (vs := encP _) (Try.isAgg25 w) (Try.sizeOf25 w) rfl (hh.elem (j := k) encP_len 0 rfl (by omega))) ?_
      refine p_free rfl rfl rfl rfl (fun _ _ => v_move rfl) ?_
      refine p_free rfl rfl rfl rfl (fun _ _ => v_move rfl) ?_
      refine p_hoist rfl rfl rfl rfl (fun w _ => v_indexAddr k (Try.runUnderlying77 w) (Try.sizeOf25 w) rfl rfl rfl (by omega) (hrb (by omega))) ?_
      refine p_hoist rfl rfl rfl rfl (fun w hh => v_loadAgg (vs := encP _) (Try.isAgg25 w) (Try.sizeOf25 w) rfl (hh.elem (j := k) encP_len 1 rfl (by omega))) ?_
      refine p_free rfl rfl rfl rfl (fun w _ => v_neqAgg (eq25 _ _ w) eqg25 rfl rfl) ?_
      refine p_done ?_
      refine g_n_then ?_
      refine g_cond rfl (fun hq => ?_) (fun hq => ?_)
      · replace hq := of_ndec_true hq
        refine g_seq ?_
        refine g_region ?_
        refine g_val rfl rfl rfl (fun _ _ => v_assign rfl) ?_
        refine g_nil ?_
        refine g_n_then ?_
        refine g_ret ?_
        refine g_r_blk ?_
        refine g_r_then ?_
        refine g_r_then ?_
        refine g_r_blk ?_
        refine g_r_then ?_
        refine g_done rfl (fun w hh => (.tmp rfl .nil)) (fun w hh => ⟨?_, hh.toExt⟩)
        have hne : a ≠ c := fun h => hq (by rw [h])
        simp [retv, hne]
      · replace hq := of_ndec_false hq
        refine g_skip ?_
        refine g_n_blk ?_
        refine g_n_then ?_
        refine g_region ?_
        refine g_val rfl rfl rfl (fun _ _ => v_add rfl rfl (wrap_i64 (by omega))) ?_
        refine g_val rfl rfl rfl (fun _ _ => v_move rfl) ?_
        refine g_nil ?_
        refine g_n_then ?_
        exact g_againM (i := k) (k + 1) [] ((.cons rfl (.cons rfl (.cons rfl (.cons rfl .nil))))) (by decide) rfl (⟨by omega, fun i hi => by rcases Nat.lt_succ_iff_lt_or_eq.1 hi with h | h; exact hI0.2 i h; subst h; exact hq⟩) (by omega)
    · replace hc14_2 := of_decide_eq_false hc14_2
      refine g_exit ?_
      refine g_x_then ?_
      refine g_x_then ?_
      refine g_x_blk ?_
      refine g_n_then ?_
      refine g_seq ?_
      refine g_region ?_
      refine g_val rfl rfl rfl (fun _ _ => v_assign rfl) ?_
      refine g_nil ?_
      refine g_n_then ?_
      refine g_ret ?_
      have ek : k = a.length := by omega
      subst ek
      have he : a = c := ext_getDd (d := (default : Span)) (by omega) hI0.2
      refine g_done rfl (fun w hh => (.tmp rfl .nil)) (fun w hh => ⟨?_, hh.toExt⟩)
      simp [retv, he]

set_option maxRecDepth 100000 in
set_option maxHeartbeats 4000000 in
theorem c_Eq_Span (ra rb : Option (Nat × Nat)) (a c : List Span) (ca cb : Nat) (w : World) (hla : a.length ≤ 1000000) (hlb : c.length ≤ 1000000) (hra : 0 < a.length → ra ≠ none) (hrb : 0 < c.length → rb ≠ none) (hsa : segOK w (bk ra, off ra, flat encP a)) (hsb : segOK w (bk rb, off rb, flat encP c)) : Ret Try.prog 50 [slv ra a.length ca, slv rb c.length cb] w (.bool (decide (a = c))) := by
  refine g_enter (args := [slv ra a.length ca, slv rb c.length cb]) Try.func50 rfl Try.ntmps50 rfl (e := [(0, _), (1, _)]) rfl (HS.start w [] [(bk ra, off ra, flat encP a), (bk rb, off rb, flat encP c)] (segsC hsa (segsC hsb segsN))) ?_
  refine g_seq ?_
  refine g_region ?_
  refine g_val rfl rfl rfl (fun _ _ => v_assign rfl) ?_
  refine g_nil ?_
  refine g_n_then ?_
  refine g_seq ?_
  refine g_region ?_
  refine g_val rfl rfl rfl (fun _ _ => v_move rfl) ?_
  refine g_val rfl rfl rfl (fun _ _ => v_move rfl) ?_
  refine g_callv rfl rfl rfl rfl rfl rfl rfl (fun a w => Try.call121 a w) (fun w hh => c_Equal_Span ra rb a c ca cb w hla hlb hra hrb (hh.seg 0 rfl) (hh.seg 1 rfl)) ?_
  refine g_val rfl rfl rfl (fun _ _ => v_assign rfl) ?_
  refine g_nil ?_
  refine g_n_then ?_
  refine g_ret ?_
  refine g_done rfl (fun w hh => (.tmp rfl .nil)) (fun w hh => ⟨?_, hh.toExt⟩)
  rfl

set_option maxRecDepth 100000 in
set_option maxHeartbeats 4000000 in
theorem c_Equal_State (ra rb : Option (Nat × Nat)) (a c : List Int) (ca cb : Nat) (w : World) (hla : a.length ≤ 1000000) (hlb : c.length ≤ 1000000) (hra : 0 < a.length → ra ≠ none) (hrb : 0 < c.length → rb ≠ none) (hsa : segOK w (bk ra, off ra, ints a)) (hsb : segOK w (bk rb, off rb, ints c)) : Ret Try.prog 114 [slv ra a.length ca, slv rb c.length cb] w (.bool (decide (a = c))) := by
  refine g_enter (args := [slv ra a.length ca, slv rb c.length cb]) Try.func114 rfl Try.ntmps114 rfl (e := [(0, _), (1, _)]) rfl (HS.start w [] [(bk ra, off ra, ints a), (bk rb, off rb, ints c)] (segsC hsa (segsC hsb segsN))) ?_
  refine g_seq ?_
  refine g_region ?_
  refine g_val rfl rfl rfl (fun _ _ => v_assign rfl) ?_
  refine g_nil ?_
  refine g_n_then ?_
  refine g_seq ?_
  refine g_seq ?_
  refine g_region ?_
  refine g_val rfl rfl rfl (fun _ _ => v_move rfl) ?_
  refine g_val rfl rfl rfl (fun w _ => v_lenS (Try.runUnderlying43 w) rfl) ?_
  refine g_val rfl rfl rfl (fun _ _ => v_move rfl) ?_
  refine g_val rfl rfl rfl (fun w _ => v_lenS (Try.runUnderlying43 w) rfl) ?_
  refine g_val rfl rfl rfl (fun _ _ => v_neq rfl rfl) ?_
  refine g_nil ?_
  refine g_n_then ?_
  refine g_cond rfl (fun hlen => ?_) (fun hlen => ?_)
  · replace hlen := of_ndec_true hlen
    replace hlen : ¬ a.length = c.length := by omega
    refine g_seq ?_
    refine g_region ?_
    refine g_val rfl rfl rfl (fun _ _ => v_assign rfl) ?_
    refine g_nil ?_
    refine g_n_then ?_
    refine g_ret ?_
    refine g_r_then ?_
    refine g_done rfl (fun w hh => (.tmp rfl .nil)) (fun w hh => ⟨?_, hh.toExt⟩)
    have hne : a ≠ c := fun h => hlen (by rw [h])
    simp [retv, hne]
  · replace hlen := of_ndec_false hlen
    replace hlen : a.length = c.length := by omega
    refine g_skip ?_
    refine g_n_then ?_
    refine g_seq ?_
    refine g_seq ?_
    refine g_region ?_
    refine g_val rfl rfl rfl (fun _ _ => v_move rfl) ?_
    refine g_val rfl rfl rfl (fun w _ => v_lenS (Try.runUnderlying43 w) rfl) ?_
    refine g_val rfl rfl rfl (fun _ _ => v_move rfl) ?_
    refine g_nil ?_
    refine g_n_then ?_
    refine g_block ?_
    refine g_sub (e' := [(13, _), (0, _), (1, _), (12, _)]) ((.cons rfl (.cons rfl (.cons rfl (.cons rfl .nil))))) ?_
    refine g_loopM (ι := Nat) (fun k => [(13, .int .i64 (k : Nat))]) (fun k => []) (fun k => k ≤ a.length ∧ ∀ i, i < k → a.getD i (0 : Int) = c.getD i (0 : Int)) (fun k => a.length - k) 0 (⟨Nat.zero_le _, fun i hi => absurd hi (by omega)⟩) ?_
    intro k hI0
    refine g_seq ?_
    refine g_region ?_
    refine g_val rfl rfl rfl (fun _ _ => v_lss rfl rfl) ?_
    refine g_nil ?_
    refine g_n_then ?_
    refine g_seq ?_
    refine g_cond rfl (fun hc14_2 => ?_) (fun hc14_2 => ?_)
    · replace hc14_2 := of_decide_eq_true hc14_2
      refine g_skip ?_
      refine g_n_then ?_
      refine g_seq ?_
      refine g_block ?_
      refine g_seq ?_
      refine g_region ?_
      refine g_val rfl rfl rfl (fun _ _ => v_move rfl) ?_
      refine g_val rfl rfl rfl (fun _ _ => v_assign rfl) ?_
      refine g_nil ?_
      refine g_n_then ?_
      refine g_seq ?_
      refine g_draw none (.free 0 (.free 1 (.hoist 2 (.hoist 3 (.free 4 (.free 5 (.hoist 6 (.hoist 7 (.free 8 .done))))))))) _ rfl (by decide +kernel) (fun w k hh => hh.draw k) (fun w hh => hh) ?_
      refine p_free rfl rfl rfl rfl (fun _ _ => v_move rfl) ?_
      refine p_free rfl rfl rfl rfl (fun _ _ => v_move rfl) ?_
      refine p_hoist rfl rfl rfl rfl (fun w _ => v_indexAddr1 k (Try.runUnderlying43 w) (Try.sizeOf46 w) rfl rfl rfl (by omega) (hra (by omega))) ?_
      refine p_hoist rfl rfl rfl rfl (fun w hh => v_load (Try.isAgg46 w) rfl (hh.int (j := k) 0 rfl (by omega))) ?_
      refine p_free rfl rfl rfl rfl (fun _ _ => v_move rfl) ?_
      refine p_free rfl rfl rfl rfl (fun _ _ => v_move rfl) ?_
      refine p_hoist rfl rfl rfl rfl (fun w _ => v_indexAddr1 k (Try.runUnderlying43 w) (Try.sizeOf46 w) rfl rfl rfl (by omega) (hrb (by omega))) ?_
      refine p_hoist rfl rfl rfl rfl (fun w hh => v_load (Try.isAgg46 w) rfl (hh.int (j := k) 1 rfl (by omega))) ?_
      refine p_free rfl rfl rfl rfl (fun _ _ => v_neq rfl rfl) ?_
      refine p_done ?_
      refine g_n_then ?_
      refine g_cond rfl (fun hq => ?_) (fun hq => ?_)
      · replace hq := of_ndec_true hq
        refine g_seq ?_
        refine g_region ?_
        refine g_val rfl rfl rfl (fun _ _ => v_assign rfl) ?_
        refine g_nil ?_
        refine g_n_then ?_
        refine g_ret ?_
        refine g_r_blk ?_
        refine g_r_then ?_
        refine g_r_then ?_
        refine g_r_blk ?_
        refine g_r_then ?_
        refine g_done rfl (fun w hh => (.tmp rfl .nil)) (fun w hh => ⟨?_, hh.toExt⟩)
        have hne : a ≠ c := fun h => hq (by rw [h])
        simp [retv, hne]
      · replace hq := of_ndec_false hq
        refine g_skip ?_
        refine g_n_blk ?_
        refine g_n_then ?_
        refine g_region ?_
        refine g_val rfl rfl rfl (fun _ _ => v_add rfl rfl (wrap_i64 (by omega))) ?_
        refine g_val rfl rfl rfl (fun _ _ => v_move rfl) ?_
        refine g_nil ?_
        refine g_n_then ?_
        exact g_againM (i := k) (k + 1) [] ((.cons rfl (.cons rfl (.cons rfl (.cons rfl .nil))))) (by decide) rfl (⟨by omega, fun i hi => by rcases Nat.lt_succ_iff_lt_or_eq.1 hi with h | h; exact hI0.2 i h; subst h; exact hq⟩) (by omega)
    · replace hc14_2 := of_decide_eq_false hc14_2
      refine g_exit ?_
      refine g_x_then ?_
      refine g_x_then ?_
      refine g_x_blk ?_
      refine g_n_then ?_
      refine g_seq ?_
      refine g_region ?_
      refine g_val rfl rfl rfl (fun _ _ => v_assign rfl) ?_
      refine g_nil ?_
      refine g_n_then ?_
      refine g_ret ?_
      have ek : k = a.length := by omega
      subst ek
      have he : a = c := ext_getDd (d := (0 : Int)) (by omega) hI0.2
      refine g_done rfl (fun w hh => (.tmp rfl .nil)) (fun w hh => ⟨?_, hh.toExt⟩)
      simp [retv, he]

set_option maxRecDepth 100000 in
set_option maxHeartbeats 4000000 in
theorem c_Eq_State (ra rb : Option (Nat × Nat)) (a c : List Int) (ca cb : Nat) (w : World) (hla : a.length ≤ 1000000) (hlb : c.length ≤ 1000000) (hra : 0 < a.length → ra ≠ none) (hrb : 0 < c.length → rb ≠ none) (hsa : segOK w (bk ra, off ra, ints a)) (hsb : segOK w (bk rb, off rb, ints c)) : Ret Try.prog 39 [slv ra a.length ca, slv rb c.length cb] w (.bool (decide (a = c))) := by
  refine g_enter (args := [slv ra a.length ca, slv rb c.length cb]) Try.func39 rfl Try.ntmps39 rfl (e := [(0, _), (1, _)]) rfl (HS.start w [] [(bk ra, off ra, ints a), (bk rb, off rb, ints c)] (segsC hsa (segsC hsb segsN))) ?_
  refine g_seq ?_
  refine g_region ?_
  refine g_val rfl rfl rfl (fun _ _ => v_assign rfl) ?_
  refine g_nil ?_
  refine g_n_then ?_
  refine g_seq ?_
  refine g_region ?_
  refine g_val rfl rfl rfl (fun _ _ => v_move rfl) ?_
  refine g_val rfl rfl rfl (fun _ _ => v_move rfl) ?_
  refine g_callv rfl rfl rfl rfl rfl rfl rfl (fun a w => Try.call114 a w) (fun w hh => c_Equal_State ra rb a c ca cb w hla hlb hra hrb (hh.seg 0 rfl) (hh.seg 1 rfl)) ?_
  refine g_val rfl rfl rfl (fun _ _ => v_assign rfl) ?_
  refine g_nil ?_
  refine g_n_then ?_
  refine g_ret ?_
  refine g_done rfl (fun w hh => (.tmp rfl .nil)) (fun w hh => ⟨?_, hh.toExt⟩)
  rfl

end Go.Proofs

-- plain: the examples
namespace Go.Pl
def twoS : Sands := ⟨[⟨0, 100⟩, ⟨360, 400⟩, ⟨700, 150⟩], ⟨-10, 20⟩, [180, 220], [⟨-1, 0, 200⟩, ⟨0, 1, 160⟩, ⟨-1, 1, 300⟩]⟩
theorem two_check : check twoS = 0 := by decide +kernel
theorem two_H1 : HeightR twoS 91 = (175, 0) := by decide +kernel
theorem two_H2 : HeightR twoS 400 = (370, 0) := by decide +kernel
theorem two_G : GateR twoS 1 = (220, 0) := by decide +kernel
theorem two_W : WayR twoS 1 = ([0, 1], 0) := by decide +kernel
theorem two_Ho : HoldR twoS 1 [] [1] = (220, 0) := by decide +kernel
theorem two_A : AllR twoS 150 = ([2, 1], 0) := by decide +kernel
theorem two_L : LooksR twoS [⟨120, 0, true⟩] = (⟨1, 20⟩, 0) := by decide +kernel
theorem two_gates : gatesOf twoS = [200, 220, 1000, 1000, 1000, 1000, 1000, 1000] := by decide +kernel
theorem two_T : TurnR twoS 0 0 = (97, 0) := by decide +kernel
end Go.Pl

-- plain: the straight line
namespace Go.Pl
def lineAt (a b : Water) (m : Int) : Int := (a.h * (b.min - a.min) + (b.h - a.h) * (m - a.min) + 1000 * (b.min - a.min)).tdiv (b.min - a.min) - 1000
theorem floor_neg {r n : Int} (hn : 0 < n) : -((n - 1 - r) / n) = r / n := by
  have h1 := Int.emod_nonneg r (show n ≠ 0 by omega)
  have h2 := Int.emod_lt_of_pos r hn
  have h3 := Int.mul_ediv_add_emod r n
  have h4 := (Int.ediv_emod_unique (a := n - 1 - r) (b := n) (q := -(r / n)) (r := n - 1 - r % n) hn).2 ⟨by rw [Int.mul_neg]; omega, by omega, by omega⟩
  rw [h4.1]
  omega
theorem tdiv_neg_floor {r n : Int} (hn : 0 < n) (hr : r < 0) : (r - (n - 1)).tdiv n = r / n := by
  have h1 : r - (n - 1) = -(n - 1 - r) := by omega
  rw [h1, Int.neg_tdiv, Int.tdiv_eq_ediv_of_nonneg (by omega), floor_neg hn]
theorem line_slope {a b : Water} {m : Int} (hab : a.min < m ∧ m < b.min) (ha : 0 ≤ a.h ∧ a.h ≤ 999) (hb : 0 ≤ b.h ∧ b.h ≤ 999) : lineAt a b m = slope a b m := by
  unfold lineAt slope
  have hn : 0 < b.min - a.min := by omega
  have h1 : (-999) * (m - a.min) ≤ (b.h - a.h) * (m - a.min) := Int.mul_le_mul_of_nonneg_right (by omega) (by omega)
  have h2 : 0 ≤ a.h * (b.min - a.min) := Int.mul_nonneg ha.1 (by omega)
  rw [Int.tdiv_eq_ediv_of_nonneg (by omega)]
  have h3 : a.h * (b.min - a.min) + (b.h - a.h) * (m - a.min) + 1000 * (b.min - a.min) = (b.h - a.h) * (m - a.min) + (a.h + 1000) * (b.min - a.min) := by
    rw [Int.add_mul]; omega
  rw [h3, Int.add_mul_ediv_right _ _ (by omega)]
  generalize (b.h - a.h) * (m - a.min) = r
  split
  · rename_i hr
    rw [tdiv_neg_floor hn hr]; omega
  · rename_i hr
    rw [Int.tdiv_eq_ediv_of_nonneg (by omega)]; omega
theorem idx_at {s : Sands} {m : Int} {k : Nat} (hk : k < s.table.length) (hl : ∀ i, i < k → (s.table.getD i default).min < m) (hm : m ≤ (s.table.getD k default).min) : idxf (fun x => decide (m ≤ x.min)) s.table = (k : Int) :=
  idxf_found (d := default) hk (fun i hi => by have := hl i hi; simp only [decide_eq_false_iff_not]; omega) (by simpa using hm)
theorem height_eq {s : Sands} {m : Int} {k : Nat} (hk : k < s.table.length) (hl : ∀ i, i < k → (s.table.getD i default).min < m) (hm : (s.table.getD k default).min = m) : heightF s m = (s.table.getD k default).h := by
  unfold heightF
  rw [idx_at hk hl (by omega)]
  simp only [heightAt, Int.toNat_natCast]
  rw [if_pos hm]
theorem height_line {s : Sands} {m : Int} (hG : Good s) {k : Nat} (hk : k < s.table.length) (hl : ∀ i, i < k → (s.table.getD i default).min < m) (hm : m < (s.table.getD k default).min) (hk0 : k ≠ 0) :
    heightF s m = lineAt (s.table.getD (k - 1) default) (s.table.getD k default) m := by
  have h1 := hG.tab k hk
  have h2 := hG.tab (k - 1) (by omega)
  have h3 := hl (k - 1) (by omega)
  rw [line_slope ⟨h3, hm⟩ h2.2 h1.2]
  unfold heightF
  rw [idx_at hk hl (by omega)]
  simp only [heightAt, Int.toNat_natCast]
  rw [if_neg (by omega)]
end Go.Pl
namespace Go.Pl
/-- a look that is true in a truth -/
def lookT (s : Sands) (gs : List Int) (tr : Int) (x : Look) : Prop := lookOK s x ∧ x.wet = decide (gs.getD x.place.toNat 0 < heightF s x.min + tr)
end Go.Pl
namespace Go.Pl
theorem line_tight {a b : Water} {m : Int} (hab : a.min < m ∧ m < b.min) (ha : 0 ≤ a.h ∧ a.h ≤ 999) (hb : 0 ≤ b.h ∧ b.h ≤ 999) : 0 ≤ lineAt a b m ∧ lineAt a b m ≤ 999 := by
  unfold lineAt
  have hn : 0 < b.min - a.min := by omega
  generalize hN : b.min - a.min = N at *
  generalize hT : m - a.min = t at *
  have ht : 0 ≤ t ∧ t ≤ N := by omega
  have e : a.h * N + (b.h - a.h) * t = a.h * (N - t) + b.h * t := by rw [Int.sub_mul, Int.mul_sub]; omega
  have h1 : a.h * (N - t) ≤ 999 * (N - t) := Int.mul_le_mul_of_nonneg_right ha.2 (by omega)
  have h2 : b.h * t ≤ 999 * t := Int.mul_le_mul_of_nonneg_right hb.2 ht.1
  have h3 : 0 ≤ a.h * (N - t) := Int.mul_nonneg ha.1 (by omega)
  have h4 : 0 ≤ b.h * t := Int.mul_nonneg hb.1 ht.1
  rw [e, Int.tdiv_eq_ediv_of_nonneg (by omega)]
  have h5 : (a.h * (N - t) + b.h * t + 1000 * N) / N ≤ 1999 := Int.ediv_le_of_le_mul hn (by omega)
  have h6 : 1000 ≤ (a.h * (N - t) + b.h * t + 1000 * N) / N := Int.le_ediv_of_mul_le hn (by omega)
  omega
theorem height_tight {s : Sands} {m : Int} (hG : Good s) (hd : dayF s m = true) : 0 ≤ heightF s m ∧ heightF s m ≤ 999 := by
  obtain ⟨j, ej, hj, hm, hl, hj0⟩ := day_idx hG hd
  have h1 := hG.tab j hj
  by_cases he : (s.table.getD j default).min = m
  · rw [height_eq hj hl he]; exact h1.2
  · have hj1 : j ≠ 0 := fun h => he (hj0 h)
    have h2 := hG.tab (j - 1) (by omega)
    have h3 := hl (j - 1) (by omega)
    rw [height_line hG hj hl (by omega) hj1]
    exact line_tight ⟨h3, by omega⟩ h2.2 h1.2
end Go.Pl

-- plain: the law's gates, round by round
namespace Go.Pl
def gCond (s : Sands) (h : Int) (out : List Int) (y : Sill) : Prop := y.h ≤ h ∧ y.b ≠ -1 ∧ s.floors.getD y.b.toNat 0 ≤ h ∧ (y.a = -1 ∨ out.getD y.a.toNat 0 ≤ h)
instance {s : Sands} {h : Int} {out : List Int} {y : Sill} : Decidable (gCond s h out y) := by unfold gCond; infer_instance
def gStep (s : Sands) (h : Int) (out : List Int) (y : Sill) : List Int := if gCond s h out y then out.set y.b.toNat (min (out.getD y.b.toNat 0) h) else out
def swapS (x : Sill) : Sill := ⟨x.b, x.a, x.h⟩
def both (x : Sill) : List Sill := [x, swapS x]
def dirN (s : Sands) (h : Int) (out : List Int) (x : Sill) (d : Nat) : List Int := ((both x).take d).foldl (gStep s h) out
def sillN (s : Sands) (h : Int) (out : List Int) (k : Nat) : List Int := (s.sills.take k).foldl (fun o x => (both x).foldl (gStep s h) o) out
def roundsN (s : Sands) (h : Int) (out : List Int) : Nat → List Int
  | 0 => out
  | r + 1 => sillN s h (roundsN s h out r) s.sills.length
def heightN (s : Sands) (out : List Int) : Nat → List Int
  | 0 => out
  | h + 1 => roundsN s (h : Nat) (heightN s out h) s.floors.length
def initO (n k : Nat) : List Int := (List.range n).map (fun j => if j < k then 1000000 else 0)
def lawGates (s : Sands) : List Int := heightN s (initO s.floors.length s.floors.length) 62
theorem gStep_length {s : Sands} {h : Int} {out : List Int} {y : Sill} : (gStep s h out y).length = out.length := by unfold gStep; split <;> simp
theorem foldl_len {α : Type} {f : List Int → α → List Int} (hf : ∀ o x, (f o x).length = o.length) : ∀ (l : List α) (o : List Int), (l.foldl f o).length = o.length
  | [], _ => rfl
  | x :: l, o => by rw [List.foldl_cons, foldl_len hf l, hf]
theorem dirN_length {s : Sands} {h : Int} {out : List Int} {x : Sill} {d : Nat} : (dirN s h out x d).length = out.length := foldl_len (fun _ _ => gStep_length) _ _
theorem sillN_length {s : Sands} {h : Int} {out : List Int} {k : Nat} : (sillN s h out k).length = out.length := foldl_len (fun _ _ => foldl_len (fun _ _ => gStep_length) _ _) _ _
theorem roundsN_length {s : Sands} {h : Int} {out : List Int} {r : Nat} : (roundsN s h out r).length = out.length := by
  induction r with
  | zero => rfl
  | succ r ih => unfold roundsN; rw [sillN_length, ih]
theorem heightN_length {s : Sands} {out : List Int} {h : Nat} : (heightN s out h).length = out.length := by
  induction h with
  | zero => rfl
  | succ h ih => unfold heightN; rw [roundsN_length, ih]
theorem initO_length {n k : Nat} : (initO n k).length = n := by simp [initO]
theorem initO_set {n k : Nat} (h : k < n) : (initO n k).set k 1000000 = initO n (k + 1) := by
  apply List.ext_getElem?
  intro j
  rw [List.getElem?_set]
  simp only [initO, List.getElem?_map, List.length_map, List.length_range, h, if_true]
  by_cases hj : k = j
  · subst hj; simp [h]
  · rw [if_neg hj]
    cases hr : (List.range n)[j]? with
    | none => rfl
    | some v =>
      have hv : v = j := by
        have := List.getElem?_eq_some_iff.1 hr
        obtain ⟨h1, h2⟩ := this
        simpa using h2.symm
      subst hv
      simp only [Option.map_some, Option.some.injEq]
      by_cases h1 : v < k
      · rw [if_pos h1, if_pos (by omega)]
      · rw [if_neg h1, if_neg (by omega)]
theorem dirN_succ {s : Sands} {h : Int} {out : List Int} {x : Sill} {d : Nat} (hd : d < 2) : dirN s h out x (d + 1) = gStep s h (dirN s h out x d) ((both x).getD d default) := take_foldl (by simpa [both] using hd)
theorem dirN_all {s : Sands} {h : Int} {out : List Int} {x : Sill} : dirN s h out x 2 = (both x).foldl (gStep s h) out := rfl
theorem sillN_succ {s : Sands} {h : Int} {out : List Int} {k : Nat} (hk : k < s.sills.length) : sillN s h out (k + 1) = dirN s h (sillN s h out k) (s.sills.getD k default) 2 := take_foldl hk
theorem both_ends {s : Sands} (hG : Good s) {k : Nat} (hk : k < s.sills.length) {d : Nat} (hd : d < 2) : (-1 ≤ ((both (s.sills.getD k default)).getD d default).a ∧ ((both (s.sills.getD k default)).getD d default).a < s.floors.length) ∧ (-1 ≤ ((both (s.sills.getD k default)).getD d default).b ∧ ((both (s.sills.getD k default)).getD d default).b < s.floors.length) := by
  have ha := hG.sa k hk
  have hb := hG.sb k hk
  have : d = 0 ∨ d = 1 := by omega
  rcases this with rfl | rfl
  · exact ⟨ha, hb⟩
  · exact ⟨hb, ha⟩
end Go.Pl

namespace Go.Proofs
open Go Go.Fw Go.Pl
/-- what of sands does not hang on the world -/
structure LS.Bd (L : LS) : Prop where
  t0 : 0 < L.S.table.length → L.rt ≠ none
  f0 : 0 < L.S.floors.length → L.rf ≠ none
  s0 : 0 < L.S.sills.length → L.rs ≠ none
  tl : L.S.table.length ≤ 8796093022208
  fl : L.S.floors.length ≤ 17592186044416
  sl : L.S.sills.length ≤ 5864062014805
  tc : L.S.table.length ≤ L.ct
  fc : L.S.floors.length ≤ L.cf
  sc : L.S.sills.length ≤ L.cs
theorem LS.OK.bd {L : LS} {w : World} (h : L.OK w) : L.Bd := ⟨h.t0, h.f0, h.s0, h.tl, h.fl, h.sl, h.tc, h.fc, h.sc⟩
theorem LS.Bd.ok {L : LS} {w : World} (h : L.Bd) (hs : ∀ s, s ∈ L.segs → segOK w s) : L.OK w := ⟨hs, h.t0, h.f0, h.s0, h.tl, h.fl, h.sl, h.tc, h.fc, h.sc⟩
theorem LS.Bd.at {L : LS} {w0 w : World} {M : List Nat} {own : List (Nat × Obj)} {ro : List Sg} (h : L.Bd) (hh : HS w0 M own ro w) (i : Nat) (h1 : ro[i]? = some (bk L.rt, off L.rt, flat encW L.S.table)) (h2 : ro[i + 1]? = some (bk L.rf, off L.rf, ints L.S.floors)) (h3 : ro[i + 2]? = some (bk L.rs, off L.rs, flat encS L.S.sills)) : L.OK w :=
  h.ok (fun s hs => by
    simp only [LS.segs, List.mem_cons, List.not_mem_nil, or_false] at hs
    rcases hs with rfl | rfl | rfl
    · exact hh.seg i h1
    · exact hh.seg (i + 1) h2
    · exact hh.seg (i + 2) h3)
end Go.Proofs
namespace Go.Fw
open Go
theorem News.of3 {w0 w : World} {own : List (Nat × Obj)} {ro : List Sg} {a b c : Sg} (hh : HS w0 [] own ro w) (h1 : segOK w a ∧ (a.2.2 ≠ [] → w0.heap.size ≤ a.1)) (h2 : segOK w b ∧ (b.2.2 ≠ [] → w0.heap.size ≤ b.1)) (h3 : segOK w c ∧ (c.2.2 ≠ [] → w0.heap.size ≤ c.1)) : News w0 w [a, b, c] :=
  (((News.nil hh.toExt).cons h3.1 h3.2).cons h2.1 h2.2).cons h1.1 h1.2
theorem HS.newSeg {w0 w : World} {own : List (Nat × Obj)} {ro : List Sg} (hh : HS w0 [] own ro w) (i : Nat) {b : Nat} {cs : Array Value} {T : TypeId} {fr : Nat × Nat} (hi : own[i]? = some (b, .cells cs T fr)) : segOK w (b, 0, cs.toList) ∧ (cs.toList ≠ [] → w0.heap.size ≤ b) :=
  ⟨hh.ownSeg i hi, fun _ => (hh.new _ (List.mem_of_getElem? hi)).resolve_right (by simp)⟩
end Go.Fw
namespace Go.Fw
open Go
/-- a guarded operation that is wanted: as if it had no guard -/
theorem g_unguard {n : Nat} {ds : List Deferred} {e : EnvL} {P : Program} {r : Option Nat} {Q : Exit → Act → World → Prop} {ops : Array Oper} {H : World → Prop} {rest : List Oper} {dst : Option Nat} {op : Op} {ty : TypeId} {pos : String} {after : Array Edge} {j t : Nat} {want : Bool} (hj : (ops[j]?).bind (·.dst) = some t) (ht : lk e t = some (.bool want))
    (h : G n ds e H (wpListIn (fw r) 0 P ops Q (⟨dst, op, ty, pos, after, none⟩ :: rest))) : G n ds e H (wpListIn (fw r) 0 P ops Q (⟨dst, op, ty, pos, after, some (j, want)⟩ :: rest)) := fun a w he hh => by
  have := h a w he hh
  unfold wpListIn at this ⊢
  rw [if_pos (wanted_none rfl _)] at this
  rw [if_pos (by rw [wanted_some he rfl hj ht]; simp)]
  exact this
end Go.Fw
namespace Go.Fw
open Go
theorem HS.roTail {w0 w : World} {M : List Nat} {own : List (Nat × Obj)} {ro ro' : List Sg} (k : Nat) (he : ro.drop k = ro') (h : HS w0 M own ro w) : HS w0 M own ro' w := h.dropRo (fun s hs => List.mem_of_mem_drop (he ▸ hs : s ∈ ro.drop k))
/-- what a callee leaves that turned one block and laid new segments -/
structure UpdNews (b : Nat) (o' : Obj) (w w' : World) (S : List Sg) : Prop where
  ext : Ext [b] w w'
  blk : w'.heap[b]? = some o'
  ok : ∀ s, s ∈ S → segOK w' s
  new : ∀ s, s ∈ S → s.2.2 ≠ [] → w.heap.size ≤ s.1
theorem HS.updNews {w0 w w' : World} {M : List Nat} {own own' : List (Nat × Obj)} {ro S : List Sg} {b : Nat} {o o' : Obj} (h : HS w0 M own ro w) (k : Nat) (hk : own[k]? = some (b, o)) (hu : UpdNews b o' w w' S) (he : own.set k (b, o') = own') : HS w0 M own' (S ++ ro) w' := by
  have h' := h.upd' k hk hu.ext hu.blk he
  refine ⟨h'.os, h'.tape, h'.output, h'.size, h'.old, h'.ownOK, h'.new, h'.nodup, fun s hs => ?_, fun s hs hne hm => ?_⟩
  · rcases List.mem_append.1 hs with hs | hs
    · exact hu.ok s hs
    · exact h'.roOK s hs
  · rcases List.mem_append.1 hs with hs | hs
    · have hkeys : own'.map (·.1) = own.map (·.1) := by
        rw [← he, List.map_set]
        apply List.ext_getElem?
        intro i
        rw [List.getElem?_set]
        by_cases hi : k = i
        · subst hi
          have hlt : k < (own.map (·.1)).length := by simpa using (List.getElem?_eq_some_iff.1 hk).1
          simp only [if_true, hlt, List.getElem?_map, hk]; rfl
        · simp [hi]
      rw [hkeys] at hm
      obtain ⟨p, hp, hq⟩ := List.mem_map.1 hm
      have h1 := hu.new s hs hne
      have h2 := h.lt hp
      omega
    · exact h'.sep s hs hne hm
section
variable {n : Nat} {ds : List Deferred} {e : EnvL} {P : Program} {r : Option Nat} {Q : Exit → Act → World → Prop} {ops : Array Oper} {w0 : World} {M : List Nat} {own : List (Nat × Obj)} {ro : List Sg}
theorem g_callUR {ι : Type} {o : Oper} {rest : List Oper} {d : Nat} {b : Nat} {ob : Obj} {p : ι → Prop} {ob' : ι → Obj} {S : ι → List Sg} {ret : ι → Value} {own' : ι → List (Nat × Obj)} {f : FuncId} {x : Operand} {xs : List Operand} {ts : Array TypeId} {fst cap : Array Value} {vs args : List Value} (k : Nat)
    (ho : o.op = .call ⟨.value x, xs.toArray, ts⟩) (hd : o.dst = some d) (hg : o.guard = none) (hn : Nat.blt d n = true)
    (hx : ev e x = some (.func (.func f) fst cap)) (hxs : evs e xs = some vs) (ha : fst.toList ++ vs ++ cap.toList = args)
    (hf : ∀ args w, (callFunc f args).run P w = .ok (.enter f args) w) (hk : own[k]? = some (b, ob)) (hown : ∀ i, own.set k (b, ob' i) = own' i)
    (hc : ∀ w, HS w0 M own ro w → Calls P f args.toArray w (fun en w' => ∃ i, en = .returned (ret i) ∧ p i ∧ UpdNews b (ob' i) w w' (S i)))
    (h : ∀ i, p i → G n ds ((d, ret i) :: e) (HS w0 M (own' i) (S i ++ ro)) (wpListIn (fw r) 0 P ops Q rest)) : G n ds e (HS w0 M own ro) (wpListIn (fw r) 0 P ops Q (o :: rest)) :=
  g_call (H' := fun i w' => p i ∧ HS w0 M (own' i) (S i ++ ro) w') ho hd hg hn hx hxs ha hf (fun w hh => (hc w hh).mono (by rintro en w' ⟨i, rfl, hp, hu⟩; exact ⟨i, rfl, hp, hh.updNews k hk hu (hown i)⟩))
    (fun i => g_pure (fun w hh => hh.1) (fun hp => (h i hp).pre (fun w hh => hh.2)))
end
/-- the end of such a callee: the block at the head, a slice that grew behind -/
theorem HS.updVec {w0 w : World} {b : Nat} {o' : Obj} {A C : List (Nat × Obj)} {ro : List Sg} {E : TypeId} {xs sp : List Value} {q : Option (Nat × Nat)} (k : Nat) (hk : A[k]? = some (b, o')) (hb : b < w0.heap.size) (hh : HS w0 [b] (A ++ (vown E xs sp q ++ C)) ro w) (hoff : ∀ p, q = some p → p.2 = 0) (hnone : q = none → xs = []) : UpdNews b o' w0 w [(bk q, off q, xs)] := by
  have hbk : w.heap[b]? = some o' := hh.ownOK _ (List.mem_append_left _ (List.mem_of_getElem? hk))
  have key : segOK w (bk q, off q, xs) ∧ (xs ≠ [] → w0.heap.size ≤ bk q) := by
    cases q with
    | none => rw [hnone rfl]; exact ⟨segOK.nil, fun h => absurd rfl h⟩
    | some p =>
      have ho := hoff p rfl
      have hm : (p.1, Obj.cells (xs ++ sp).toArray E (0, 0)) ∈ A ++ (vown E xs sp (some p) ++ C) := by simp [vown]
      have h3 : segOK w (p.1, 0, xs ++ sp) := .of_block (hh.ownOK _ hm)
      refine ⟨fun j hj => ?_, fun _ => ?_⟩
      · have h5 : j < (xs ++ sp).length := by simp at hj ⊢; omega
        have := h3 j h5
        simp only at this hj ⊢
        simp only [bk, off, Option.getD_some, ho]
        rw [this, List.getElem_append_left hj]
      · rcases hh.new _ hm with h | h
        · exact h
        · simp at h
          exfalso
          have hnd := hh.nodup
          rw [List.map_append, List.nodup_append] at hnd
          exact hnd.2.2 b (List.mem_map.2 ⟨_, List.mem_of_getElem? hk, rfl⟩) b (List.mem_map.2 ⟨(p.1, .cells (xs ++ sp).toArray E (0, 0)), by simp [vown], h⟩) rfl
  refine ⟨hh.toExt, hbk, fun s hs => ?_, fun s hs hn => ?_⟩
  · simp at hs; subst hs; exact key.1
  · simp at hs; subst hs; exact key.2 hn
end Go.Fw
namespace Go.Proofs
open Go Go.Fw Go.Pl
theorem ints_at {g : List Int} {j : Nat} (h : j < g.length) : (ints g).toArray.toList[0 + j]? = some (.int .i64 (g.getD j 0)) := by
  rw [Nat.zero_add]; exact ints_get h
theorem ints_lt {g : List Int} {j : Nat} (h : j < g.length) : Nat.blt (0 + j) (ints g).toArray.size = true := by
  rw [ints_size]; simpa using h
theorem ints_set0 {g : List Int} {j : Nat} {v : Int} : (ints g).toArray.setIfInBounds (0 + j) (.int .i64 v) = (ints (g.set j v)).toArray := by
  apply Array.toList_inj.1
  simp [ints, List.map_set]
theorem rep_ints {n : Nat} : (List.replicate n (Value.int .i64 0)).toArray = (ints (initO n 0)).toArray := by
  apply Array.toList_inj.1
  apply List.ext_getElem
  · simp [ints, initO]
  · intro i h1 h2; simp [ints, initO]
theorem own_elem {α : Type} [Inhabited α] {enc : α → List Value} {sz : Nat} (hs : ∀ x, (enc x).length = sz) {w : World} {b : Nat} {l : List α} {j : Nat} (h : segOK w (b, 0, flat enc l)) (hj : j < l.length) :
    ∀ i (hi : i < (enc (l.getD j default)).length), w.cell? ⟨b, (0 + j * sz) + i, none⟩ = some (enc (l.getD j default))[i] :=
  (HS.start w [] [(b, 0, flat enc l)] (segsC h segsN)).elem hs 0 rfl hj
end Go.Proofs
namespace Go.Fw
open Go
section
variable {n : Nat} {ds : List Deferred} {e : EnvL} {H : World → Prop} {P : Program} {r : Option Nat} {Q : Exit → Act → World → Prop} {ops : Array Oper} {C : World → Prop} {X : Act → World → Prop}
theorem wanted_undef {o : Oper} {a : Act} {j t : Nat} {want : Bool} (he : Env n ds e a) (hg : o.guard = some (j, want)) (hj : (ops[j]?).bind (·.dst) = some t) (ht : lk e t = some undef) :
    Region.wanted o (yielded ops a.tmps) = false := by
  have h1 := he.get _ _ ht
  simp only [Region.wanted, hg, yielded, hj, Option.bind_some, h1]
  rfl
/-- a guard that was itself left out -/
theorem g_skipU {o : Oper} {rest : List Oper} {d j t : Nat} {want : Bool} (hd : o.dst = some d) (hg : o.guard = some (j, want)) (hj : (ops[j]?).bind (·.dst) = some t) (ht : lk e t = some undef) (hn : Nat.blt d n = true)
    (h : G n ds ((d, undef) :: e) H (wpListIn (fw r) 0 P ops Q rest)) : G n ds e H (wpListIn (fw r) 0 P ops Q (o :: rest)) := fun a w he hh => by
  unfold wpListIn
  rw [if_neg (by rw [wanted_undef he hg hj ht]; simp)]
  refine ⟨fun _ _ => trivial, ?_⟩
  rw [hd]
  exact h _ w (he.put hn undef) hh
theorem p_skipU {i d j t : Nat} {want : Bool} {p : Plan} {o : Oper} (ho : ops[i]? = some o) (hd : o.dst = some d) (hg : o.guard = some (j, want)) (hj : (ops[j]?).bind (·.dst) = some t) (ht : lk e t = some undef) (hn : Nat.blt d n = true)
    (h : G n ds ((d, undef) :: e) H (walk r P ops C X p)) : G n ds e H (walk r P ops C X (.hoist i p)) := fun a w he hh =>
  ⟨o, undef, ho, .inr ⟨by rw [wanted_undef he hg hj ht], rfl⟩, by rw [hd]; exact h _ w (he.put hn undef) hh⟩
theorem p_skipUF {i d j t : Nat} {want : Bool} {p : Plan} {o : Oper} (ho : ops[i]? = some o) (hd : o.dst = some d) (hg : o.guard = some (j, want)) (hj : (ops[j]?).bind (·.dst) = some t) (ht : lk e t = some undef) (hn : Nat.blt d n = true)
    (h : G n ds ((d, undef) :: e) H (walk r P ops C X p)) : G n ds e H (walk r P ops C X (.free i p)) := fun a w he hh =>
  ⟨o, undef, ho, .inr ⟨by rw [wanted_undef he hg hj ht], rfl⟩, by rw [hd]; exact h _ w (he.put hn undef) hh⟩
end
end Go.Fw
namespace Go.Fw
open Go
theorem g_freezeM {n : Nat} {ds : List Deferred} {e : EnvL} {w0 : World} {b : Nat} {ob : Obj} {ro : List Sg} (A : List (Nat × Obj)) (k : Nat) {X : Act → World → Prop} {C : List (Nat × Obj)} {E : TypeId} {xs sp : List Value} {q : Option (Nat × Nat)} (hk : A[k]? = some (b, ob)) (hoff : ∀ p, q = some p → p.2 = 0) (hnone : q = none → xs = [])
    (h : (xs ≠ [] → w0.heap.size ≤ bk q) → G n ds e (HS w0 [b] (A ++ C) ((bk q, off q, xs) :: ro)) X) : G n ds e (HS w0 [b] (A ++ (vown E xs sp q ++ C)) ro) X := by
  intro a w he hh
  have hnew : xs ≠ [] → w0.heap.size ≤ bk q := fun hne => by
    cases q with
    | none => exact absurd (hnone rfl) hne
    | some p =>
      have hm : (p.1, Obj.cells (xs ++ sp).toArray E (0, 0)) ∈ A ++ (vown E xs sp (some p) ++ C) := by simp [vown]
      rcases hh.new _ hm with h | h
      · exact h
      · simp at h
        exfalso
        have hnd := hh.nodup
        rw [List.map_append, List.nodup_append] at hnd
        exact hnd.2.2 b (List.mem_map.2 ⟨_, List.mem_of_getElem? hk, rfl⟩) b (List.mem_map.2 ⟨(p.1, .cells (xs ++ sp).toArray E (0, 0)), by simp [vown], h⟩) rfl
  exact g_freeze A hoff hnone (fun _ => h hnew) a w he hh
end Go.Fw

namespace Go.Proofs
open Go Go.Fw Go.Pl
set_option linter.unusedVariables false
set_option maxRecDepth 100000 in
set_option maxHeartbeats 4000000 in
theorem c_Two (w : World) : Calls Try.prog 105 #[.int .i64 700] w (fun en w' => ∃ L : LS, en = .returned L.val ∧ (L.S = twoS ∧ L.Bd) ∧ News w w' L.segs) := by
  refine g_enter (args := [.int .i64 700]) Try.func105 rfl Try.ntmps105 rfl (e := [(0, _)]) rfl (HS.start w [] [] segsN) ?_
  refine g_seq ?_
  refine g_region ?_
  refine g_alloc (fun w => Try.zeroValue29 w) rfl (fun b1 hb1 => ?_)
  refine g_nil ?_
  refine g_n_then ?_
  refine g_seq ?_
  refine g_region ?_
  refine g_val rfl rfl rfl (fun _ _ => v_build (vs := [(0, _), (1, _)]) (cells := [_, _]) rfl rfl) ?_
  refine g_val rfl rfl rfl (fun _ _ => v_build (vs := [(0, _), (1, _)]) (cells := [_, _]) rfl rfl) ?_
  refine g_val rfl rfl rfl (fun _ _ => v_build (vs := [(0, _), (1, _)]) (cells := [_, _]) rfl rfl) ?_
  refine g_buildSlice (vs := [(0, _), (1, _), (2, _)]) (cells := [_, _, _, _, _, _]) (fun w => Try.runUnderlying23 w) (fun w => Try.sizeOf68 w) (fun w => Try.zeroValue68 w) rfl rfl rfl rfl rfl (fun b2 hb2 => ?_)
  refine g_val rfl rfl rfl (fun _ _ => v_assign rfl) ?_
  refine g_nil ?_
  refine g_n_then ?_
  refine g_seq ?_
  refine g_seq ?_
  refine g_region ?_
  refine g_val rfl rfl rfl (fun _ _ => v_move rfl) ?_
  refine g_val rfl rfl rfl (fun _ _ => v_lss rfl rfl) ?_
  refine g_nil ?_
  refine g_n_then ?_
  refine g_condF rfl (by decide) ?_
  refine g_skip ?_
  refine g_n_then ?_
  refine g_seq ?_
  refine g_region ?_
  refine g_val rfl rfl rfl (fun _ _ => v_move rfl) ?_
  refine g_val rfl rfl rfl (fun _ _ => v_build (vs := [(0, _), (1, _)]) (cells := [_, _]) rfl rfl) ?_
  refine g_buildSlice (vs := [(0, _), (1, _)]) (cells := [_, _]) (fun w => Try.runUnderlying26 w) (fun w => Try.sizeOf3 w) (fun w => Try.zeroValue3 w) rfl rfl rfl rfl rfl (fun b3 hb3 => ?_)
  refine g_val rfl rfl rfl (fun _ _ => v_build (vs := [(0, _), (1, _), (2, _)]) (cells := [_, _, _]) rfl rfl) ?_
  refine g_val rfl rfl rfl (fun _ _ => v_build (vs := [(0, _), (1, _), (2, _)]) (cells := [_, _, _]) rfl rfl) ?_
  refine g_val rfl rfl rfl (fun _ _ => v_build (vs := [(0, _), (1, _), (2, _)]) (cells := [_, _, _]) rfl rfl) ?_
  refine g_buildSlice (vs := [(0, _), (1, _), (2, _)]) (cells := [_, _, _, _, _, _, _, _, _]) (fun w => Try.runUnderlying27 w) (fun w => Try.sizeOf51 w) (fun w => Try.zeroValue51 w) rfl rfl rfl rfl rfl (fun b4 hb4 => ?_)
  refine g_val rfl rfl rfl (fun _ _ => v_build (vs := [(0, _), (1, _), (2, _), (3, _)]) (cells := [_, _, _, _, _]) rfl rfl) ?_
  refine g_storeAgg (vs := #[_, _, _, _, _]) (own' := (_ :: _ :: _ :: _ :: _)) 3 (fun w => Try.sizeOf29 w) rfl rfl rfl rfl rfl rfl ?_
  refine g_nil ?_
  refine g_n_then ?_
  refine g_ret ?_
  refine g_done rfl (fun w hh => (.cell rfl (loadVar_agg (vs := [_, _, _, _, _]) (Try.isAgg29 _) (Try.sizeOf29 _) (hh.cells 3 rfl rfl)) .nil)) (fun w hh => ?_)
  have hN := News.of3 hh (hh.newSeg 2 rfl) (hh.newSeg 1 rfl) (hh.newSeg 0 rfl)
  exact ⟨⟨some (b2, 0), 3, some (b3, 0), 2, some (b4, 0), 3, twoS⟩, rfl, ⟨rfl, by simp, by simp, by simp, by simp [twoS], by simp [twoS], by simp [twoS], by simp [twoS], by simp [twoS], by simp [twoS]⟩, hN⟩

set_option maxRecDepth 100000 in
set_option maxHeartbeats 4000000 in
theorem c_awake (w : World) : Ret Try.prog 30 [] w (.bool true) := by
  refine g_enter (args := []) Try.func30 rfl Try.ntmps30 rfl (e := []) rfl (HS.start w [] [] segsN) ?_
  refine g_seq ?_
  refine g_region ?_
  refine g_val rfl rfl rfl (fun _ _ => v_assign rfl) ?_
  refine g_nil ?_
  refine g_n_then ?_
  refine g_seq ?_
  refine g_region ?_
  refine g_callR (ι := LS) (p := fun L => L.S = twoS ∧ L.Bd) (S := fun L => L.segs) (ret := fun L => L.val) rfl rfl rfl rfl rfl rfl rfl (fun a w => Try.call105 a w) (fun w hh => c_Two w) ?_
  rintro L1 ⟨hSL1, hBL1⟩
  refine g_callv rfl rfl rfl rfl rfl rfl rfl (fun a w => Try.call36 a w) (fun w hh => c_Height 91 L1 w (hBL1.at hh 0 rfl rfl rfl)) ?_
  refine g_set 15 (u := .tuple #[.int .i64 175, .int .i64 0]) rfl (by rw [hSL1, two_H1]) ?_
  refine g_val rfl rfl rfl (fun _ _ => v_move rfl) ?_
  refine g_val rfl rfl rfl (fun _ _ => v_extract rfl rfl) ?_
  refine g_val rfl rfl rfl (fun _ _ => v_extract rfl rfl) ?_
  refine g_val rfl rfl rfl (fun _ _ => v_assign rfl) ?_
  refine g_val rfl rfl rfl (fun _ _ => v_assign rfl) ?_
  refine g_nil ?_
  refine g_n_then ?_
  refine g_seq ?_
  refine g_region ?_
  refine g_callR (ι := LS) (p := fun L => L.S = twoS ∧ L.Bd) (S := fun L => L.segs) (ret := fun L => L.val) rfl rfl rfl rfl rfl rfl rfl (fun a w => Try.call105 a w) (fun w hh => c_Two w) ?_
  rintro L2 ⟨hSL2, hBL2⟩
  refine g_callv rfl rfl rfl rfl rfl rfl rfl (fun a w => Try.call36 a w) (fun w hh => c_Height 400 L2 w (hBL2.at hh 0 rfl rfl rfl)) ?_
  refine g_set 20 (u := .tuple #[.int .i64 370, .int .i64 0]) rfl (by rw [hSL2, two_H2]) ?_
  refine g_val rfl rfl rfl (fun _ _ => v_move rfl) ?_
  refine g_val rfl rfl rfl (fun _ _ => v_extract rfl rfl) ?_
  refine g_val rfl rfl rfl (fun _ _ => v_extract rfl rfl) ?_
  refine g_val rfl rfl rfl (fun _ _ => v_assign rfl) ?_
  refine g_val rfl rfl rfl (fun _ _ => v_assign rfl) ?_
  refine g_nil ?_
  refine g_n_then ?_
  refine g_seq ?_
  refine g_region ?_
  refine g_callR (ι := LS) (p := fun L => L.S = twoS ∧ L.Bd) (S := fun L => L.segs) (ret := fun L => L.val) rfl rfl rfl rfl rfl rfl rfl (fun a w => Try.call105 a w) (fun w hh => c_Two w) ?_
  rintro L3 ⟨hSL3, hBL3⟩
  refine g_callv rfl rfl rfl rfl rfl rfl rfl (fun a w => Try.call31 a w) (fun w hh => c_Gate 1 L3 w (hBL3.at hh 0 rfl rfl rfl)) ?_
  refine g_set 25 (u := .tuple #[.int .i64 220, .int .i64 0]) rfl (by rw [hSL3, two_G]) ?_
  refine g_val rfl rfl rfl (fun _ _ => v_move rfl) ?_
  refine g_val rfl rfl rfl (fun _ _ => v_extract rfl rfl) ?_
  refine g_val rfl rfl rfl (fun _ _ => v_extract rfl rfl) ?_
  refine g_val rfl rfl rfl (fun _ _ => v_assign rfl) ?_
  refine g_val rfl rfl rfl (fun _ _ => v_assign rfl) ?_
  refine g_nil ?_
  refine g_n_then ?_
  refine g_seq ?_
  refine g_region ?_
  refine g_callR (ι := LS) (p := fun L => L.S = twoS ∧ L.Bd) (S := fun L => L.segs) (ret := fun L => L.val) rfl rfl rfl rfl rfl rfl rfl (fun a w => Try.call105 a w) (fun w hh => c_Two w) ?_
  rintro L4 ⟨hSL4, hBL4⟩
  refine g_callv rfl rfl rfl rfl rfl rfl rfl (fun a w => Try.call41 a w) (fun w hh => c_Turn 0 0 L4 w (hBL4.at hh 0 rfl rfl rfl)) ?_
  refine g_set 30 (u := .tuple #[.int .i64 97, .int .i64 0]) rfl (by rw [hSL4, two_T]) ?_
  refine g_val rfl rfl rfl (fun _ _ => v_move rfl) ?_
  refine g_val rfl rfl rfl (fun _ _ => v_extract rfl rfl) ?_
  refine g_val rfl rfl rfl (fun _ _ => v_extract rfl rfl) ?_
  refine g_val rfl rfl rfl (fun _ _ => v_assign rfl) ?_
  refine g_val rfl rfl rfl (fun _ _ => v_assign rfl) ?_
  refine g_nil ?_
  refine g_n_then ?_
  refine g_seq ?_
  refine g_seq ?_
  refine g_region ?_
  refine g_val rfl rfl rfl (fun _ _ => v_move rfl) ?_
  refine g_val rfl rfl rfl (fun _ _ => v_neq rfl rfl) ?_
  refine g_val rfl rfl rfl (fun _ _ => v_move rfl) ?_
  refine g_valG rfl rfl rfl rfl rfl (fun _ _ => v_move rfl) ?_
  refine g_valG rfl rfl rfl rfl rfl (fun _ _ => v_neq rfl rfl) ?_
  refine g_val rfl rfl rfl (fun _ _ => v_pickF rfl rfl) ?_
  refine g_val rfl rfl rfl (fun _ _ => v_move rfl) ?_
  refine g_valG rfl rfl rfl rfl rfl (fun _ _ => v_move rfl) ?_
  refine g_valG rfl rfl rfl rfl rfl (fun _ _ => v_neq rfl rfl) ?_
  refine g_val rfl rfl rfl (fun _ _ => v_pickF rfl rfl) ?_
  refine g_val rfl rfl rfl (fun _ _ => v_move rfl) ?_
  refine g_valG rfl rfl rfl rfl rfl (fun _ _ => v_move rfl) ?_
  refine g_valG rfl rfl rfl rfl rfl (fun _ _ => v_neq rfl rfl) ?_
  refine g_val rfl rfl rfl (fun _ _ => v_pickF rfl rfl) ?_
  refine g_val rfl rfl rfl (fun _ _ => v_move rfl) ?_
  refine g_valG rfl rfl rfl rfl rfl (fun _ _ => v_move rfl) ?_
  refine g_valG rfl rfl rfl rfl rfl (fun _ _ => v_neq rfl rfl) ?_
  refine g_val rfl rfl rfl (fun _ _ => v_pickF rfl rfl) ?_
  refine g_val rfl rfl rfl (fun _ _ => v_move rfl) ?_
  refine g_valG rfl rfl rfl rfl rfl (fun _ _ => v_move rfl) ?_
  refine g_valG rfl rfl rfl rfl rfl (fun _ _ => v_neq rfl rfl) ?_
  refine g_val rfl rfl rfl (fun _ _ => v_pickF rfl rfl) ?_
  refine g_val rfl rfl rfl (fun _ _ => v_move rfl) ?_
  refine g_valG rfl rfl rfl rfl rfl (fun _ _ => v_move rfl) ?_
  refine g_valG rfl rfl rfl rfl rfl (fun _ _ => v_neq rfl rfl) ?_
  refine g_val rfl rfl rfl (fun _ _ => v_pickF rfl rfl) ?_
  refine g_val rfl rfl rfl (fun _ _ => v_move rfl) ?_
  refine g_valG rfl rfl rfl rfl rfl (fun _ _ => v_move rfl) ?_
  refine g_valG rfl rfl rfl rfl rfl (fun _ _ => v_neq rfl rfl) ?_
  refine g_val rfl rfl rfl (fun _ _ => v_pickF rfl rfl) ?_
  refine g_nil ?_
  refine g_n_then ?_
  refine g_condF rfl rfl ?_
  refine g_skip ?_
  refine g_n_then ?_
  refine g_seq ?_
  refine g_region ?_
  refine g_callR (ι := LS) (p := fun L => L.S = twoS ∧ L.Bd) (S := fun L => L.segs) (ret := fun L => L.val) rfl rfl rfl rfl rfl rfl rfl (fun a w => Try.call105 a w) (fun w hh => c_Two w) ?_
  rintro L5 ⟨hSL5, hBL5⟩
  refine g_callR (ι := Option (Nat × Nat) × Nat) (p := fun i => SlOK i.1 ([0, 1] : List Int).length i.2) (S := fun i => [(bk i.1, off i.1, ints [0, 1])]) (ret := fun i => .tuple #[slv i.1 ([0, 1] : List Int).length i.2, .int .i64 0]) rfl rfl rfl rfl rfl rfl rfl (fun a w => Try.call81 a w) (fun w hh => (c_Way 1 L5 w (hBL5.at hh 0 rfl rfl rfl)).mono (by rw [hSL5, two_W]; rintro en w' ⟨q, cap, rfl, h1, h2⟩; exact ⟨(q, cap), rfl, h1, h2⟩)) (fun q6 hq6 => ?_)
  refine g_val rfl rfl rfl (fun _ _ => v_move rfl) ?_
  refine g_val rfl rfl rfl (fun _ _ => v_extract rfl rfl) ?_
  refine g_val rfl rfl rfl (fun _ _ => v_extract rfl rfl) ?_
  refine g_val rfl rfl rfl (fun _ _ => v_assign rfl) ?_
  refine g_val rfl rfl rfl (fun _ _ => v_assign rfl) ?_
  refine g_nil ?_
  refine g_n_then ?_
  refine g_seq ?_
  refine g_region ?_
  refine g_callR (ι := LS) (p := fun L => L.S = twoS ∧ L.Bd) (S := fun L => L.segs) (ret := fun L => L.val) rfl rfl rfl rfl rfl rfl rfl (fun a w => Try.call105 a w) (fun w hh => c_Two w) ?_
  rintro L7 ⟨hSL7, hBL7⟩
  refine g_buildSlice (vs := [(0, _)]) (cells := [_]) (fun w => Try.runUnderlying26 w) (fun w => Try.sizeOf3 w) (fun w => Try.zeroValue3 w) rfl rfl rfl rfl rfl (fun b8 hb8 => ?_)
  refine g_callv rfl rfl rfl rfl rfl rfl rfl (fun a w => Try.call51 a w) (fun w hh => c_Hold 1 none (some (_, 0)) [] [1] 0 1 L7 w (hBL7.at hh 0 rfl rfl rfl) (by decide) (by decide) (by simp) (by simp) segOK.nil (hh.ownSeg 0 rfl)) ?_
  refine g_set 71 (u := .tuple #[.int .i64 220, .int .i64 0]) rfl (by rw [hSL7, two_Ho]) ?_
  refine g_val rfl rfl rfl (fun _ _ => v_move rfl) ?_
  refine g_val rfl rfl rfl (fun _ _ => v_extract rfl rfl) ?_
  refine g_val rfl rfl rfl (fun _ _ => v_extract rfl rfl) ?_
  refine g_val rfl rfl rfl (fun _ _ => v_assign rfl) ?_
  refine g_val rfl rfl rfl (fun _ _ => v_assign rfl) ?_
  refine g_nil ?_
  refine g_n_then ?_
  refine g_seq ?_
  refine g_region ?_
  refine g_callR (ι := LS) (p := fun L => L.S = twoS ∧ L.Bd) (S := fun L => L.segs) (ret := fun L => L.val) rfl rfl rfl rfl rfl rfl rfl (fun a w => Try.call105 a w) (fun w hh => c_Two w) ?_
  rintro L9 ⟨hSL9, hBL9⟩
  refine g_callR (ι := Option (Nat × Nat) × Nat) (p := fun i => SlOK i.1 ([2, 1] : List Int).length i.2) (S := fun i => [(bk i.1, off i.1, ints [2, 1])]) (ret := fun i => .tuple #[slv i.1 ([2, 1] : List Int).length i.2, .int .i64 0]) rfl rfl rfl rfl rfl rfl rfl (fun a w => Try.call28 a w) (fun w hh => (c_All 150 L9 w (hBL9.at hh 0 rfl rfl rfl)).mono (by rw [hSL9, two_A]; rintro en w' ⟨q, cap, rfl, h1, h2⟩; exact ⟨(q, cap), rfl, h1, h2⟩)) (fun q10 hq10 => ?_)
  refine g_val rfl rfl rfl (fun _ _ => v_move rfl) ?_
  refine g_val rfl rfl rfl (fun _ _ => v_extract rfl rfl) ?_
  refine g_val rfl rfl rfl (fun _ _ => v_extract rfl rfl) ?_
  refine g_val rfl rfl rfl (fun _ _ => v_assign rfl) ?_
  refine g_val rfl rfl rfl (fun _ _ => v_assign rfl) ?_
  refine g_nil ?_
  refine g_n_then ?_
  refine g_seq ?_
  refine g_region ?_
  refine g_callR (ι := LS) (p := fun L => L.S = twoS ∧ L.Bd) (S := fun L => L.segs) (ret := fun L => L.val) rfl rfl rfl rfl rfl rfl rfl (fun a w => Try.call105 a w) (fun w hh => c_Two w) ?_
  rintro L11 ⟨hSL11, hBL11⟩
  refine g_val rfl rfl rfl (fun _ _ => v_build (vs := [(0, _), (2, _)]) (cells := [_, _, _]) rfl rfl) ?_
  refine g_buildSlice (vs := [(0, _)]) (cells := [_, _, _]) (fun w => Try.runUnderlying35 w) (fun w => Try.sizeOf89 w) (fun w => Try.zeroValue89 w) rfl rfl rfl rfl rfl (fun b12 hb12 => ?_)
  refine g_callv rfl rfl rfl rfl rfl rfl rfl (fun a w => Try.call23 a w) (fun w hh => c_Looks (some (_, 0)) [⟨120, 0, true⟩] 1 L11 w (hBL11.at hh 0 rfl rfl rfl) (by decide) (by simp) (hh.ownSeg 0 rfl)) ?_
  refine g_set 83 (u := .tuple #[.agg #[.int .i64 1, .int .i64 20], .int .i64 0]) rfl (by rw [hSL11, two_L]; rfl) ?_
  refine g_val rfl rfl rfl (fun _ _ => v_move rfl) ?_
  refine g_val rfl rfl rfl (fun _ _ => v_extract rfl rfl) ?_
  refine g_val rfl rfl rfl (fun _ _ => v_extract rfl rfl) ?_
  refine g_alloc (fun w => Try.zeroValue25 w) rfl (fun b13 hb13 => ?_)
  refine g_storeAgg (vs := #[_, _]) (own' := (_ :: _)) 0 (fun w => Try.sizeOf25 w) rfl rfl rfl rfl rfl rfl ?_
  refine g_val rfl rfl rfl (fun _ _ => v_assign rfl) ?_
  refine g_nil ?_
  refine g_n_then ?_
  refine g_seq ?_
  refine g_region ?_
  refine g_val rfl rfl rfl (fun _ _ => v_move rfl) ?_
  refine g_val rfl rfl rfl (fun _ _ => v_eql rfl rfl) ?_
  refine g_val rfl rfl rfl (fun _ _ => v_move rfl) ?_
  refine g_valG rfl rfl rfl rfl rfl (fun _ _ => v_move rfl) ?_
  refine g_valG rfl rfl rfl rfl rfl (fun _ _ => v_eql rfl rfl) ?_
  refine g_val rfl rfl rfl (fun _ _ => v_pickT rfl rfl) ?_
  refine g_val rfl rfl rfl (fun _ _ => v_move rfl) ?_
  refine g_valG rfl rfl rfl rfl rfl (fun _ _ => v_move rfl) ?_
  refine g_valG rfl rfl rfl rfl rfl (fun _ _ => v_eql rfl rfl) ?_
  refine g_val rfl rfl rfl (fun _ _ => v_pickT rfl rfl) ?_
  refine g_val rfl rfl rfl (fun _ _ => v_move rfl) ?_
  refine g_valG rfl rfl rfl rfl rfl (fun _ _ => v_move rfl) ?_
  refine g_valG rfl rfl rfl rfl rfl (fun _ _ => v_eql rfl rfl) ?_
  refine g_val rfl rfl rfl (fun _ _ => v_pickT rfl rfl) ?_
  refine g_val rfl rfl rfl (fun _ _ => v_move rfl) ?_
  refine g_valG rfl rfl rfl rfl rfl (fun _ _ => v_move rfl) ?_
  refine g_unguard rfl rfl ?_
  refine g_buildSlice (vs := [(0, _), (1, _)]) (cells := [_, _]) (fun w => Try.runUnderlying26 w) (fun w => Try.sizeOf3 w) (fun w => Try.zeroValue3 w) rfl rfl rfl rfl rfl (fun b14 hb14 => ?_)
  refine g_callvG rfl rfl rfl rfl rfl rfl rfl rfl rfl (fun a w => Try.call59 a w) (fun w hh => c_Eq_int q6.1 (some (_, 0)) [0, 1] [0, 1] q6.2 2 w (by decide) (by decide) hq6.ne (by simp) (hh.seg 10 rfl) (hh.ownSeg 0 rfl)) ?_
  refine g_set 103 (u := .bool true) rfl (congrArg Value.bool (decide_eq_true rfl)) ?_
  refine g_val rfl rfl rfl (fun _ _ => v_pickT rfl rfl) ?_
  refine g_val rfl rfl rfl (fun _ _ => v_move rfl) ?_
  refine g_valG rfl rfl rfl rfl rfl (fun _ _ => v_move rfl) ?_
  refine g_valG rfl rfl rfl rfl rfl (fun _ _ => v_eql rfl rfl) ?_
  refine g_val rfl rfl rfl (fun _ _ => v_pickT rfl rfl) ?_
  refine g_val rfl rfl rfl (fun _ _ => v_move rfl) ?_
  refine g_valG rfl rfl rfl rfl rfl (fun _ _ => v_move rfl) ?_
  refine g_unguard rfl rfl ?_
  refine g_buildSlice (vs := [(0, _), (1, _)]) (cells := [_, _]) (fun w => Try.runUnderlying43 w) (fun w => Try.sizeOf46 w) (fun w => Try.zeroValue46 w) rfl rfl rfl rfl rfl (fun b15 hb15 => ?_)
  refine g_callvG rfl rfl rfl rfl rfl rfl rfl rfl rfl (fun a w => Try.call39 a w) (fun w hh => c_Eq_State q10.1 (some (_, 0)) [2, 1] [2, 1] q10.2 2 w (by decide) (by decide) hq10.ne (by simp) (hh.seg 3 rfl) (hh.ownSeg 0 rfl)) ?_
  refine g_set 112 (u := .bool true) rfl (congrArg Value.bool (decide_eq_true rfl)) ?_
  refine g_val rfl rfl rfl (fun _ _ => v_pickT rfl rfl) ?_
  refine g_val rfl rfl rfl (fun _ _ => v_move rfl) ?_
  refine g_valG rfl rfl rfl rfl rfl (fun w hh => v_loadAgg (vs := [_, _]) (Try.isAgg25 w) (Try.sizeOf25 w) rfl (hh.cells 2 rfl rfl)) ?_
  refine g_valG rfl rfl rfl rfl rfl (fun _ _ => v_build (vs := [(0, _), (1, _)]) (cells := [_, _]) rfl rfl) ?_
  refine g_valG rfl rfl rfl rfl rfl (fun w _ => v_eqlAgg (eq25 ⟨1, 20⟩ ⟨1, 20⟩ w) eqg25 rfl rfl) ?_
  refine g_set 117 (u := .bool true) rfl (congrArg Value.bool (decide_eq_true rfl)) ?_
  refine g_val rfl rfl rfl (fun _ _ => v_pickT rfl rfl) ?_
  refine g_val rfl rfl rfl (fun _ _ => v_assign rfl) ?_
  refine g_nil ?_
  refine g_n_then ?_
  refine g_ret ?_
  refine g_done rfl (fun w hh => (.tmp rfl .nil)) (fun w hh => ⟨rfl, hh.toExt⟩)

end Go.Proofs

namespace Go.Proofs.Wk
open Go Go.Fw Go.Gx Go.Pl
set_option linter.unusedVariables false
def x_Check (s : Sands) : Option Int := if s.table.length ≤ 8796093022208 ∧ s.floors.length ≤ 17592186044416 ∧ s.sills.length ≤ 5864062014805 then some (check s) else none
theorem cx_Check (s : Sands) (q_s_table : Option (Nat × Nat)) (n_s_table c_s_table : Nat) (q_s_floors : Option (Nat × Nat)) (n_s_floors c_s_floors : Nat) (q_s_sills : Option (Nat × Nat)) (n_s_sills c_s_sills : Nat) (w : World) (hw : HV w (keys [] []) [] [] [(bk q_s_table, off q_s_table, RW.enc s.table), (bk q_s_floors, off q_s_floors, RI.enc s.floors), (bk q_s_sills, off q_s_sills, RS.enc s.sills)] w) (hn_s_table : s.table.length = n_s_table) (hne_s_table : 0 < n_s_table → q_s_table ≠ none) (hle_s_table : n_s_table ≤ c_s_table) (hn_s_floors : s.floors.length = n_s_floors) (hne_s_floors : 0 < n_s_floors → q_s_floors ≠ none) (hle_s_floors : n_s_floors ≤ c_s_floors) (hn_s_sills : s.sills.length = n_s_sills) (hne_s_sills : 0 < n_s_sills → q_s_sills ≠ none) (hle_s_sills : n_s_sills ≤ c_s_sills) {res : Int} (hm : x_Check s = some res) :
    Calls Try.prog 24 #[.agg #[slv q_s_table n_s_table c_s_table, .int .i64 s.wind.lo, .int .i64 s.wind.hi, slv q_s_floors n_s_floors c_s_floors, slv q_s_sills n_s_sills c_s_sills]] w (fun en w' => ∃ l : Unit, en = .returned (.int .i64 res) ∧ True ∧ HV w (keys [] []) [] [] [] w') := by
  unfold x_Check at hm
  obtain ⟨hb, hm⟩ := ifO hm
  subst hn_s_table
  subst hn_s_floors
  subst hn_s_sills
  obtain ⟨hb0, hb1, hb2⟩ := hb
  obtain rfl := Option.some.inj hm
  have hL : LS.OK (⟨q_s_table, c_s_table, q_s_floors, c_s_floors, q_s_sills, c_s_sills, s⟩ : LS) w := ⟨segsC (hw.seg 0 rfl) (segsC (by have h := hw.seg 1 rfl; rw [RI_enc] at h; exact h) (segsC (hw.seg 2 rfl) segsN)), hne_s_table, hne_s_floors, hne_s_sills, hb0, hb1, hb2, hle_s_table, hle_s_floors, hle_s_sills⟩
  exact Calls.mono (c_Check (⟨q_s_table, c_s_table, q_s_floors, c_s_floors, q_s_sills, c_s_sills, s⟩ : LS) w hL) (fun en w' hr => ⟨(), hr.1, trivial, HV.ofExt hr.2⟩)

def x_Height (s : Sands) (m : Int) : Option (Int × Int) := if s.table.length ≤ 8796093022208 ∧ s.floors.length ≤ 17592186044416 ∧ s.sills.length ≤ 5864062014805 then some (HeightR s m) else none
theorem cx_Height (s : Sands) (m : Int) (q_s_table : Option (Nat × Nat)) (n_s_table c_s_table : Nat) (q_s_floors : Option (Nat × Nat)) (n_s_floors c_s_floors : Nat) (q_s_sills : Option (Nat × Nat)) (n_s_sills c_s_sills : Nat) (w : World) (hw : HV w (keys [] []) [] [] [(bk q_s_table, off q_s_table, RW.enc s.table), (bk q_s_floors, off q_s_floors, RI.enc s.floors), (bk q_s_sills, off q_s_sills, RS.enc s.sills)] w) (hn_s_table : s.table.length = n_s_table) (hne_s_table : 0 < n_s_table → q_s_table ≠ none) (hle_s_table : n_s_table ≤ c_s_table) (hn_s_floors : s.floors.length = n_s_floors) (hne_s_floors : 0 < n_s_floors → q_s_floors ≠ none) (hle_s_floors : n_s_floors ≤ c_s_floors) (hn_s_sills : s.sills.length = n_s_sills) (hne_s_sills : 0 < n_s_sills → q_s_sills ≠ none) (hle_s_sills : n_s_sills ≤ c_s_sills) {res : (Int × Int)} (hm : x_Height s m = some res) :
    Calls Try.prog 36 #[.agg #[slv q_s_table n_s_table c_s_table, .int .i64 s.wind.lo, .int .i64 s.wind.hi, slv q_s_floors n_s_floors c_s_floors, slv q_s_sills n_s_sills c_s_sills], .int .i64 m] w (fun en w' => ∃ l : Unit, en = .returned (.tuple #[.int .i64 res.1, .int .i64 res.2]) ∧ True ∧ HV w (keys [] []) [] [] [] w') := by
  unfold x_Height at hm
  obtain ⟨hb, hm⟩ := ifO hm
  subst hn_s_table
  subst hn_s_floors
  subst hn_s_sills
  obtain ⟨hb0, hb1, hb2⟩ := hb
  obtain rfl := Option.some.inj hm
  have hL : LS.OK (⟨q_s_table, c_s_table, q_s_floors, c_s_floors, q_s_sills, c_s_sills, s⟩ : LS) w := ⟨segsC (hw.seg 0 rfl) (segsC (by have h := hw.seg 1 rfl; rw [RI_enc] at h; exact h) (segsC (hw.seg 2 rfl) segsN)), hne_s_table, hne_s_floors, hne_s_sills, hb0, hb1, hb2, hle_s_table, hle_s_floors, hle_s_sills⟩
  exact Calls.mono (c_Height m (⟨q_s_table, c_s_table, q_s_floors, c_s_floors, q_s_sills, c_s_sills, s⟩ : LS) w hL) (fun en w' hr => ⟨(), hr.1, trivial, HV.ofExt hr.2⟩)

def x_Level (s : Sands) (m : Int) : Option (Span × Int) := if s.table.length ≤ 8796093022208 ∧ s.floors.length ≤ 17592186044416 ∧ s.sills.length ≤ 5864062014805 then some (LevelR s m) else none
theorem cx_Level (s : Sands) (m : Int) (q_s_table : Option (Nat × Nat)) (n_s_table c_s_table : Nat) (q_s_floors : Option (Nat × Nat)) (n_s_floors c_s_floors : Nat) (q_s_sills : Option (Nat × Nat)) (n_s_sills c_s_sills : Nat) (w : World) (hw : HV w (keys [] []) [] [] [(bk q_s_table, off q_s_table, RW.enc s.table), (bk q_s_floors, off q_s_floors, RI.enc s.floors), (bk q_s_sills, off q_s_sills, RS.enc s.sills)] w) (hn_s_table : s.table.length = n_s_table) (hne_s_table : 0 < n_s_table → q_s_table ≠ none) (hle_s_table : n_s_table ≤ c_s_table) (hn_s_floors : s.floors.length = n_s_floors) (hne_s_floors : 0 < n_s_floors → q_s_floors ≠ none) (hle_s_floors : n_s_floors ≤ c_s_floors) (hn_s_sills : s.sills.length = n_s_sills) (hne_s_sills : 0 < n_s_sills → q_s_sills ≠ none) (hle_s_sills : n_s_sills ≤ c_s_sills) {res : (Span × Int)} (hm : x_Level s m = some res) :
    Calls Try.prog 37 #[.agg #[slv q_s_table n_s_table c_s_table, .int .i64 s.wind.lo, .int .i64 s.wind.hi, slv q_s_floors n_s_floors c_s_floors, slv q_s_sills n_s_sills c_s_sills], .int .i64 m] w (fun en w' => ∃ l : Unit, en = .returned (.tuple #[.agg #[.int .i64 res.1.lo, .int .i64 res.1.hi], .int .i64 res.2]) ∧ True ∧ HV w (keys [] []) [] [] [] w') := by
  unfold x_Level at hm
  obtain ⟨hb, hm⟩ := ifO hm
  subst hn_s_table
  subst hn_s_floors
  subst hn_s_sills
  obtain ⟨hb0, hb1, hb2⟩ := hb
  obtain rfl := Option.some.inj hm
  have hL : LS.OK (⟨q_s_table, c_s_table, q_s_floors, c_s_floors, q_s_sills, c_s_sills, s⟩ : LS) w := ⟨segsC (hw.seg 0 rfl) (segsC (by have h := hw.seg 1 rfl; rw [RI_enc] at h; exact h) (segsC (hw.seg 2 rfl) segsN)), hne_s_table, hne_s_floors, hne_s_sills, hb0, hb1, hb2, hle_s_table, hle_s_floors, hle_s_sills⟩
  exact Calls.mono (c_Level m (⟨q_s_table, c_s_table, q_s_floors, c_s_floors, q_s_sills, c_s_sills, s⟩ : LS) w hL) (fun en w' hr => ⟨(), hr.1, trivial, HV.ofExt hr.2⟩)

def x_At (s : Sands) (m : Int) (p : Int) : Option (Int × Int) := if s.table.length ≤ 8796093022208 ∧ s.floors.length ≤ 17592186044416 ∧ s.sills.length ≤ 5864062014805 then some (AtR s m p) else none
theorem cx_At (s : Sands) (m : Int) (p : Int) (q_s_table : Option (Nat × Nat)) (n_s_table c_s_table : Nat) (q_s_floors : Option (Nat × Nat)) (n_s_floors c_s_floors : Nat) (q_s_sills : Option (Nat × Nat)) (n_s_sills c_s_sills : Nat) (w : World) (hw : HV w (keys [] []) [] [] [(bk q_s_table, off q_s_table, RW.enc s.table), (bk q_s_floors, off q_s_floors, RI.enc s.floors), (bk q_s_sills, off q_s_sills, RS.enc s.sills)] w) (hn_s_table : s.table.length = n_s_table) (hne_s_table : 0 < n_s_table → q_s_table ≠ none) (hle_s_table : n_s_table ≤ c_s_table) (hn_s_floors : s.floors.length = n_s_floors) (hne_s_floors : 0 < n_s_floors → q_s_floors ≠ none) (hle_s_floors : n_s_floors ≤ c_s_floors) (hn_s_sills : s.sills.length = n_s_sills) (hne_s_sills : 0 < n_s_sills → q_s_sills ≠ none) (hle_s_sills : n_s_sills ≤ c_s_sills) {res : (Int × Int)} (hm : x_At s m p = some res) :
    Calls Try.prog 46 #[.agg #[slv q_s_table n_s_table c_s_table, .int .i64 s.wind.lo, .int .i64 s.wind.hi, slv q_s_floors n_s_floors c_s_floors, slv q_s_sills n_s_sills c_s_sills], .int .i64 m, .int .i64 p] w (fun en w' => ∃ l : Unit, en = .returned (.tuple #[.int .i64 res.1, .int .i64 res.2]) ∧ True ∧ HV w (keys [] []) [] [] [] w') := by
  unfold x_At at hm
  obtain ⟨hb, hm⟩ := ifO hm
  subst hn_s_table
  subst hn_s_floors
  subst hn_s_sills
  obtain ⟨hb0, hb1, hb2⟩ := hb
  obtain rfl := Option.some.inj hm
  have hL : LS.OK (⟨q_s_table, c_s_table, q_s_floors, c_s_floors, q_s_sills, c_s_sills, s⟩ : LS) w := ⟨segsC (hw.seg 0 rfl) (segsC (by have h := hw.seg 1 rfl; rw [RI_enc] at h; exact h) (segsC (hw.seg 2 rfl) segsN)), hne_s_table, hne_s_floors, hne_s_sills, hb0, hb1, hb2, hle_s_table, hle_s_floors, hle_s_sills⟩
  exact Calls.mono (c_At m p (⟨q_s_table, c_s_table, q_s_floors, c_s_floors, q_s_sills, c_s_sills, s⟩ : LS) w hL) (fun en w' hr => ⟨(), hr.1, trivial, HV.ofExt hr.2⟩)

def x_Gate (s : Sands) (p : Int) : Option (Int × Int) := if s.table.length ≤ 8796093022208 ∧ s.floors.length ≤ 17592186044416 ∧ s.sills.length ≤ 5864062014805 then some (GateR s p) else none
theorem cx_Gate (s : Sands) (p : Int) (q_s_table : Option (Nat × Nat)) (n_s_table c_s_table : Nat) (q_s_floors : Option (Nat × Nat)) (n_s_floors c_s_floors : Nat) (q_s_sills : Option (Nat × Nat)) (n_s_sills c_s_sills : Nat) (w : World) (hw : HV w (keys [] []) [] [] [(bk q_s_table, off q_s_table, RW.enc s.table), (bk q_s_floors, off q_s_floors, RI.enc s.floors), (bk q_s_sills, off q_s_sills, RS.enc s.sills)] w) (hn_s_table : s.table.length = n_s_table) (hne_s_table : 0 < n_s_table → q_s_table ≠ none) (hle_s_table : n_s_table ≤ c_s_table) (hn_s_floors : s.floors.length = n_s_floors) (hne_s_floors : 0 < n_s_floors → q_s_floors ≠ none) (hle_s_floors : n_s_floors ≤ c_s_floors) (hn_s_sills : s.sills.length = n_s_sills) (hne_s_sills : 0 < n_s_sills → q_s_sills ≠ none) (hle_s_sills : n_s_sills ≤ c_s_sills) {res : (Int × Int)} (hm : x_Gate s p = some res) :
    Calls Try.prog 31 #[.agg #[slv q_s_table n_s_table c_s_table, .int .i64 s.wind.lo, .int .i64 s.wind.hi, slv q_s_floors n_s_floors c_s_floors, slv q_s_sills n_s_sills c_s_sills], .int .i64 p] w (fun en w' => ∃ l : Unit, en = .returned (.tuple #[.int .i64 res.1, .int .i64 res.2]) ∧ True ∧ HV w (keys [] []) [] [] [] w') := by
  unfold x_Gate at hm
  obtain ⟨hb, hm⟩ := ifO hm
  subst hn_s_table
  subst hn_s_floors
  subst hn_s_sills
  obtain ⟨hb0, hb1, hb2⟩ := hb
  obtain rfl := Option.some.inj hm
  have hL : LS.OK (⟨q_s_table, c_s_table, q_s_floors, c_s_floors, q_s_sills, c_s_sills, s⟩ : LS) w := ⟨segsC (hw.seg 0 rfl) (segsC (by have h := hw.seg 1 rfl; rw [RI_enc] at h; exact h) (segsC (hw.seg 2 rfl) segsN)), hne_s_table, hne_s_floors, hne_s_sills, hb0, hb1, hb2, hle_s_table, hle_s_floors, hle_s_sills⟩
  exact Calls.mono (c_Gate p (⟨q_s_table, c_s_table, q_s_floors, c_s_floors, q_s_sills, c_s_sills, s⟩ : LS) w hL) (fun en w' hr => ⟨(), hr.1, trivial, HV.ofExt hr.2⟩)

def x_Turn (s : Sands) (p : Int) (m : Int) : Option (Int × Int) := if s.table.length ≤ 8796093022208 ∧ s.floors.length ≤ 17592186044416 ∧ s.sills.length ≤ 5864062014805 then some (TurnR s p m) else none
theorem cx_Turn (s : Sands) (p : Int) (m : Int) (q_s_table : Option (Nat × Nat)) (n_s_table c_s_table : Nat) (q_s_floors : Option (Nat × Nat)) (n_s_floors c_s_floors : Nat) (q_s_sills : Option (Nat × Nat)) (n_s_sills c_s_sills : Nat) (w : World) (hw : HV w (keys [] []) [] [] [(bk q_s_table, off q_s_table, RW.enc s.table), (bk q_s_floors, off q_s_floors, RI.enc s.floors), (bk q_s_sills, off q_s_sills, RS.enc s.sills)] w) (hn_s_table : s.table.length = n_s_table) (hne_s_table : 0 < n_s_table → q_s_table ≠ none) (hle_s_table : n_s_table ≤ c_s_table) (hn_s_floors : s.floors.length = n_s_floors) (hne_s_floors : 0 < n_s_floors → q_s_floors ≠ none) (hle_s_floors : n_s_floors ≤ c_s_floors) (hn_s_sills : s.sills.length = n_s_sills) (hne_s_sills : 0 < n_s_sills → q_s_sills ≠ none) (hle_s_sills : n_s_sills ≤ c_s_sills) {res : (Int × Int)} (hm : x_Turn s p m = some res) :
    Calls Try.prog 41 #[.agg #[slv q_s_table n_s_table c_s_table, .int .i64 s.wind.lo, .int .i64 s.wind.hi, slv q_s_floors n_s_floors c_s_floors, slv q_s_sills n_s_sills c_s_sills], .int .i64 p, .int .i64 m] w (fun en w' => ∃ l : Unit, en = .returned (.tuple #[.int .i64 res.1, .int .i64 res.2]) ∧ True ∧ HV w (keys [] []) [] [] [] w') := by
  unfold x_Turn at hm
  obtain ⟨hb, hm⟩ := ifO hm
  subst hn_s_table
  subst hn_s_floors
  subst hn_s_sills
  obtain ⟨hb0, hb1, hb2⟩ := hb
  obtain rfl := Option.some.inj hm
  have hL : LS.OK (⟨q_s_table, c_s_table, q_s_floors, c_s_floors, q_s_sills, c_s_sills, s⟩ : LS) w := ⟨segsC (hw.seg 0 rfl) (segsC (by have h := hw.seg 1 rfl; rw [RI_enc] at h; exact h) (segsC (hw.seg 2 rfl) segsN)), hne_s_table, hne_s_floors, hne_s_sills, hb0, hb1, hb2, hle_s_table, hle_s_floors, hle_s_sills⟩
  exact Calls.mono (c_Turn p m (⟨q_s_table, c_s_table, q_s_floors, c_s_floors, q_s_sills, c_s_sills, s⟩ : LS) w hL) (fun en w' hr => ⟨(), hr.1, trivial, HV.ofExt hr.2⟩)

def x_Looks (s : Sands) (k : (List Look)) : Option (Span × Int) := if s.table.length ≤ 8796093022208 ∧ s.floors.length ≤ 17592186044416 ∧ s.sills.length ≤ 5864062014805 ∧ k.length ≤ 5864062014805 then some (LooksR s k) else none
theorem cx_Looks (s : Sands) (k : (List Look)) (q_s_table : Option (Nat × Nat)) (n_s_table c_s_table : Nat) (q_s_floors : Option (Nat × Nat)) (n_s_floors c_s_floors : Nat) (q_s_sills : Option (Nat × Nat)) (n_s_sills c_s_sills : Nat) (q_k : Option (Nat × Nat)) (n_k c_k : Nat) (w : World) (hw : HV w (keys [] []) [] [] [(bk q_s_table, off q_s_table, RW.enc s.table), (bk q_s_floors, off q_s_floors, RI.enc s.floors), (bk q_s_sills, off q_s_sills, RS.enc s.sills), (bk q_k, off q_k, RL.enc k)] w) (hn_s_table : s.table.length = n_s_table) (hne_s_table : 0 < n_s_table → q_s_table ≠ none) (hle_s_table : n_s_table ≤ c_s_table) (hn_s_floors : s.floors.length = n_s_floors) (hne_s_floors : 0 < n_s_floors → q_s_floors ≠ none) (hle_s_floors : n_s_floors ≤ c_s_floors) (hn_s_sills : s.sills.length = n_s_sills) (hne_s_sills : 0 < n_s_sills → q_s_sills ≠ none) (hle_s_sills : n_s_sills ≤ c_s_sills) (hn_k : k.length = n_k) (hne_k : 0 < n_k → q_k ≠ none) (hle_k : n_k ≤ c_k) {res : (Span × Int)} (hm : x_Looks s k = some res) :
    Calls Try.prog 23 #[.agg #[slv q_s_table n_s_table c_s_table, .int .i64 s.wind.lo, .int .i64 s.wind.hi, slv q_s_floors n_s_floors c_s_floors, slv q_s_sills n_s_sills c_s_sills], slv q_k n_k c_k] w (fun en w' => ∃ l : Unit, en = .returned (.tuple #[.agg #[.int .i64 res.1.lo, .int .i64 res.1.hi], .int .i64 res.2]) ∧ True ∧ HV w (keys [] []) [] [] [] w') := by
  unfold x_Looks at hm
  obtain ⟨hb, hm⟩ := ifO hm
  subst hn_s_table
  subst hn_s_floors
  subst hn_s_sills
  subst hn_k
  obtain ⟨hb0, hb1, hb2, hb3⟩ := hb
  obtain rfl := Option.some.inj hm
  have hL : LS.OK (⟨q_s_table, c_s_table, q_s_floors, c_s_floors, q_s_sills, c_s_sills, s⟩ : LS) w := ⟨segsC (hw.seg 0 rfl) (segsC (by have h := hw.seg 1 rfl; rw [RI_enc] at h; exact h) (segsC (hw.seg 2 rfl) segsN)), hne_s_table, hne_s_floors, hne_s_sills, hb0, hb1, hb2, hle_s_table, hle_s_floors, hle_s_sills⟩
  exact Calls.mono (c_Looks q_k k c_k (⟨q_s_table, c_s_table, q_s_floors, c_s_floors, q_s_sills, c_s_sills, s⟩ : LS) w hL hb3 hne_k (hw.seg 3 rfl)) (fun en w' hr => ⟨(), hr.1, trivial, HV.ofExt hr.2⟩)

def x_All (s : Sands) (m : Int) : Option ((List Int) × Int) := if s.table.length ≤ 8796093022208 ∧ s.floors.length ≤ 17592186044416 ∧ s.sills.length ≤ 5864062014805 then some (AllR s m) else none
theorem cx_All (s : Sands) (m : Int) (q_s_table : Option (Nat × Nat)) (n_s_table c_s_table : Nat) (q_s_floors : Option (Nat × Nat)) (n_s_floors c_s_floors : Nat) (q_s_sills : Option (Nat × Nat)) (n_s_sills c_s_sills : Nat) (w : World) (hw : HV w (keys [] []) [] [] [(bk q_s_table, off q_s_table, RW.enc s.table), (bk q_s_floors, off q_s_floors, RI.enc s.floors), (bk q_s_sills, off q_s_sills, RS.enc s.sills)] w) (hn_s_table : s.table.length = n_s_table) (hne_s_table : 0 < n_s_table → q_s_table ≠ none) (hle_s_table : n_s_table ≤ c_s_table) (hn_s_floors : s.floors.length = n_s_floors) (hne_s_floors : 0 < n_s_floors → q_s_floors ≠ none) (hle_s_floors : n_s_floors ≤ c_s_floors) (hn_s_sills : s.sills.length = n_s_sills) (hne_s_sills : 0 < n_s_sills → q_s_sills ≠ none) (hle_s_sills : n_s_sills ≤ c_s_sills) {res : ((List Int) × Int)} (hm : x_All s m = some res) :
    Calls Try.prog 28 #[.agg #[slv q_s_table n_s_table c_s_table, .int .i64 s.wind.lo, .int .i64 s.wind.hi, slv q_s_floors n_s_floors c_s_floors, slv q_s_sills n_s_sills c_s_sills], .int .i64 m] w (fun en w' => ∃ l : Option (Nat × Nat) × Nat, en = .returned (.tuple #[slv l.1 res.1.length l.2, .int .i64 res.2]) ∧ (SlOK l.1 res.1.length l.2) ∧ News w w' [(bk l.1, off l.1, RI.enc res.1)]) := by
  unfold x_All at hm
  obtain ⟨hb, hm⟩ := ifO hm
  subst hn_s_table
  subst hn_s_floors
  subst hn_s_sills
  obtain ⟨hb0, hb1, hb2⟩ := hb
  obtain rfl := Option.some.inj hm
  have hL : LS.OK (⟨q_s_table, c_s_table, q_s_floors, c_s_floors, q_s_sills, c_s_sills, s⟩ : LS) w := ⟨segsC (hw.seg 0 rfl) (segsC (by have h := hw.seg 1 rfl; rw [RI_enc] at h; exact h) (segsC (hw.seg 2 rfl) segsN)), hne_s_table, hne_s_floors, hne_s_sills, hb0, hb1, hb2, hle_s_table, hle_s_floors, hle_s_sills⟩
  exact Calls.mono (c_All m (⟨q_s_table, c_s_table, q_s_floors, c_s_floors, q_s_sills, c_s_sills, s⟩ : LS) w hL) (by rintro en w' ⟨q, cap, rfl, h1, h2⟩; exact ⟨(q, cap), rfl, h1, by first | exact h2 | (simp only [RI_enc]; exact h2)⟩)

def x_awake  : Option Bool := some (true)
theorem cx_awake   (w : World) (hw : HV w (keys [] []) [] [] [] w)  {res : Bool} (hm : x_awake  = some res) :
    Calls Try.prog 30 #[] w (fun en w' => ∃ l : Unit, en = .returned (.bool res) ∧ True ∧ HV w (keys [] []) [] [] [] w') := by
  unfold x_awake at hm
  obtain rfl := Option.some.inj hm
  exact Calls.mono (c_awake w) (fun en w' hr => ⟨(), hr.1, trivial, HV.ofExt hr.2⟩)

theorem looksOK {s : Sands} {k : List Look} (h : k.all (fun l => dayF s l.min && isPlace s l.place) = true) : ∀ i, i < k.length → lookOK s (k.getD i default) := fun i hi => by
  have := all_getD (d := (default : Look)) h hi
  simpa [lookOK] using this
/-- the gates, one by one -/
def gates8 (s : Sands) : List Int := [(gatesOf s).getD 0 0, (gatesOf s).getD 1 0, (gatesOf s).getD 2 0, (gatesOf s).getD 3 0, (gatesOf s).getD 4 0, (gatesOf s).getD 5 0, (gatesOf s).getD 6 0, (gatesOf s).getD 7 0]
theorem gates8_eq (s : Sands) : gates8 s = gatesOf s := by
  have h := gates_length (s := s)
  unfold gates8
  generalize gatesOf s = g at h
  match g, h with
  | [a, b, c, d, e, f, x, y], _ => rfl
theorem deskSeg {L : LS} {bd : Nat} {w : World} (h : segOK w (bd, 0, L.cells ++ ints (gates8 L.S))) : segOK w (bd, 0, L.cells ++ ints (gatesOf L.S)) := gates8_eq L.S ▸ h
theorem deskNews {L : LS} {w w' : World} {bd : Nat} (h : News w w' [(bd, 0, L.cells ++ ints (gatesOf L.S))]) : News w w' [(bd, 0, L.cells ++ ints (gates8 L.S))] := by
  rw [gates8_eq]; exact h
theorem deskFresh {L : LS} {w w' : World} {bd : Nat} (h : Fresh w w' [(bd, deskObj L (gatesOf L.S))]) : Fresh w w' [(bd, .cells (L.cells ++ ints (gates8 L.S)).toArray 157 (0, 0))] := by
  rw [gates8_eq]; exact h
theorem cx_opened (s : Sands) (q_table : Option (Nat × Nat)) (n_table c_table : Nat) (q_floors : Option (Nat × Nat)) (n_floors c_floors : Nat) (q_sills : Option (Nat × Nat)) (n_sills c_sills : Nat) (w : World) (hw : HV w (keys [] []) [] [] [(bk q_table, off q_table, RW.enc s.table), (bk q_floors, off q_floors, RI.enc s.floors), (bk q_sills, off q_sills, RS.enc s.sills)] w) (hn_table : s.table.length = n_table) (hne_table : 0 < n_table → q_table ≠ none) (hle_table : n_table ≤ c_table) (hn_floors : s.floors.length = n_floors) (hne_floors : 0 < n_floors → q_floors ≠ none) (hle_floors : n_floors ≤ c_floors) (hn_sills : s.sills.length = n_sills) (hne_sills : 0 < n_sills → q_sills ≠ none) (hle_sills : n_sills ≤ c_sills) (hb : s.table.length ≤ 8796093022208 ∧ s.floors.length ≤ 17592186044416 ∧ s.sills.length ≤ 5864062014805) (hc : check s = 0) :
    Calls Try.prog 102 #[.agg #[slv q_table n_table c_table, .int .i64 s.wind.lo, .int .i64 s.wind.hi, slv q_floors n_floors c_floors, slv q_sills n_sills c_sills]] w (fun en w' => ∃ bd : Nat, en = .returned (.tuple #[ptr bd 0, .int .i64 0]) ∧ Fresh w w' [(bd, .cells #[slv q_table n_table c_table, .int .i64 s.wind.lo, .int .i64 s.wind.hi, slv q_floors n_floors c_floors, slv q_sills n_sills c_sills, .int .i64 ((gatesOf s).getD 0 0), .int .i64 ((gatesOf s).getD 1 0), .int .i64 ((gatesOf s).getD 2 0), .int .i64 ((gatesOf s).getD 3 0), .int .i64 ((gatesOf s).getD 4 0), .int .i64 ((gatesOf s).getD 5 0), .int .i64 ((gatesOf s).getD 6 0), .int .i64 ((gatesOf s).getD 7 0)] 157 (0, 0))]) := by
  subst hn_table
  subst hn_floors
  subst hn_sills
  have hL : LS.OK (⟨q_table, c_table, q_floors, c_floors, q_sills, c_sills, s⟩ : LS) w := ⟨segsC (hw.seg 0 rfl) (segsC (by have h := hw.seg 1 rfl; rw [RI_enc] at h; exact h) (segsC (hw.seg 2 rfl) segsN)), hne_table, hne_floors, hne_sills, hb.1, hb.2.1, hb.2.2, hle_table, hle_floors, hle_sills⟩
  exact Calls.mono (c_opened (⟨q_table, c_table, q_floors, c_floors, q_sills, c_sills, s⟩ : LS) w hL (good_of_check hc) hc) (by rintro en w' ⟨bd, rfl, hf⟩; exact ⟨bd, rfl, deskFresh hf⟩)
theorem cx_openedE (s : Sands) (q_table : Option (Nat × Nat)) (n_table c_table : Nat) (q_floors : Option (Nat × Nat)) (n_floors c_floors : Nat) (q_sills : Option (Nat × Nat)) (n_sills c_sills : Nat) (w : World) (hw : HV w (keys [] []) [] [] [(bk q_table, off q_table, RW.enc s.table), (bk q_floors, off q_floors, RI.enc s.floors), (bk q_sills, off q_sills, RS.enc s.sills)] w) (hn_table : s.table.length = n_table) (hne_table : 0 < n_table → q_table ≠ none) (hle_table : n_table ≤ c_table) (hn_floors : s.floors.length = n_floors) (hne_floors : 0 < n_floors → q_floors ≠ none) (hle_floors : n_floors ≤ c_floors) (hn_sills : s.sills.length = n_sills) (hne_sills : 0 < n_sills → q_sills ≠ none) (hle_sills : n_sills ≤ c_sills) (hb : s.table.length ≤ 8796093022208 ∧ s.floors.length ≤ 17592186044416 ∧ s.sills.length ≤ 5864062014805) (hc : check s ≠ 0) :
    Calls Try.prog 102 #[.agg #[slv q_table n_table c_table, .int .i64 s.wind.lo, .int .i64 s.wind.hi, slv q_floors n_floors c_floors, slv q_sills n_sills c_sills]] w (fun en w' => ∃ l : Unit, en = .returned (.tuple #[.pointer none, .int .i64 (check s)]) ∧ True ∧ News w w' []) := by
  subst hn_table
  subst hn_floors
  subst hn_sills
  have hL : LS.OK (⟨q_table, c_table, q_floors, c_floors, q_sills, c_sills, s⟩ : LS) w := ⟨segsC (hw.seg 0 rfl) (segsC (by have h := hw.seg 1 rfl; rw [RI_enc] at h; exact h) (segsC (hw.seg 2 rfl) segsN)), hne_table, hne_floors, hne_sills, hb.1, hb.2.1, hb.2.2, hle_table, hle_floors, hle_sills⟩
  exact Calls.mono (c_openedE (⟨q_table, c_table, q_floors, c_floors, q_sills, c_sills, s⟩ : LS) w hL hc) (fun en w' hr => ⟨(), hr.1, trivial, News.nil hr.2⟩)

theorem cx_looked (s : Sands) (k : List Look) (q_table : Option (Nat × Nat)) (n_table c_table : Nat) (q_floors : Option (Nat × Nat)) (n_floors c_floors : Nat) (q_sills : Option (Nat × Nat)) (n_sills c_sills : Nat) (q_k : Option (Nat × Nat)) (n_k c_k : Nat) (w : World) (hw : HV w (keys [] []) [] [] [(bk q_table, off q_table, RW.enc s.table), (bk q_floors, off q_floors, RI.enc s.floors), (bk q_sills, off q_sills, RS.enc s.sills), (bk q_k, off q_k, RL.enc k)] w) (hn_table : s.table.length = n_table) (hne_table : 0 < n_table → q_table ≠ none) (hle_table : n_table ≤ c_table) (hn_floors : s.floors.length = n_floors) (hne_floors : 0 < n_floors → q_floors ≠ none) (hle_floors : n_floors ≤ c_floors) (hn_sills : s.sills.length = n_sills) (hne_sills : 0 < n_sills → q_sills ≠ none) (hle_sills : n_sills ≤ c_sills) (hn_k : k.length = n_k) (hne_k : 0 < n_k → q_k ≠ none) (hle_k : n_k ≤ c_k) (hb0 : (s.table.length ≤ 8796093022208 ∧ s.floors.length ≤ 17592186044416 ∧ s.sills.length ≤ 5864062014805) ∧ k.length ≤ 5864062014805) (hc : lookedE s k = 0) :
    Calls Try.prog 86 #[.agg #[slv q_table n_table c_table, .int .i64 s.wind.lo, .int .i64 s.wind.hi, slv q_floors n_floors c_floors, slv q_sills n_sills c_sills], slv q_k n_k c_k] w (fun en w' => ∃ bd : Nat, en = .returned (.tuple #[ptr bd 0, .int .i64 0]) ∧ True ∧ News w w' [(bd, 0, [slv q_table n_table c_table, .int .i64 s.wind.lo, .int .i64 s.wind.hi, slv q_floors n_floors c_floors, slv q_sills n_sills c_sills, .int .i64 ((gatesOf s).getD 0 0), .int .i64 ((gatesOf s).getD 1 0), .int .i64 ((gatesOf s).getD 2 0), .int .i64 ((gatesOf s).getD 3 0), .int .i64 ((gatesOf s).getD 4 0), .int .i64 ((gatesOf s).getD 5 0), .int .i64 ((gatesOf s).getD 6 0), .int .i64 ((gatesOf s).getD 7 0)])]) := by
  subst hn_table
  subst hn_floors
  subst hn_sills
  subst hn_k
  have hb := hb0.1
  have hL : LS.OK (⟨q_table, c_table, q_floors, c_floors, q_sills, c_sills, s⟩ : LS) w := ⟨segsC (hw.seg 0 rfl) (segsC (by have h := hw.seg 1 rfl; rw [RI_enc] at h; exact h) (segsC (hw.seg 2 rfl) segsN)), hne_table, hne_floors, hne_sills, hb.1, hb.2.1, hb.2.2, hle_table, hle_floors, hle_sills⟩
  exact Calls.mono (c_lookedR q_k k c_k (⟨q_table, c_table, q_floors, c_floors, q_sills, c_sills, s⟩ : LS) w hL hb0.2 hne_k (hw.seg 3 rfl) hc) (by rintro en w' ⟨bd, rfl, _, hf⟩; exact ⟨bd, rfl, trivial, deskNews hf⟩)
theorem cx_lookedE (s : Sands) (k : List Look) (q_table : Option (Nat × Nat)) (n_table c_table : Nat) (q_floors : Option (Nat × Nat)) (n_floors c_floors : Nat) (q_sills : Option (Nat × Nat)) (n_sills c_sills : Nat) (q_k : Option (Nat × Nat)) (n_k c_k : Nat) (w : World) (hw : HV w (keys [] []) [] [] [(bk q_table, off q_table, RW.enc s.table), (bk q_floors, off q_floors, RI.enc s.floors), (bk q_sills, off q_sills, RS.enc s.sills), (bk q_k, off q_k, RL.enc k)] w) (hn_table : s.table.length = n_table) (hne_table : 0 < n_table → q_table ≠ none) (hle_table : n_table ≤ c_table) (hn_floors : s.floors.length = n_floors) (hne_floors : 0 < n_floors → q_floors ≠ none) (hle_floors : n_floors ≤ c_floors) (hn_sills : s.sills.length = n_sills) (hne_sills : 0 < n_sills → q_sills ≠ none) (hle_sills : n_sills ≤ c_sills) (hn_k : k.length = n_k) (hne_k : 0 < n_k → q_k ≠ none) (hle_k : n_k ≤ c_k) (hb0 : (s.table.length ≤ 8796093022208 ∧ s.floors.length ≤ 17592186044416 ∧ s.sills.length ≤ 5864062014805) ∧ k.length ≤ 5864062014805) (hc : lookedE s k ≠ 0) :
    Calls Try.prog 86 #[.agg #[slv q_table n_table c_table, .int .i64 s.wind.lo, .int .i64 s.wind.hi, slv q_floors n_floors c_floors, slv q_sills n_sills c_sills], slv q_k n_k c_k] w (fun en w' => ∃ l : Unit, en = .returned (.tuple #[.pointer none, .int .i64 (lookedE s k)]) ∧ True ∧ News w w' []) := by
  subst hn_table
  subst hn_floors
  subst hn_sills
  subst hn_k
  have hb := hb0.1
  have hL : LS.OK (⟨q_table, c_table, q_floors, c_floors, q_sills, c_sills, s⟩ : LS) w := ⟨segsC (hw.seg 0 rfl) (segsC (by have h := hw.seg 1 rfl; rw [RI_enc] at h; exact h) (segsC (hw.seg 2 rfl) segsN)), hne_table, hne_floors, hne_sills, hb.1, hb.2.1, hb.2.2, hle_table, hle_floors, hle_sills⟩
  exact Calls.mono (c_lookedE q_k k c_k (⟨q_table, c_table, q_floors, c_floors, q_sills, c_sills, s⟩ : LS) w hL hb0.2 hne_k (hw.seg 3 rfl) hc) (fun en w' hr => ⟨(), hr.1, trivial, News.nil hr.2⟩)

theorem cx_gated (s : Sands) (p : Int) (q_table : Option (Nat × Nat)) (n_table c_table : Nat) (q_floors : Option (Nat × Nat)) (n_floors c_floors : Nat) (q_sills : Option (Nat × Nat)) (n_sills c_sills : Nat) (w : World) (hw : HV w (keys [] []) [] [] [(bk q_table, off q_table, RW.enc s.table), (bk q_floors, off q_floors, RI.enc s.floors), (bk q_sills, off q_sills, RS.enc s.sills)] w) (hn_table : s.table.length = n_table) (hne_table : 0 < n_table → q_table ≠ none) (hle_table : n_table ≤ c_table) (hn_floors : s.floors.length = n_floors) (hne_floors : 0 < n_floors → q_floors ≠ none) (hle_floors : n_floors ≤ c_floors) (hn_sills : s.sills.length = n_sills) (hne_sills : 0 < n_sills → q_sills ≠ none) (hle_sills : n_sills ≤ c_sills) (hb0 : (s.table.length ≤ 8796093022208 ∧ s.floors.length ≤ 17592186044416 ∧ s.sills.length ≤ 5864062014805)) (hc : gatedE s p = 0) :
    Calls Try.prog 106 #[.agg #[slv q_table n_table c_table, .int .i64 s.wind.lo, .int .i64 s.wind.hi, slv q_floors n_floors c_floors, slv q_sills n_sills c_sills], .int .i64 p] w (fun en w' => ∃ bd : Nat, en = .returned (.tuple #[ptr bd 0, .int .i64 0]) ∧ True ∧ News w w' [(bd, 0, [slv q_table n_table c_table, .int .i64 s.wind.lo, .int .i64 s.wind.hi, slv q_floors n_floors c_floors, slv q_sills n_sills c_sills, .int .i64 ((gatesOf s).getD 0 0), .int .i64 ((gatesOf s).getD 1 0), .int .i64 ((gatesOf s).getD 2 0), .int .i64 ((gatesOf s).getD 3 0), .int .i64 ((gatesOf s).getD 4 0), .int .i64 ((gatesOf s).getD 5 0), .int .i64 ((gatesOf s).getD 6 0), .int .i64 ((gatesOf s).getD 7 0)])]) := by
  subst hn_table
  subst hn_floors
  subst hn_sills
  have hb := hb0
  have hL : LS.OK (⟨q_table, c_table, q_floors, c_floors, q_sills, c_sills, s⟩ : LS) w := ⟨segsC (hw.seg 0 rfl) (segsC (by have h := hw.seg 1 rfl; rw [RI_enc] at h; exact h) (segsC (hw.seg 2 rfl) segsN)), hne_table, hne_floors, hne_sills, hb.1, hb.2.1, hb.2.2, hle_table, hle_floors, hle_sills⟩
  exact Calls.mono (c_gatedR p (⟨q_table, c_table, q_floors, c_floors, q_sills, c_sills, s⟩ : LS) w hL hc) (by rintro en w' ⟨bd, rfl, _, hf⟩; exact ⟨bd, rfl, trivial, deskNews hf⟩)
theorem cx_gatedE (s : Sands) (p : Int) (q_table : Option (Nat × Nat)) (n_table c_table : Nat) (q_floors : Option (Nat × Nat)) (n_floors c_floors : Nat) (q_sills : Option (Nat × Nat)) (n_sills c_sills : Nat) (w : World) (hw : HV w (keys [] []) [] [] [(bk q_table, off q_table, RW.enc s.table), (bk q_floors, off q_floors, RI.enc s.floors), (bk q_sills, off q_sills, RS.enc s.sills)] w) (hn_table : s.table.length = n_table) (hne_table : 0 < n_table → q_table ≠ none) (hle_table : n_table ≤ c_table) (hn_floors : s.floors.length = n_floors) (hne_floors : 0 < n_floors → q_floors ≠ none) (hle_floors : n_floors ≤ c_floors) (hn_sills : s.sills.length = n_sills) (hne_sills : 0 < n_sills → q_sills ≠ none) (hle_sills : n_sills ≤ c_sills) (hb0 : (s.table.length ≤ 8796093022208 ∧ s.floors.length ≤ 17592186044416 ∧ s.sills.length ≤ 5864062014805)) (hc : gatedE s p ≠ 0) :
    Calls Try.prog 106 #[.agg #[slv q_table n_table c_table, .int .i64 s.wind.lo, .int .i64 s.wind.hi, slv q_floors n_floors c_floors, slv q_sills n_sills c_sills], .int .i64 p] w (fun en w' => ∃ l : Unit, en = .returned (.tuple #[.pointer none, .int .i64 (gatedE s p)]) ∧ True ∧ News w w' []) := by
  subst hn_table
  subst hn_floors
  subst hn_sills
  have hb := hb0
  have hL : LS.OK (⟨q_table, c_table, q_floors, c_floors, q_sills, c_sills, s⟩ : LS) w := ⟨segsC (hw.seg 0 rfl) (segsC (by have h := hw.seg 1 rfl; rw [RI_enc] at h; exact h) (segsC (hw.seg 2 rfl) segsN)), hne_table, hne_floors, hne_sills, hb.1, hb.2.1, hb.2.2, hle_table, hle_floors, hle_sills⟩
  exact Calls.mono (c_gatedE p (⟨q_table, c_table, q_floors, c_floors, q_sills, c_sills, s⟩ : LS) w hL hc) (fun en w' hr => ⟨(), hr.1, trivial, News.nil hr.2⟩)

def x_day (s : Sands) (m : Int) : Option Bool := if (s.table.length ≤ 8796093022208 ∧ s.floors.length ≤ 17592186044416 ∧ s.sills.length ≤ 5864062014805) ∧ check s = 0 then some (dayF s m) else none
theorem cx_day (s : Sands) (m : Int) (bd : Nat) (q_table : Option (Nat × Nat)) (n_table c_table : Nat) (q_floors : Option (Nat × Nat)) (n_floors c_floors : Nat) (q_sills : Option (Nat × Nat)) (n_sills c_sills : Nat) (w : World) (hw : HV w (keys [] []) [] [] [(bd, 0, [slv q_table n_table c_table, .int .i64 s.wind.lo, .int .i64 s.wind.hi, slv q_floors n_floors c_floors, slv q_sills n_sills c_sills, .int .i64 ((gatesOf s).getD 0 0), .int .i64 ((gatesOf s).getD 1 0), .int .i64 ((gatesOf s).getD 2 0), .int .i64 ((gatesOf s).getD 3 0), .int .i64 ((gatesOf s).getD 4 0), .int .i64 ((gatesOf s).getD 5 0), .int .i64 ((gatesOf s).getD 6 0), .int .i64 ((gatesOf s).getD 7 0)]), (bk q_table, off q_table, RW.enc s.table), (bk q_floors, off q_floors, RI.enc s.floors), (bk q_sills, off q_sills, RS.enc s.sills)] w) (hn_table : s.table.length = n_table) (hne_table : 0 < n_table → q_table ≠ none) (hle_table : n_table ≤ c_table) (hn_floors : s.floors.length = n_floors) (hne_floors : 0 < n_floors → q_floors ≠ none) (hle_floors : n_floors ≤ c_floors) (hn_sills : s.sills.length = n_sills) (hne_sills : 0 < n_sills → q_sills ≠ none) (hle_sills : n_sills ≤ c_sills) {res : Bool} (hm : x_day s m = some res) :
    Calls Try.prog 103 #[ptr bd 0, .int .i64 m] w (fun en w' => ∃ l : Unit, en = .returned (.bool res) ∧ True ∧ News w w' []) := by
  unfold x_day at hm
  obtain ⟨hb0, hm⟩ := ifO hm
  obtain ⟨hb, hc, hp⟩ : (s.table.length ≤ 8796093022208 ∧ s.floors.length ≤ 17592186044416 ∧ s.sills.length ≤ 5864062014805) ∧ check s = 0 ∧ True := ⟨hb0.1, hb0.2, trivial⟩
  subst hn_table
  subst hn_floors
  subst hn_sills
  obtain rfl := Option.some.inj hm
  have hL : LS.OK (⟨q_table, c_table, q_floors, c_floors, q_sills, c_sills, s⟩ : LS) w := ⟨segsC (hw.seg 1 rfl) (segsC (by have h := hw.seg 2 rfl; rw [RI_enc] at h; exact h) (segsC (hw.seg 3 rfl) segsN)), hne_table, hne_floors, hne_sills, hb.1, hb.2.1, hb.2.2, hle_table, hle_floors, hle_sills⟩
  have hd : segOK w (bd, 0, (⟨q_table, c_table, q_floors, c_floors, q_sills, c_sills, s⟩ : LS).cells ++ ints (gatesOf (⟨q_table, c_table, q_floors, c_floors, q_sills, c_sills, s⟩ : LS).S)) := deskSeg (L := (⟨q_table, c_table, q_floors, c_floors, q_sills, c_sills, s⟩ : LS)) (hw.seg 0 rfl)
  exact Calls.mono (c_day (⟨q_table, c_table, q_floors, c_floors, q_sills, c_sills, s⟩ : LS) bd (gatesOf s) m w hL (good_of_check hc) gates_length hd) (fun en w' hr => ⟨(), hr.1, trivial, News.nil hr.2⟩)

def x_left (s : Sands)  (k : List Look) : Option Span := if (s.table.length ≤ 8796093022208 ∧ s.floors.length ≤ 17592186044416 ∧ s.sills.length ≤ 5864062014805) ∧ check s = 0 ∧ k.all (fun l => dayF s l.min && isPlace s l.place) = true ∧ k.length ≤ 5864062014805 then some (leftG s (gatesOf s) k) else none
theorem cx_left (s : Sands)  (k : List Look) (bd : Nat) (q_table : Option (Nat × Nat)) (n_table c_table : Nat) (q_floors : Option (Nat × Nat)) (n_floors c_floors : Nat) (q_sills : Option (Nat × Nat)) (n_sills c_sills : Nat) (q_k : Option (Nat × Nat)) (n_k c_k : Nat) (w : World) (hw : HV w (keys [] []) [] [] [(bd, 0, [slv q_table n_table c_table, .int .i64 s.wind.lo, .int .i64 s.wind.hi, slv q_floors n_floors c_floors, slv q_sills n_sills c_sills, .int .i64 ((gatesOf s).getD 0 0), .int .i64 ((gatesOf s).getD 1 0), .int .i64 ((gatesOf s).getD 2 0), .int .i64 ((gatesOf s).getD 3 0), .int .i64 ((gatesOf s).getD 4 0), .int .i64 ((gatesOf s).getD 5 0), .int .i64 ((gatesOf s).getD 6 0), .int .i64 ((gatesOf s).getD 7 0)]), (bk q_table, off q_table, RW.enc s.table), (bk q_floors, off q_floors, RI.enc s.floors), (bk q_sills, off q_sills, RS.enc s.sills), (bk q_k, off q_k, RL.enc k)] w) (hn_table : s.table.length = n_table) (hne_table : 0 < n_table → q_table ≠ none) (hle_table : n_table ≤ c_table) (hn_floors : s.floors.length = n_floors) (hne_floors : 0 < n_floors → q_floors ≠ none) (hle_floors : n_floors ≤ c_floors) (hn_sills : s.sills.length = n_sills) (hne_sills : 0 < n_sills → q_sills ≠ none) (hle_sills : n_sills ≤ c_sills) (hn_k : k.length = n_k) (hne_k : 0 < n_k → q_k ≠ none) (hle_k : n_k ≤ c_k) {res : Span} (hm : x_left s  k = some res) :
    Calls Try.prog 87 #[ptr bd 0, slv q_k n_k c_k] w (fun en w' => ∃ l : Unit, en = .returned (.agg #[.int .i64 res.lo, .int .i64 res.hi]) ∧ True ∧ News w w' []) := by
  unfold x_left at hm
  obtain ⟨hb0, hm⟩ := ifO hm
  obtain ⟨hb, hc, hp⟩ : (s.table.length ≤ 8796093022208 ∧ s.floors.length ≤ 17592186044416 ∧ s.sills.length ≤ 5864062014805) ∧ check s = 0 ∧ k.all (fun l => dayF s l.min && isPlace s l.place) = true ∧ k.length ≤ 5864062014805 := hb0
  subst hn_table
  subst hn_floors
  subst hn_sills
  subst hn_k
  obtain rfl := Option.some.inj hm
  have hL : LS.OK (⟨q_table, c_table, q_floors, c_floors, q_sills, c_sills, s⟩ : LS) w := ⟨segsC (hw.seg 1 rfl) (segsC (by have h := hw.seg 2 rfl; rw [RI_enc] at h; exact h) (segsC (hw.seg 3 rfl) segsN)), hne_table, hne_floors, hne_sills, hb.1, hb.2.1, hb.2.2, hle_table, hle_floors, hle_sills⟩
  have hd : segOK w (bd, 0, (⟨q_table, c_table, q_floors, c_floors, q_sills, c_sills, s⟩ : LS).cells ++ ints (gatesOf (⟨q_table, c_table, q_floors, c_floors, q_sills, c_sills, s⟩ : LS).S)) := deskSeg (L := (⟨q_table, c_table, q_floors, c_floors, q_sills, c_sills, s⟩ : LS)) (hw.seg 0 rfl)
  exact Calls.mono (c_left (⟨q_table, c_table, q_floors, c_floors, q_sills, c_sills, s⟩ : LS) bd (gatesOf s) q_k k c_k w hL (good_of_check hc) gates_length hd hp.2 hne_k (hw.seg 4 rfl) gates_ok (looksOK hp.1)) (fun en w' hr => ⟨(), hr.1, trivial, News.nil hr.2⟩)


end Go.Proofs.Wk

namespace Go.Proofs.Wk
open Go Go.Fw Go.Gx Go.Pl
set_option linter.unusedVariables false
theorem gxinf3 : (Try.prog.info? 3).map (fun i => (i.zero, i.size, i.bytes)) = some (some (.int .i64 0), 1, 8) := by kernel_rfl
theorem gxinf51 : (Try.prog.info? 51).map (fun i => (i.zero, i.size, i.bytes)) = some (some (.agg #[.int .i64 0, .int .i64 0, .int .i64 0]), 3, 24) := by kernel_rfl
theorem gxinf68 : (Try.prog.info? 68).map (fun i => (i.zero, i.size, i.bytes)) = some (some (.agg #[.int .i64 0, .int .i64 0]), 2, 16) := by kernel_rfl
set_option maxRecDepth 100000 in
theorem gxeqg51 : Try.prog.eqGuardType Try.prog.depth 51 = false := by decide +kernel
set_option maxRecDepth 100000 in
theorem gxsth51 : Try.prog.stoodInHeld 51 = false := by decide +kernel
set_option maxRecDepth 100000 in
theorem gxeq51 (x y : Sill) (w : World) : (Op.equalIn 10000 51 (.agg (RS.cells x).toArray) (.agg (RS.cells y).toArray)).run Try.prog w = .ok (decide (x = y)) w := by
  have h := equal_struct (xs := (RS.cells x).toArray) (ys := (RS.cells y).toArray) Try.underlying51 gxsth51 (.int rfl (fun w => Try.isAgg3 w) ⟨_, Try.underlying3⟩ rfl rfl (.int rfl (fun w => Try.isAgg3 w) ⟨_, Try.underlying3⟩ rfl rfl (.int rfl (fun w => Try.isAgg3 w) ⟨_, Try.underlying3⟩ rfl rfl .nil))) w
  rw [h]
  congr 1
  cases x; cases y
  rw [Bool.eq_iff_iff]
  simp only [Bool.and_eq_true, decide_eq_true_eq, Sill.mk.injEq, and_true]
set_option maxRecDepth 100000 in
theorem gxeqg68 : Try.prog.eqGuardType Try.prog.depth 68 = false := by decide +kernel
set_option maxRecDepth 100000 in
theorem gxsth68 : Try.prog.stoodInHeld 68 = false := by decide +kernel
set_option maxRecDepth 100000 in
theorem gxeq68 (x y : Water) (w : World) : (Op.equalIn 10000 68 (.agg (RW.cells x).toArray) (.agg (RW.cells y).toArray)).run Try.prog w = .ok (decide (x = y)) w := by
  have h := equal_struct (xs := (RW.cells x).toArray) (ys := (RW.cells y).toArray) Try.underlying68 gxsth68 (.int rfl (fun w => Try.isAgg3 w) ⟨_, Try.underlying3⟩ rfl rfl (.int rfl (fun w => Try.isAgg3 w) ⟨_, Try.underlying3⟩ rfl rfl .nil)) w
  rw [h]
  congr 1
  cases x; cases y
  rw [Bool.eq_iff_iff]
  simp only [Bool.and_eq_true, decide_eq_true_eq, Water.mk.injEq, and_true]
end Go.Proofs.Wk
namespace Go.Proofs.Wk
open Go Go.Fw Go.Gx Go.Pl
set_option linter.unusedVariables false
structure m_laurelkit_Pile_R where
  t5_1 : Int
  t5_2 : Int
def m_laurelkit_Pile (shells0 : (List Int)) : Option m_laurelkit_Pile_R :=
 some (⟨0, 0⟩ : m_laurelkit_Pile_R)
set_option maxRecDepth 100000 in
set_option maxHeartbeats 4000000 in
theorem c_laurelkit_Pile (shells0 : (List Int)) (qa0 : Option Addr) (na0 ca0 : Nat) (w : World) (hw : HV w (keys [] []) [] [] [(aB qa0, aO qa0, RU8.enc shells0)] w) (hna0 : shells0.length = na0) (hqa0 : AOK na0 qa0) (hla0 : na0 ≤ ca0) {res : m_laurelkit_Pile_R} (hm : m_laurelkit_Pile shells0 = some res) :
    Calls Try.prog 19 #[.slice qa0 na0 ca0] w (fun en w' => ∃ l : Nat, en = .returned (ptr l 0) ∧ (True) ∧ HV w (keys [] []) [(l, .cells #[.slice qa0 na0 ca0, .int .i64 res.t5_1, .int .u32 res.t5_2] 138 (0, 0))] [] [] w') := by
  unfold m_laurelkit_Pile at hm
  refine g_enter (args := [.slice qa0 na0 ca0]) Try.func19 rfl Try.ntmps19 rfl (e := [(0, _)]) rfl (H := HV w (keys [] []) [] [] [(aB qa0, aO qa0, RU8.enc shells0)]) hw ?_
  refine g_seq ?_
  refine g_region ?_
  refine g_val rfl rfl rfl (fun _ _ => v_assign rfl) ?_
  refine g_nil ?_
  refine g_n_then ?_
  refine g_seq ?_
  refine g_region ?_
  refine g_val rfl rfl rfl (fun _ _ => v_move rfl) ?_
  refine g_val rfl rfl rfl (fun _ _ => v_build (vs := [(0, _)]) (cells := [_, _, _]) rfl rfl) ?_
  refine g_boxV rfl rfl (fun b h1 => ?_)
  refine g_val rfl rfl rfl (fun _ _ => v_assign rfl) ?_
  refine g_nil ?_
  refine g_n_then ?_
  refine g_ret ?_
  obtain rfl := Option.some.inj hm
  refine g_done rfl (fun w hh => (.tmp rfl .nil)) (fun w hh => ⟨b, rfl, trivial, hh.sel [0] [] 1 (by decide) (by decide) rfl rfl rfl⟩)
end Go.Proofs.Wk
