/- What the functions of the sands come to: part 5. It is needed by the statements of this seat. -/
import Derived.Test.YtaicfimbclibpaaW4
namespace Go.Proofs
open Go Go.Fw Go.Pl
set_option maxRecDepth 100000 in
set_option maxHeartbeats 4000000 in
theorem c_Two (w : World) : Calls Try.prog 105 #[.int .i64 700] w (fun en w' => ∃ L : LS, en = .returned L.val ∧ (L.S = twoS ∧ L.Bd) ∧ News w w' L.segs) := by
  refine g_enter (args := [.int .i64 700]) Try.func105 rfl Try.ntmps105 rfl (e := [(0, _)]) rfl (HS.start w [] [] segsN) ?_
  refine g_seq ?_
  refine g_region ?_
  refine g_alloc (fun w => Try.zeroValue29 w) rfl (fun b1 hb1 => ?_)
  refine g_nil ?_
  refine g_n_then ?_
  refine g_seq ?_
  refine g_region ?_
  refine g_val rfl rfl rfl (fun _ _ => v_build (vs := [(0, _), (1, _)]) (cells := [_, _]) rfl rfl) ?_
  refine g_val rfl rfl rfl (fun _ _ => v_build (vs := [(0, _), (1, _)]) (cells := [_, _]) rfl rfl) ?_
  refine g_val rfl rfl rfl (fun _ _ => v_build (vs := [(0, _), (1, _)]) (cells := [_, _]) rfl rfl) ?_
  refine g_buildSlice (vs := [(0, _), (1, _), (2, _)]) (cells := [_, _, _, _, _, _]) (fun w => Try.runUnderlying23 w) (fun w => Try.sizeOf68 w) (fun w => Try.zeroValue68 w) rfl rfl rfl rfl rfl (fun b2 hb2 => ?_)
  refine g_val rfl rfl rfl (fun _ _ => v_assign rfl) ?_
  refine g_nil ?_
  refine g_n_then ?_
  refine g_seq ?_
  refine g_seq ?_
  refine g_region ?_
  refine g_val rfl rfl rfl (fun _ _ => v_move rfl) ?_
  refine g_val rfl rfl rfl (fun _ _ => v_lss rfl rfl) ?_
  refine g_nil ?_
  refine g_n_then ?_
  refine g_condF rfl (by decide) ?_
  refine g_skip ?_
  refine g_n_then ?_
  refine g_seq ?_
  refine g_region ?_
  refine g_val rfl rfl rfl (fun _ _ => v_move rfl) ?_
  refine g_val rfl rfl rfl (fun _ _ => v_build (vs := [(0, _), (1, _)]) (cells := [_, _]) rfl rfl) ?_
  refine g_buildSlice (vs := [(0, _), (1, _)]) (cells := [_, _]) (fun w => Try.runUnderlying26 w) (fun w => Try.sizeOf3 w) (fun w => Try.zeroValue3 w) rfl rfl rfl rfl rfl (fun b3 hb3 => ?_)
  refine g_val rfl rfl rfl (fun _ _ => v_build (vs := [(0, _), (1, _), (2, _)]) (cells := [_, _, _]) rfl rfl) ?_
  refine g_val rfl rfl rfl (fun _ _ => v_build (vs := [(0, _), (1, _), (2, _)]) (cells := [_, _, _]) rfl rfl) ?_
  refine g_val rfl rfl rfl (fun _ _ => v_build (vs := [(0, _), (1, _), (2, _)]) (cells := [_, _, _]) rfl rfl) ?_
  refine g_buildSlice (vs := [(0, _), (1, _), (2, _)]) (cells := [_, _, _, _, _, _, _, _, _]) (fun w => Try.runUnderlying27 w) (fun w => Try.sizeOf51 w) (fun w => Try.zeroValue51 w) rfl rfl rfl rfl rfl (fun b4 hb4 => ?_)
  refine g_val rfl rfl rfl (fun _ _ => v_build (vs := [(0, _), (1, _), (2, _), (3, _)]) (cells := [_, _, _, _, _]) rfl rfl) ?_
  refine g_storeAgg (vs := #[_, _, _, _, _]) (own' := (_ :: _ :: _ :: _ :: _)) 3 (fun w => Try.sizeOf29 w) rfl rfl rfl rfl rfl rfl ?_
  refine g_nil ?_
  refine g_n_then ?_
  refine g_ret ?_
  refine g_done rfl (fun w hh => (.cell rfl (loadVar_agg (vs := [_, _, _, _, _]) (Try.isAgg29 _) (Try.sizeOf29 _) (hh.cells 3 rfl rfl)) .nil)) (fun w hh => ?_)
  have hN := News.of3 hh (hh.newSeg 2 rfl) (hh.newSeg 1 rfl) (hh.newSeg 0 rfl)
  exact ⟨⟨some (b2, 0), 3, some (b3, 0), 2, some (b4, 0), 3, twoS⟩, rfl, ⟨rfl, by simp, by simp, by simp, by simp [twoS], by simp [twoS], by simp [twoS], by simp [twoS], by simp [twoS], by simp [twoS]⟩, hN⟩

set_option maxRecDepth 100000 in
set_option maxHeartbeats 4000000 in
theorem c_awake (w : World) : Ret Try.prog 30 [] w (.bool true) := by
  refine g_enter (args := []) Try.func30 rfl Try.ntmps30 rfl (e := []) rfl (HS.start w [] [] segsN) ?_
  refine g_seq ?_
  refine g_region ?_
  refine g_val rfl rfl rfl (fun _ _ => v_assign rfl) ?_
  refine g_nil ?_
  refine g_n_then ?_
  refine g_seq ?_
  refine g_region ?_
  refine g_callR (ι := LS) (p := fun L => L.S = twoS ∧ L.Bd) (S := fun L => L.segs) (ret := fun L => L.val) rfl rfl rfl rfl rfl rfl rfl (fun a w => Try.call105 a w) (fun w hh => c_Two w) ?_
  rintro L1 ⟨hSL1, hBL1⟩
  refine g_callv rfl rfl rfl rfl rfl rfl rfl (fun a w => Try.call36 a w) (fun w hh => c_Height 91 L1 w (hBL1.at hh 0 rfl rfl rfl)) ?_
  refine g_set 15 (u := .tuple #[.int .i64 175, .int .i64 0]) rfl (by rw [hSL1, two_H1]) ?_
  refine g_val rfl rfl rfl (fun _ _ => v_move rfl) ?_
  refine g_val rfl rfl rfl (fun _ _ => v_extract rfl rfl) ?_
  refine g_val rfl rfl rfl (fun _ _ => v_extract rfl rfl) ?_
  refine g_val rfl rfl rfl (fun _ _ => v_assign rfl) ?_
  refine g_val rfl rfl rfl (fun _ _ => v_assign rfl) ?_
  refine g_nil ?_
  refine g_n_then ?_
  refine g_seq ?_
  refine g_region ?_
  refine g_callR (ι := LS) (p := fun L => L.S = twoS ∧ L.Bd) (S := fun L => L.segs) (ret := fun L => L.val) rfl rfl rfl rfl rfl rfl rfl (fun a w => Try.call105 a w) (fun w hh => c_Two w) ?_
  rintro L2 ⟨hSL2, hBL2⟩
  refine g_callv rfl rfl rfl rfl rfl rfl rfl (fun a w => Try.call36 a w) (fun w hh => c_Height 400 L2 w (hBL2.at hh 0 rfl rfl rfl)) ?_
  refine g_set 20 (u := .tuple #[.int .i64 370, .int .i64 0]) rfl (by rw [hSL2, two_H2]) ?_
  refine g_val rfl rfl rfl (fun _ _ => v_move rfl) ?_
  refine g_val rfl rfl rfl (fun _ _ => v_extract rfl rfl) ?_
  refine g_val rfl rfl rfl (fun _ _ => v_extract rfl rfl) ?_
  refine g_val rfl rfl rfl (fun _ _ => v_assign rfl) ?_
  refine g_val rfl rfl rfl (fun _ _ => v_assign rfl) ?_
  refine g_nil ?_
  refine g_n_then ?_
  refine g_seq ?_
  refine g_region ?_
  refine g_callR (ι := LS) (p := fun L => L.S = twoS ∧ L.Bd) (S := fun L => L.segs) (ret := fun L => L.val) rfl rfl rfl rfl rfl rfl rfl (fun a w => Try.call105 a w) (fun w hh => c_Two w) ?_
  rintro L3 ⟨hSL3, hBL3⟩
  refine g_callv rfl rfl rfl rfl rfl rfl rfl (fun a w => Try.call31 a w) (fun w hh => c_Gate 1 L3 w (hBL3.at hh 0 rfl rfl rfl)) ?_
  refine g_set 25 (u := .tuple #[.int .i64 220, .int .i64 0]) rfl (by rw [hSL3, two_G]) ?_
  refine g_val rfl rfl rfl (fun _ _ => v_move rfl) ?_
  refine g_val rfl rfl rfl (fun _ _ => v_extract rfl rfl) ?_
  refine g_val rfl rfl rfl (fun _ _ => v_extract rfl rfl) ?_
  refine g_val rfl rfl rfl (fun _ _ => v_assign rfl) ?_
  refine g_val rfl rfl rfl (fun _ _ => v_assign rfl) ?_
  refine g_nil ?_
  refine g_n_then ?_
  refine g_seq ?_
  refine g_region ?_
  refine g_callR (ι := LS) (p := fun L => L.S = twoS ∧ L.Bd) (S := fun L => L.segs) (ret := fun L => L.val) rfl rfl rfl rfl rfl rfl rfl (fun a w => Try.call105 a w) (fun w hh => c_Two w) ?_
  rintro L4 ⟨hSL4, hBL4⟩
  refine g_callv rfl rfl rfl rfl rfl rfl rfl (fun a w => Try.call41 a w) (fun w hh => c_Turn 0 0 L4 w (hBL4.at hh 0 rfl rfl rfl)) ?_
  refine g_set 30 (u := .tuple #[.int .i64 97, .int .i64 0]) rfl (by rw [hSL4, two_T]) ?_
  refine g_val rfl rfl rfl (fun _ _ => v_move rfl) ?_
  refine g_val rfl rfl rfl (fun _ _ => v_extract rfl rfl) ?_
  refine g_val rfl rfl rfl (fun _ _ => v_extract rfl rfl) ?_
  refine g_val rfl rfl rfl (fun _ _ => v_assign rfl) ?_
  refine g_val rfl rfl rfl (fun _ _ => v_assign rfl) ?_
  refine g_nil ?_
  refine g_n_then ?_
  refine g_seq ?_
  refine g_seq ?_
  refine g_region ?_
  refine g_val rfl rfl rfl (fun _ _ => v_move rfl) ?_
  refine g_val rfl rfl rfl (fun _ _ => v_neq rfl rfl) ?_
  refine g_val rfl rfl rfl (fun _ _ => v_move rfl) ?_
  refine g_valG rfl rfl rfl rfl rfl (fun _ _ => v_move rfl) ?_
  refine g_valG rfl rfl rfl rfl rfl (fun _ _ => v_neq rfl rfl) ?_
  refine g_val rfl rfl rfl (fun _ _ => v_pickF rfl rfl) ?_
  refine g_val rfl rfl rfl (fun _ _ => v_move rfl) ?_
  refine g_valG rfl rfl rfl rfl rfl (fun _ _ => v_move rfl) ?_
  refine g_valG rfl rfl rfl rfl rfl (fun _ _ => v_neq rfl rfl) ?_
  refine g_val rfl rfl rfl (fun _ _ => v_pickF rfl rfl) ?_
  refine g_val rfl rfl rfl (fun _ _ => v_move rfl) ?_
  refine g_valG rfl rfl rfl rfl rfl (fun _ _ => v_move rfl) ?_
  refine g_valG rfl rfl rfl rfl rfl (fun _ _ => v_neq rfl rfl) ?_
  refine g_val rfl rfl rfl (fun _ _ => v_pickF rfl rfl) ?_
  refine g_val rfl rfl rfl (fun _ _ => v_move rfl) ?_
  refine g_valG rfl rfl rfl rfl rfl (fun _ _ => v_move rfl) ?_
  refine g_valG rfl rfl rfl rfl rfl (fun _ _ => v_neq rfl rfl) ?_
  refine g_val rfl rfl rfl (fun _ _ => v_pickF rfl rfl) ?_
  refine g_val rfl rfl rfl (fun _ _ => v_move rfl) ?_
  refine g_valG rfl rfl rfl rfl rfl (fun _ _ => v_move rfl) ?_
  refine g_valG rfl rfl rfl rfl rfl (fun _ _ => v_neq rfl rfl) ?_
  refine g_val rfl rfl rfl (fun _ _ => v_pickF rfl rfl) ?_
  refine g_val rfl rfl rfl (fun _ _ => v_move rfl) ?_
  refine g_valG rfl rfl rfl rfl rfl (fun _ _ => v_move rfl) ?_
  refine g_valG rfl rfl rfl rfl rfl (fun _ _ => v_neq rfl rfl) ?_
  refine g_val rfl rfl rfl (fun _ _ => v_pickF rfl rfl) ?_
  refine g_val rfl rfl rfl (fun _ _ => v_move rfl) ?_
  refine g_valG rfl rfl rfl rfl rfl (fun _ _ => v_move rfl) ?_
  refine g_valG rfl rfl rfl rfl rfl (fun _ _ => v_neq rfl rfl) ?_
  refine g_val rfl rfl rfl (fun _ _ => v_pickF rfl rfl) ?_
  refine g_nil ?_
  refine g_n_then ?_
  refine g_condF rfl rfl ?_
  refine g_skip ?_
  refine g_n_then ?_
  refine g_seq ?_
  refine g_region ?_
  refine g_callR (ι := LS) (p := fun L => L.S = twoS ∧ L.Bd) (S := fun L => L.segs) (ret := fun L => L.val) rfl rfl rfl rfl rfl rfl rfl (fun a w => Try.call105 a w) (fun w hh => c_Two w) ?_
  rintro L5 ⟨hSL5, hBL5⟩
  refine g_callR (ι := Option (Nat × Nat) × Nat) (p := fun i => SlOK i.1 ([0, 1] : List Int).length i.2) (S := fun i => [(bk i.1, off i.1, ints [0, 1])]) (ret := fun i => .tuple #[slv i.1 ([0, 1] : List Int).length i.2, .int .i64 0]) rfl rfl rfl rfl rfl rfl rfl (fun a w => Try.call81 a w) (fun w hh => (c_Way 1 L5 w (hBL5.at hh 0 rfl rfl rfl)).mono (by rw [hSL5, two_W]; rintro en w' ⟨q, cap, rfl, h1, h2⟩; exact ⟨(q, cap), rfl, h1, h2⟩)) (fun q6 hq6 => ?_)
  refine g_val rfl rfl rfl (fun _ _ => v_move rfl) ?_
  refine g_val rfl rfl rfl (fun _ _ => v_extract rfl rfl) ?_
  refine g_val rfl rfl rfl (fun _ _ => v_extract rfl rfl) ?_
  refine g_val rfl rfl rfl (fun _ _ => v_assign rfl) ?_
  refine g_val rfl rfl rfl (fun _ _ => v_assign rfl) ?_
  refine g_nil ?_
  refine g_n_then ?_
  refine g_seq ?_
  refine g_region ?_
  refine g_callR (ι := LS) (p := fun L => L.S = twoS ∧ L.Bd) (S := fun L => L.segs) (ret := fun L => L.val) rfl rfl rfl rfl rfl rfl rfl (fun a w => Try.call105 a w) (fun w hh => c_Two w) ?_
  rintro L7 ⟨hSL7, hBL7⟩
  refine g_buildSlice (vs := [(0, _)]) (cells := [_]) (fun w => Try.runUnderlying26 w) (fun w => Try.sizeOf3 w) (fun w => Try.zeroValue3 w) rfl rfl rfl rfl rfl (fun b8 hb8 => ?_)
  refine g_callv rfl rfl rfl rfl rfl rfl rfl (fun a w => Try.call51 a w) (fun w hh => c_Hold 1 none (some (_, 0)) [] [1] 0 1 L7 w (hBL7.at hh 0 rfl rfl rfl) (by decide) (by decide) (by simp) (by simp) segOK.nil (hh.ownSeg 0 rfl)) ?_
  refine g_set 71 (u := .tuple #[.int .i64 220, .int .i64 0]) rfl (by rw [hSL7, two_Ho]) ?_
  refine g_val rfl rfl rfl (fun _ _ => v_move rfl) ?_
  refine g_val rfl rfl rfl (fun _ _ => v_extract rfl rfl) ?_
  refine g_val rfl rfl rfl (fun _ _ => v_extract rfl rfl) ?_
  refine g_val rfl rfl rfl (fun _ _ => v_assign rfl) ?_
  refine g_val rfl rfl rfl (fun _ _ => v_assign rfl) ?_
  refine g_nil ?_
  refine g_n_then ?_
  refine g_seq ?_
  refine g_region ?_
  refine g_callR (ι := LS) (p := fun L => L.S = twoS ∧ L.Bd) (S := fun L => L.segs) (ret := fun L => L.val) rfl rfl rfl rfl rfl rfl rfl (fun a w => Try.call105 a w) (fun w hh => c_Two w) ?_
  rintro L9 ⟨hSL9, hBL9⟩
  refine g_callR (ι := Option (Nat × Nat) × Nat) (p := fun i => SlOK i.1 ([2, 1] : List Int).length i.2) (S := fun i => [(bk i.1, off i.1, ints [2, 1])]) (ret := fun i => .tuple #[slv i.1 ([2, 1] : List Int).length i.2, .int .i64 0]) rfl rfl rfl rfl rfl rfl rfl (fun a w => Try.call28 a w) (fun w hh => (c_All 150 L9 w (hBL9.at hh 0 rfl rfl rfl)).mono (by rw [hSL9, two_A]; rintro en w' ⟨q, cap, rfl, h1, h2⟩; exact ⟨(q, cap), rfl, h1, h2⟩)) (fun q10 hq10 => ?_)
  refine g_val rfl rfl rfl (fun _ _ => v_move rfl) ?_
  refine g_val rfl rfl rfl (fun _ _ => v_extract rfl rfl) ?_
  refine g_val rfl rfl rfl (fun _ _ => v_extract rfl rfl) ?_
  refine g_val rfl rfl rfl (fun _ _ => v_assign rfl) ?_
  refine g_val rfl rfl rfl (fun _ _ => v_assign rfl) ?_
  refine g_nil ?_
  refine g_n_then ?_
  refine g_seq ?_
  refine g_region ?_
  refine g_callR (ι := LS) (p := fun L => L.S = twoS ∧ L.Bd) (S := fun L => L.segs) (ret := fun L => L.val) rfl rfl rfl rfl rfl rfl rfl (fun a w => Try.call105 a w) (fun w hh => c_Two w) ?_
  rintro L11 ⟨hSL11, hBL11⟩
  refine g_val rfl rfl rfl (fun _ _ => v_build (vs := [(0, _), (2, _)]) (cells := [_, _, _]) rfl rfl) ?_
  refine g_buildSlice (vs := [(0, _)]) (cells := [_, _, _]) (fun w => Try.runUnderlying35 w) (fun w => Try.sizeOf89 w) (fun w => Try.zeroValue89 w) rfl rfl rfl rfl rfl (fun b12 hb12 => ?_)
  refine g_callv rfl rfl rfl rfl rfl rfl rfl (fun a w => Try.call23 a w) (fun w hh => c_Looks (some (_, 0)) [⟨120, 0, true⟩] 1 L11 w (hBL11.at hh 0 rfl rfl rfl) (by decide) (by simp) (hh.ownSeg 0 rfl)) ?_
  refine g_set 83 (u := .tuple #[.agg #[.int .i64 1, .int .i64 20], .int .i64 0]) rfl (by rw [hSL11, two_L]; rfl) ?_
  refine g_val rfl rfl rfl (fun _ _ => v_move rfl) ?_
  refine g_val rfl rfl rfl (fun _ _ => v_extract rfl rfl) ?_
  refine g_val rfl rfl rfl (fun _ _ => v_extract rfl rfl) ?_
  refine g_alloc (fun w => Try.zeroValue25 w) rfl (fun b13 hb13 => ?_)
  refine g_storeAgg (vs := #[_, _]) (own' := (_ :: _)) 0 (fun w => Try.sizeOf25 w) rfl rfl rfl rfl rfl rfl ?_
  refine g_val rfl rfl rfl (fun _ _ => v_assign rfl) ?_
  refine g_nil ?_
  refine g_n_then ?_
  refine g_seq ?_
  refine g_region ?_
  refine g_val rfl rfl rfl (fun _ _ => v_move rfl) ?_
  refine g_val rfl rfl rfl (fun _ _ => v_eql rfl rfl) ?_
  refine g_val rfl rfl rfl (fun _ _ => v_move rfl) ?_
  refine g_valG rfl rfl rfl rfl rfl (fun _ _ => v_move rfl) ?_
  refine g_valG rfl rfl rfl rfl rfl (fun _ _ => v_eql rfl rfl) ?_
  refine g_val rfl rfl rfl (fun _ _ => v_pickT rfl rfl) ?_
  refine g_val rfl rfl rfl (fun _ _ => v_move rfl) ?_
  refine g_valG rfl rfl rfl rfl rfl (fun _ _ => v_move rfl) ?_
  refine g_valG rfl rfl rfl rfl rfl (fun _ _ => v_eql rfl rfl) ?_
  refine g_val rfl rfl rfl (fun _ _ => v_pickT rfl rfl) ?_
  refine g_val rfl rfl rfl (fun _ _ => v_move rfl) ?_
  refine g_valG rfl rfl rfl rfl rfl (fun _ _ => v_move rfl) ?_
  refine g_valG rfl rfl rfl rfl rfl (fun _ _ => v_eql rfl rfl) ?_
  refine g_val rfl rfl rfl (fun _ _ => v_pickT rfl rfl) ?_
  refine g_val rfl rfl rfl (fun _ _ => v_move rfl) ?_
  refine g_valG rfl rfl rfl rfl rfl (fun _ _ => v_move rfl) ?_
  refine g_unguard rfl rfl ?_
  refine g_buildSlice (vs := [(0, _), (1, _)]) (cells := [_, _]) (fun w => Try.runUnderlying26 w) (fun w => Try.sizeOf3 w) (fun w => Try.zeroValue3 w) rfl rfl rfl rfl rfl (fun b14 hb14 => ?_)
  refine g_callvG rfl rfl rfl rfl rfl rfl rfl rfl rfl (fun a w => Try.call59 a w) (fun w hh => c_Eq_int q6.1 (some (_, 0)) [0, 1] [0, 1] q6.2 2 w (by decide) (by decide) hq6.ne (by simp) (hh.seg 10 rfl) (hh.ownSeg 0 rfl)) ?_
  refine g_set 103 (u := .bool true) rfl (congrArg Value.bool (decide_eq_true rfl)) ?_
  refine g_val rfl rfl rfl (fun _ _ => v_pickT rfl rfl) ?_
  refine g_val rfl rfl rfl (fun _ _ => v_move rfl) ?_
  refine g_valG rfl rfl rfl rfl rfl (fun _ _ => v_move rfl) ?_
  refine g_valG rfl rfl rfl rfl rfl (fun _ _ => v_eql rfl rfl) ?_
  refine g_val rfl rfl rfl (fun _ _ => v_pickT rfl rfl) ?_
  refine g_val rfl rfl rfl (fun _ _ => v_move rfl) ?_
  refine g_valG rfl rfl rfl rfl rfl (fun _ _ => v_move rfl) ?_
  refine g_unguard rfl rfl ?_
  refine g_buildSlice (vs := [(0, _), (1, _)]) (cells := [_, _]) (fun w => Try.runUnderlying43 w) (fun w => Try.sizeOf46 w) (fun w => Try.zeroValue46 w) rfl rfl rfl rfl rfl (fun b15 hb15 => ?_)
  refine g_callvG rfl rfl rfl rfl rfl rfl rfl rfl rfl (fun a w => Try.call39 a w) (fun w hh => c_Eq_State q10.1 (some (_, 0)) [2, 1] [2, 1] q10.2 2 w (by decide) (by decide) hq10.ne (by simp) (hh.seg 3 rfl) (hh.ownSeg 0 rfl)) ?_
  refine g_set 112 (u := .bool true) rfl (congrArg Value.bool (decide_eq_true rfl)) ?_
  refine g_val rfl rfl rfl (fun _ _ => v_pickT rfl rfl) ?_
  refine g_val rfl rfl rfl (fun _ _ => v_move rfl) ?_
  refine g_valG rfl rfl rfl rfl rfl (fun w hh => v_loadAgg (vs := [_, _]) (Try.isAgg25 w) (Try.sizeOf25 w) rfl (hh.cells 2 rfl rfl)) ?_
  refine g_valG rfl rfl rfl rfl rfl (fun _ _ => v_build (vs := [(0, _), (1, _)]) (cells := [_, _]) rfl rfl) ?_
  refine g_valG rfl rfl rfl rfl rfl (fun w _ => v_eqlAgg (eq25 ⟨1, 20⟩ ⟨1, 20⟩ w) eqg25 rfl rfl) ?_
  refine g_set 117 (u := .bool true) rfl (congrArg Value.bool (decide_eq_true rfl)) ?_
  refine g_val rfl rfl rfl (fun _ _ => v_pickT rfl rfl) ?_
  refine g_val rfl rfl rfl (fun _ _ => v_assign rfl) ?_
  refine g_nil ?_
  refine g_n_then ?_
  refine g_ret ?_
  refine g_done rfl (fun w hh => (.tmp rfl .nil)) (fun w hh => ⟨rfl, hh.toExt⟩)

end Go.Proofs

namespace Go.Proofs
open Go Go.Fw Go.Pl
set_option maxRecDepth 100000 in
set_option maxHeartbeats 4000000 in
theorem c_first (L : LS) (w : World) (hL : L.OK w) (h0 : 0 < L.S.table.length) : Ret Try.prog 26 [L.val] w (.int .i64 (firstM L.S)) := by
  have hlt := hL.tl
  have hlf := hL.fl
  have hls := hL.sl
  refine g_enter (args := [L.val]) Try.func26 rfl Try.ntmps26 rfl (e := [(0, _)]) rfl (HS.start w [] L.segs hL.segs) ?_
  refine g_seq ?_
  refine g_region ?_
  refine g_box rfl rfl (fun b1 hb1 => ?_)
  refine g_val rfl rfl rfl (fun _ _ => v_assign rfl) ?_
  refine g_nil ?_
  refine g_n_then ?_
  refine g_seq ?_
  refine g_region ?_
  refine g_val rfl rfl rfl (fun w _ => v_fieldAddr 0 (Try.runUnderlying29 w) rfl (Try.sizeOf23 w) rfl) ?_
  refine g_val rfl rfl rfl (fun w hh => v_load (Try.isAgg23 w) rfl (hh.cell 0 rfl rfl)) ?_
  refine g_val rfl rfl rfl (fun w _ => v_indexAddr 0 (Try.runUnderlying23 w) (Try.sizeOf68 w) rfl rfl rfl (by omega) (hL.t0 (by omega))) ?_
  refine g_val rfl rfl rfl (fun w _ => v_fieldAddr 0 (Try.runUnderlying68 w) rfl (Try.sizeOf3 w) rfl) ?_
  refine g_val rfl rfl rfl (fun w hh => v_load (Try.isAgg3 w) rfl (hh.fld (j := 0) encW_len 0 0 rfl (by omega) rfl rfl)) ?_
  refine g_val rfl rfl rfl (fun _ _ => v_assign rfl) ?_
  refine g_nil ?_
  refine g_n_then ?_
  refine g_ret ?_
  refine g_done rfl (fun w hh => (.tmp rfl .nil)) (fun w hh => ⟨?_, hh.toExt⟩)
  rfl

set_option maxRecDepth 100000 in
set_option maxHeartbeats 4000000 in
theorem c_last (L : LS) (w : World) (hL : L.OK w) (h0 : 0 < L.S.table.length) : Ret Try.prog 27 [L.val] w (.int .i64 (lastM L.S)) := by
  have hlt := hL.tl
  have hlf := hL.fl
  have hls := hL.sl
  refine g_enter (args := [L.val]) Try.func27 rfl Try.ntmps27 rfl (e := [(0, _)]) rfl (HS.start w [] L.segs hL.segs) ?_
  refine g_seq ?_
  refine g_region ?_
  refine g_box rfl rfl (fun b1 hb1 => ?_)
  refine g_val rfl rfl rfl (fun _ _ => v_assign rfl) ?_
  refine g_nil ?_
  refine g_n_then ?_
  refine g_seq ?_
  refine g_region ?_
  refine g_val rfl rfl rfl (fun w _ => v_fieldAddr 0 (Try.runUnderlying29 w) rfl (Try.sizeOf23 w) rfl) ?_
  refine g_val rfl rfl rfl (fun w hh => v_load (Try.isAgg23 w) rfl (hh.cell 0 rfl rfl)) ?_
  refine g_val rfl rfl rfl (fun w _ => v_fieldAddr 0 (Try.runUnderlying29 w) rfl (Try.sizeOf23 w) rfl) ?_
  refine g_val rfl rfl rfl (fun w hh => v_load (Try.isAgg23 w) rfl (hh.cell 0 rfl rfl)) ?_
  refine g_val rfl rfl rfl (fun w _ => v_lenS (Try.runUnderlying23 w) rfl) ?_
  refine g_val rfl rfl rfl (fun _ _ => v_sub rfl rfl (wrap_i64 (by omega))) ?_
  refine g_val rfl rfl rfl (fun w _ => v_indexAddr (L.S.table.length - 1) (Try.runUnderlying23 w) (Try.sizeOf68 w) rfl rfl (by omega) (by omega) (hL.t0 (by omega))) ?_
  refine g_val rfl rfl rfl (fun w _ => v_fieldAddr 0 (Try.runUnderlying68 w) rfl (Try.sizeOf3 w) rfl) ?_
  refine g_val rfl rfl rfl (fun w hh => v_load (Try.isAgg3 w) rfl (hh.fld (j := (L.S.table.length - 1)) encW_len 0 0 rfl (by omega) rfl rfl)) ?_
  refine g_val rfl rfl rfl (fun _ _ => v_assign rfl) ?_
  refine g_nil ?_
  refine g_n_then ?_
  refine g_ret ?_
  refine g_done rfl (fun w hh => (.tmp rfl .nil)) (fun w hh => ⟨?_, hh.toExt⟩)
  rfl

set_option maxRecDepth 100000 in
set_option maxHeartbeats 4000000 in
theorem c_line (m : Int) (L : LS) (w : World) (hL : L.OK w) (hG : Good L.S) (hday : dayF L.S m = true) : Ret Try.prog 40 [L.val, .int .i64 m] w (.int .i64 (heightF L.S m)) := by
  have hlt := hL.tl
  have hlf := hL.fl
  have hls := hL.sl
  have hfl8 := hG.fl
  have htl12 := hG.tl
  have hsl16 := hG.sl
  have hdm := inr_iff.1 (show inr m (firstM L.S) (lastM L.S) = true from hday)
  have hds := day_span hG
  refine g_enter (args := [L.val, .int .i64 m]) Try.func40 rfl Try.ntmps40 rfl (e := [(0, _), (1, _)]) rfl (HS.start w [] L.segs hL.segs) ?_
  refine g_seq ?_
  refine g_region ?_
  refine g_box rfl rfl (fun b1 hb1 => ?_)
  refine g_val rfl rfl rfl (fun _ _ => v_assign rfl) ?_
  refine g_nil ?_
  refine g_n_then ?_
  refine g_seq ?_
  refine g_seq ?_
  refine g_region ?_
  refine g_val rfl rfl rfl (fun w _ => v_fieldAddr 0 (Try.runUnderlying29 w) rfl (Try.sizeOf23 w) rfl) ?_
  refine g_val rfl rfl rfl (fun w hh => v_load (Try.isAgg23 w) rfl (hh.cell 0 rfl rfl)) ?_
  refine g_val rfl rfl rfl (fun w _ => v_lenS (Try.runUnderlying23 w) rfl) ?_
  refine g_val rfl rfl rfl (fun _ _ => v_move rfl) ?_
  refine g_nil ?_
  refine g_n_then ?_
  refine g_block ?_
  refine g_sub (e' := [(12, _), (1, _), (2, _), (10, _), (11, _)]) ((.cons rfl (.cons rfl (.cons rfl (.cons rfl (.cons rfl .nil)))))) ?_
  refine g_loopM (ι := Nat) (fun k => [(12, .int .i64 (k : Nat))]) (fun k => []) (fun k => k ≤ L.S.table.length ∧ ∀ i, i < k → (L.S.table.getD i default).min < m) (fun k => L.S.table.length - k) 0 (⟨Nat.zero_le _, fun i hi => absurd hi (by omega)⟩) ?_
  intro k hI0
  refine g_seq ?_
  refine g_region ?_
  refine g_val rfl rfl rfl (fun _ _ => v_lss rfl rfl) ?_
  refine g_nil ?_
  refine g_n_then ?_
  refine g_seq ?_
  refine g_cond rfl (fun h13 => ?_) (fun h13 => ?_)
  · replace h13 := of_decide_eq_true h13
    have hk : k < L.S.table.length := by omega
    have hT0 := hG.tab k hk
    refine g_skip ?_
    refine g_n_then ?_
    refine g_seq ?_
    refine g_block ?_
    refine g_seq ?_
    refine g_region ?_
    refine g_val rfl rfl rfl (fun _ _ => v_move rfl) ?_
    refine g_val rfl rfl rfl (fun w _ => v_indexAddr k (Try.runUnderlying23 w) (Try.sizeOf68 w) rfl rfl rfl (by omega) (hL.t0 (by omega))) ?_
    refine g_val rfl rfl rfl (fun w hh => v_loadAgg (vs := encW _) (Try.isAgg68 w) (Try.sizeOf68 w) rfl (hh.elem (j := k) encW_len 0 rfl (by omega))) ?_
    refine g_alloc (fun w => Try.zeroValue68 w) rfl (fun b2 hb2 => ?_)
    refine g_val rfl rfl rfl (fun _ _ => v_assign rfl) ?_
    refine g_storeAgg (vs := #[_, _]) (own' := (_ :: _)) 0 (fun w => Try.sizeOf68 w) rfl rfl rfl rfl rfl rfl ?_
    refine g_nil ?_
    refine g_n_then ?_
    refine g_seq ?_
    refine g_seq ?_
    refine g_region ?_
    refine g_val rfl rfl rfl (fun w _ => v_fieldAddr 0 (Try.runUnderlying68 w) rfl (Try.sizeOf3 w) rfl) ?_
    refine g_val rfl rfl rfl (fun w hh => v_load (Try.isAgg3 w) rfl (hh.cell 0 rfl rfl)) ?_
    refine g_val rfl rfl rfl (fun _ _ => v_move rfl) ?_
    refine g_val rfl rfl rfl (fun _ _ => v_eql rfl rfl) ?_
    refine g_nil ?_
    refine g_n_then ?_
    refine g_cond rfl (fun h20 => ?_) (fun h20 => ?_)
    · replace h20 := of_decide_eq_true h20
      refine g_seq ?_
      refine g_region ?_
      refine g_val rfl rfl rfl (fun w _ => v_fieldAddr 1 (Try.runUnderlying68 w) rfl (Try.sizeOf3 w) rfl) ?_
      refine g_val rfl rfl rfl (fun w hh => v_load (Try.isAgg3 w) rfl (hh.cell 0 rfl rfl)) ?_
      refine g_val rfl rfl rfl (fun _ _ => v_assign rfl) ?_
      refine g_nil ?_
      refine g_n_then ?_
      refine g_ret ?_
      refine g_r_then ?_
      refine g_r_blk ?_
      refine g_r_then ?_
      refine g_r_then ?_
      refine g_r_blk ?_
      refine g_r_then ?_
      refine g_done rfl (fun w hh => (.tmp rfl .nil)) (fun w hh => ⟨?_, hh.toExt⟩)
      rw [height_eq hk hI0.2 h20]; rfl
    · replace h20 := of_decide_eq_false h20
      refine g_skip ?_
      refine g_n_then ?_
      refine g_seq ?_
      refine g_region ?_
      refine g_val rfl rfl rfl (fun w _ => v_fieldAddr 0 (Try.runUnderlying68 w) rfl (Try.sizeOf3 w) rfl) ?_
      refine g_val rfl rfl rfl (fun w hh => v_load (Try.isAgg3 w) rfl (hh.cell 0 rfl rfl)) ?_
      refine g_val rfl rfl rfl (fun _ _ => v_move rfl) ?_
      refine g_val rfl rfl rfl (fun _ _ => v_gtr rfl rfl) ?_
      refine g_nil ?_
      refine g_n_then ?_
      refine g_cond rfl (fun h26 => ?_) (fun h26 => ?_)
      · replace h26 := of_decide_eq_true h26
        have hk0 : k ≠ 0 := by rintro rfl; have e1 : firstM L.S = (L.S.table.getD 0 default).min := rfl; omega
        have hT1 := hG.tab (k - 1) (by omega)
        have hl1 := hI0.2 (k - 1) (by omega)
        have hP0 := mul_bd (x := (L.S.table.getD (k - 1) default).h) (y := (L.S.table.getD k default).min - (L.S.table.getD (k - 1) default).min) (a := 999) (b := 1440) (by omega) (by omega) (by omega)
        have hP1 := mul_bd (x := (L.S.table.getD k default).h - (L.S.table.getD (k - 1) default).h) (y := m - (L.S.table.getD (k - 1) default).min) (a := 999) (b := 1440) (by omega) (by omega) (by omega)
        have hnum : -10000000 ≤ (L.S.table.getD (k - 1) default).h * ((L.S.table.getD k default).min - (L.S.table.getD (k - 1) default).min) + ((L.S.table.getD k default).h - (L.S.table.getD (k - 1) default).h) * (m - (L.S.table.getD (k - 1) default).min) + 1000 * ((L.S.table.getD k default).min - (L.S.table.getD (k - 1) default).min) ∧ (L.S.table.getD (k - 1) default).h * ((L.S.table.getD k default).min - (L.S.table.getD (k - 1) default).min) + ((L.S.table.getD k default).h - (L.S.table.getD (k - 1) default).h) * (m - (L.S.table.getD (k - 1) default).min) + 1000 * ((L.S.table.getD k default).min - (L.S.table.getD (k - 1) default).min) ≤ 10000000 := by omega
        have hq9 := tdiv_bd (d := (L.S.table.getD k default).min - (L.S.table.getD (k - 1) default).min) hnum
        refine g_seq ?_
        refine g_region ?_
        refine g_val rfl rfl rfl (fun w _ => v_fieldAddr 0 (Try.runUnderlying29 w) rfl (Try.sizeOf23 w) rfl) ?_
        refine g_val rfl rfl rfl (fun w hh => v_load (Try.isAgg23 w) rfl (hh.cell 1 rfl rfl)) ?_
        refine g_val rfl rfl rfl (fun _ _ => v_move rfl) ?_
        refine g_val rfl rfl rfl (fun _ _ => v_sub rfl rfl (wrap_i64 (by omega))) ?_
        refine g_val rfl rfl rfl (fun w _ => v_indexAddr (k - 1) (Try.runUnderlying23 w) (Try.sizeOf68 w) rfl rfl (by omega) (by omega) (hL.t0 (by omega))) ?_
        refine g_val rfl rfl rfl (fun w hh => v_loadAgg (vs := encW _) (Try.isAgg68 w) (Try.sizeOf68 w) rfl (hh.elem (j := k - 1) encW_len 0 rfl (by omega))) ?_
        refine g_alloc (fun w => Try.zeroValue68 w) rfl (fun b3 hb3 => ?_)
        refine g_storeAgg (vs := #[_, _]) (own' := (_ :: _)) 0 (fun w => Try.sizeOf68 w) rfl rfl rfl rfl rfl rfl ?_
        refine g_nil ?_
        refine g_n_then ?_
        refine g_seq ?_
        refine g_region ?_
        refine g_val rfl rfl rfl (fun w _ => v_fieldAddr 0 (Try.runUnderlying68 w) rfl (Try.sizeOf3 w) rfl) ?_
        refine g_val rfl rfl rfl (fun w hh => v_load (Try.isAgg3 w) rfl (hh.cell 1 rfl rfl)) ?_
        refine g_val rfl rfl rfl (fun w _ => v_fieldAddr 0 (Try.runUnderlying68 w) rfl (Try.sizeOf3 w) rfl) ?_
        refine g_val rfl rfl rfl (fun w hh => v_load (Try.isAgg3 w) rfl (hh.cell 0 rfl rfl)) ?_
        refine g_val rfl rfl rfl (fun _ _ => v_sub rfl rfl (wrap_i64 (by omega))) ?_
        refine g_val rfl rfl rfl (fun _ _ => v_assign rfl) ?_
        refine g_nil ?_
        refine g_n_then ?_
        refine g_seq ?_
        refine g_region ?_
        refine g_val rfl rfl rfl (fun w _ => v_fieldAddr 1 (Try.runUnderlying68 w) rfl (Try.sizeOf3 w) rfl) ?_
        refine g_val rfl rfl rfl (fun w hh => v_load (Try.isAgg3 w) rfl (hh.cell 0 rfl rfl)) ?_
        refine g_val rfl rfl rfl (fun _ _ => v_move rfl) ?_
        refine g_val rfl rfl rfl (fun _ _ => v_mul rfl rfl (wrap_i64 (by omega))) ?_
        refine g_val rfl rfl rfl (fun w _ => v_fieldAddr 1 (Try.runUnderlying68 w) rfl (Try.sizeOf3 w) rfl) ?_
        refine g_val rfl rfl rfl (fun w hh => v_load (Try.isAgg3 w) rfl (hh.cell 1 rfl rfl)) ?_
        refine g_val rfl rfl rfl (fun w _ => v_fieldAddr 1 (Try.runUnderlying68 w) rfl (Try.sizeOf3 w) rfl) ?_
        refine g_val rfl rfl rfl (fun w hh => v_load (Try.isAgg3 w) rfl (hh.cell 0 rfl rfl)) ?_
        refine g_val rfl rfl rfl (fun _ _ => v_sub rfl rfl (wrap_i64 (by omega))) ?_
        refine g_val rfl rfl rfl (fun _ _ => v_move rfl) ?_
        refine g_val rfl rfl rfl (fun w _ => v_fieldAddr 0 (Try.runUnderlying68 w) rfl (Try.sizeOf3 w) rfl) ?_
        refine g_val rfl rfl rfl (fun w hh => v_load (Try.isAgg3 w) rfl (hh.cell 0 rfl rfl)) ?_
        refine g_val rfl rfl rfl (fun _ _ => v_sub rfl rfl (wrap_i64 (by omega))) ?_
        refine g_val rfl rfl rfl (fun _ _ => v_mul rfl rfl (wrap_i64 (by omega))) ?_
        refine g_val rfl rfl rfl (fun _ _ => v_add rfl rfl (wrap_i64 (by omega))) ?_
        refine g_val rfl rfl rfl (fun _ _ => v_move rfl) ?_
        refine g_val rfl rfl rfl (fun _ _ => v_mul rfl rfl (wrap_i64 (by omega))) ?_
        refine g_val rfl rfl rfl (fun _ _ => v_add rfl rfl (wrap_i64 (by omega))) ?_
        refine g_val rfl rfl rfl (fun _ _ => v_move rfl) ?_
        refine g_val rfl rfl rfl (fun _ _ => v_quo rfl rfl (by omega) (wrap_i64 (by omega))) ?_
        refine g_val rfl rfl rfl (fun _ _ => v_sub rfl rfl (wrap_i64 (by omega))) ?_
        refine g_val rfl rfl rfl (fun _ _ => v_assign rfl) ?_
        refine g_nil ?_
        refine g_n_then ?_
        refine g_ret ?_
        refine g_r_blk ?_
        refine g_r_then ?_
        refine g_r_then ?_
        refine g_r_blk ?_
        refine g_r_then ?_
        refine g_done rfl (fun w hh => (.tmp rfl .nil)) (fun w hh => ⟨?_, hh.toExt⟩)
        rw [height_line hG hk hI0.2 (by omega) hk0]; rfl
      · replace h26 := of_decide_eq_false h26
        refine g_skip ?_
        refine g_n_blk ?_
        refine g_n_then ?_
        refine g_region ?_
        refine g_val rfl rfl rfl (fun _ _ => v_add rfl rfl (wrap_i64 (by omega))) ?_
        refine g_val rfl rfl rfl (fun _ _ => v_move rfl) ?_
        refine g_nil ?_
        refine g_n_then ?_
        exact g_againM (i := k) (k + 1) [1] ((.cons rfl (.cons rfl (.cons rfl (.cons rfl (.cons rfl .nil)))))) (by decide) rfl (⟨by omega, fun i hi => by rcases Nat.lt_succ_iff_lt_or_eq.1 hi with h | h; exact hI0.2 i h; subst h; omega⟩) (by omega)
  · replace h13 := of_decide_eq_false h13
    have ek : k = L.S.table.length := by omega
    subst ek
    refine g_exit ?_
    refine g_x_then ?_
    refine g_x_then ?_
    refine g_x_blk ?_
    refine g_n_then ?_
    refine g_seq ?_
    refine g_region ?_
    refine g_val rfl rfl rfl (fun _ _ => v_assign rfl) ?_
    refine g_nil ?_
    refine g_n_then ?_
    refine g_ret ?_
    exfalso
    have := hI0.2 (L.S.table.length - 1) (by omega)
    have e2 : lastM L.S = (L.S.table.getD (L.S.table.length - 1) default).min := rfl
    omega

set_option maxRecDepth 100000 in
set_option maxHeartbeats 4000000 in
theorem c_wet (gr : Option (Nat × Nat)) (gs : List Int) (gc : Nat) (m p tr : Int) (L : LS) (w : World) (hL : L.OK w) (hG : Good L.S) (hgr : 0 < gs.length → gr ≠ none) (hgs : segOK w (bk gr, off gr, ints gs)) (hday : dayF L.S m = true) (hp : 0 ≤ p ∧ p < gs.length) (htr : -1000 ≤ tr ∧ tr ≤ 1000) : Ret Try.prog 29 [L.val, slv gr gs.length gc, .int .i64 m, .int .i64 p, .int .i64 tr] w (.bool (decide (gs.getD p.toNat 0 < heightF L.S m + tr))) := by
  have hlt := hL.tl
  have hlf := hL.fl
  have hls := hL.sl
  have hfl8 := hG.fl
  have htl12 := hG.tl
  have hsl16 := hG.sl
  have hhb := height_bd hG hday
  refine g_enter (args := [L.val, slv gr gs.length gc, .int .i64 m, .int .i64 p, .int .i64 tr]) Try.func29 rfl Try.ntmps29 rfl (e := [(0, _), (1, _), (2, _), (3, _), (4, _)]) rfl (HS.start w [] ((bk gr, off gr, ints gs) :: L.segs) (segsC hgs hL.segs)) ?_
  refine g_seq ?_
  refine g_region ?_
  refine g_box rfl rfl (fun b1 hb1 => ?_)
  refine g_val rfl rfl rfl (fun _ _ => v_assign rfl) ?_
  refine g_nil ?_
  refine g_n_then ?_
  refine g_seq ?_
  refine g_draw none (.hoist 0 (.free 1 (.free 3 (.free 5 (.free 6 (.hoist 7 (.hoist 8 (.one 2 (.free 4 (.free 9 (.free 10 .done))))))))))) _ rfl (by decide +kernel) (fun w k hh => hh.draw k) (fun w hh => hh) ?_
  refine p_hoist rfl rfl rfl rfl (fun w hh => v_loadAgg (vs := [_, _, _, _, _]) (Try.isAgg29 w) (Try.sizeOf29 w) rfl (hh.cells 0 rfl rfl)) ?_
  refine p_free rfl rfl rfl rfl (fun _ _ => v_move rfl) ?_
  refine p_free rfl rfl rfl rfl (fun _ _ => v_move rfl) ?_
  refine p_free rfl rfl rfl rfl (fun _ _ => v_move rfl) ?_
  refine p_free rfl rfl rfl rfl (fun _ _ => v_move rfl) ?_
  refine p_hoist rfl rfl rfl rfl (fun w _ => v_idxI1 (Try.runUnderlying26 w) (Try.sizeOf3 w) rfl rfl (by omega) (by omega) (hgr (by omega))) ?_
  refine p_hoist rfl rfl rfl rfl (fun w hh => v_load (Try.isAgg3 w) rfl (hh.int 0 rfl (by omega))) ?_
  refine p_one rfl ?_
  refine g_callv rfl rfl rfl rfl rfl rfl rfl (fun a w => Try.call40 a w) (fun w hh => c_line _ L w (hL.ext hh.toExt) hG (by assumption)) ?_
  refine p_next (fun w hh => hh) ?_
  refine p_free rfl rfl rfl rfl (fun _ _ => v_add rfl rfl (wrap_i64 (by omega))) ?_
  refine p_free rfl rfl rfl rfl (fun _ _ => v_gtr rfl rfl) ?_
  refine p_free rfl rfl rfl rfl (fun _ _ => v_assign rfl) ?_
  refine p_done ?_
  refine g_n_then ?_
  refine g_ret ?_
  refine g_done rfl (fun w hh => (.tmp rfl .nil)) (fun w hh => ⟨?_, hh.toExt⟩)
  rfl

set_option maxRecDepth 100000 in
set_option maxHeartbeats 4000000 in
theorem c_Own (L : LS) (w : World) (hL : L.OK w) (h1 : L.S.table.length ≤ 1000000) (h2 : L.S.floors.length ≤ 1000000) (h3 : L.S.sills.length ≤ 1000000) : Calls Try.prog 25 #[L.val] w (fun en w' => ∃ L' : LS, en = .returned L'.val ∧ (L'.S = L.S ∧ L'.Bd) ∧ News w w' L'.segs) := by
  have hlt := hL.tl
  have hlf := hL.fl
  have hls := hL.sl
  refine g_enter (args := [L.val]) Try.func25 rfl Try.ntmps25 rfl (e := [(0, _)]) rfl (HS.start w [] L.segs hL.segs) ?_
  refine g_seq ?_
  refine g_region ?_
  refine g_box rfl rfl (fun b1 hb1 => ?_)
  refine g_alloc (fun w => Try.zeroValue29 w) rfl (fun b2 hb2 => ?_)
  refine g_nil ?_
  refine g_n_then ?_
  refine g_seq ?_
  refine g_draw (some 12) (.free 0 (.hoist 1 (.free 3 (.hoist 4 (.free 5 (.hoist 6 (.free 8 (.hoist 9 (.one 2 (.one 7 (.one 10 (.free 11 (.last 12 .done))))))))))))) _ rfl (by decide +kernel) (fun w k hh => hh.draw k) (fun w hh => hh) ?_
  refine p_free rfl rfl rfl rfl (fun w _ => v_fieldAddr 0 (Try.runUnderlying29 w) rfl (Try.sizeOf23 w) rfl) ?_
  refine p_hoist rfl rfl rfl rfl (fun w hh => v_load (Try.isAgg23 w) rfl (hh.cell 1 rfl rfl)) ?_
  refine p_free rfl rfl rfl rfl (fun w _ => v_fieldAddr 1 (Try.runUnderlying29 w) rfl (Try.sizeOf25 w) rfl) ?_
  refine p_hoist rfl rfl rfl rfl (fun w hh => v_loadAgg (vs := [_, _]) (Try.isAgg25 w) (Try.sizeOf25 w) rfl (hh.cells 1 rfl rfl)) ?_
  refine p_free rfl rfl rfl rfl (fun w _ => v_fieldAddr 3 (Try.runUnderlying29 w) rfl (Try.sizeOf26 w) rfl) ?_
  refine p_hoist rfl rfl rfl rfl (fun w hh => v_load (Try.isAgg26 w) rfl (hh.cell 1 rfl rfl)) ?_
  refine p_free rfl rfl rfl rfl (fun w _ => v_fieldAddr 4 (Try.runUnderlying29 w) rfl (Try.sizeOf27 w) rfl) ?_
  refine p_hoist rfl rfl rfl rfl (fun w hh => v_load (Try.isAgg27 w) rfl (hh.cell 1 rfl rfl)) ?_
  refine p_one rfl ?_
  refine g_callR (ι := Option (Nat × Nat) × Nat) (p := fun i => SlOK i.1 L.S.table.length i.2 ∧ (flat encW L.S.table ≠ [] → w.heap.size ≤ bk i.1)) (S := fun i => [(bk i.1, off i.1, flat encW L.S.table)]) (ret := fun i => slv i.1 L.S.table.length i.2) rfl rfl rfl rfl rfl rfl rfl (fun a w => Try.call100 a w) (fun w1 hh => (c_Dup_Water L.rt L.S.table _ w1 (by omega) hL.t0 (hh.seg 0 rfl)).mono (by rintro en w' ⟨q, cap, rfl, h1, h2⟩; exact ⟨(q, cap), rfl, ⟨h1, fun hn => Nat.le_trans hh.size (h2.new _ List.mem_cons_self hn)⟩, h2⟩)) (fun q3 hq3 => ?_)
  refine p_next (fun w hh => (HS.roTail 1 rfl hh)) ?_
  refine p_one rfl ?_
  refine g_callR (ι := Option (Nat × Nat) × Nat) (p := fun i => SlOK i.1 L.S.floors.length i.2 ∧ (ints L.S.floors ≠ [] → w.heap.size ≤ bk i.1)) (S := fun i => [(bk i.1, off i.1, ints L.S.floors)]) (ret := fun i => slv i.1 L.S.floors.length i.2) rfl rfl rfl rfl rfl rfl rfl (fun a w => Try.call65 a w) (fun w1 hh => (c_Dup_int L.rf L.S.floors _ w1 (by omega) hL.f0 (hh.seg 2 rfl)).mono (by rintro en w' ⟨q, cap, rfl, h1, h2⟩; exact ⟨(q, cap), rfl, ⟨h1, fun hn => Nat.le_trans hh.size (h2.new _ List.mem_cons_self hn)⟩, h2⟩)) (fun q4 hq4 => ?_)
  refine p_next (fun w hh => (HS.roTail 2 rfl hh)) ?_
  refine p_one rfl ?_
  refine g_callR (ι := Option (Nat × Nat) × Nat) (p := fun i => SlOK i.1 L.S.sills.length i.2 ∧ (flat encS L.S.sills ≠ [] → w.heap.size ≤ bk i.1)) (S := fun i => [(bk i.1, off i.1, flat encS L.S.sills)]) (ret := fun i => slv i.1 L.S.sills.length i.2) rfl rfl rfl rfl rfl rfl rfl (fun a w => Try.call101 a w) (fun w1 hh => (c_Dup_Sill L.rs L.S.sills _ w1 (by omega) hL.s0 (hh.seg 4 rfl)).mono (by rintro en w' ⟨q, cap, rfl, h1, h2⟩; exact ⟨(q, cap), rfl, ⟨h1, fun hn => Nat.le_trans hh.size (h2.new _ List.mem_cons_self hn)⟩, h2⟩)) (fun q5 hq5 => ?_)
  refine p_next (fun w hh => (HS.roTail 3 rfl hh)) ?_
  refine p_free rfl rfl rfl rfl (fun _ _ => v_build (vs := [(0, _), (1, _), (2, _), (3, _)]) (cells := [_, _, _, _, _]) rfl rfl) ?_
  refine p_last rfl ?_
  refine g_storeAgg (vs := #[_, _, _, _, _]) (own' := (_ :: _)) 0 (fun w => Try.sizeOf29 w) rfl rfl rfl rfl rfl rfl ?_
  refine p_nextL ?_
  refine p_done ?_
  refine g_n_then ?_
  refine g_ret ?_
  refine g_done rfl (fun w hh => (.cell rfl (loadVar_agg (vs := [_, _, _, _, _]) (Try.isAgg29 _) (Try.sizeOf29 _) (hh.cells 0 rfl rfl)) .nil)) (fun w1 hh => ?_)
  have hN := News.of3 hh ⟨hh.seg 2 rfl, hq3.2⟩ ⟨hh.seg 1 rfl, hq4.2⟩ ⟨hh.seg 0 rfl, hq5.2⟩
  exact ⟨⟨q3.1, q3.2, q4.1, q4.2, q5.1, q5.2, L.S⟩, rfl, ⟨rfl, hq3.1.ne, hq4.1.ne, hq5.1.ne, hlt, hlf, hls, hq3.1.le, hq4.1.le, hq5.1.le⟩, hN⟩

end Go.Proofs

namespace Go.Proofs
open Go Go.Fw Go.Pl
set_option maxRecDepth 100000 in
set_option maxHeartbeats 4000000 in
theorem c_lawlooked (b : Nat) (r : Option Addr) (l : List Int) (cap : Nat) (p : Int × Int) (gr : Option (Nat × Nat)) (gs : List Int) (gc : Nat) (tr most : Int) (L : LS) (w : World) (hb : w.heap[b]? = some (hobj r l.length cap p)) (hr : 0 < l.length → ∃ sb so, r = some ⟨sb, so, none⟩) (hl : l.length ≤ 9223372036854775807) (hp : hok l.length p) (hgr : 0 < gs.length → gr ≠ none) (hB : L.Bd) (hG : Good L.S) (hgl : gs.length = L.S.floors.length) (hro : ∀ s, s ∈ ((bkA r, offA r, u8s l) :: (bk gr, off gr, ints gs) :: L.segs) → segOK w s ∧ (s.2.2 ≠ [] → s.1 ≠ b)) (htr : -1000 ≤ tr ∧ tr ≤ 1000) (hmost : 0 ≤ most ∧ most ≤ 6) : Calls Try.prog 22 #[ptr b 0, L.val, slv gr gs.length gc, .int .i64 tr, .int .i64 most] w (fun en w' => ∃ i : List Look × Option (Nat × Nat) × Nat × (Int × Int), en = .returned (slv i.2.1 i.1.length i.2.2.1) ∧ (i.1.length ≤ 6 ∧ (∀ x, x ∈ i.1 → lookT L.S gs tr x) ∧ SlOK i.2.1 i.1.length i.2.2.1 ∧ hok l.length i.2.2.2) ∧ UpdNews b (hobj r l.length cap i.2.2.2) w w' [(bk i.2.1, off i.2.1, flat encL i.1)]) := by
  have hbs := (Array.getElem?_eq_some_iff.1 hb).1
  have hne : u8s l ≠ [] → bkA r ≠ b := (hro _ List.mem_cons_self).2
  have hlt := hB.tl
  have hlf := hB.fl
  have hls := hB.sl
  have hfl8 := hG.fl
  have htl12 := hG.tl
  have hds := day_span hG
  refine g_enter (args := [ptr b 0, L.val, slv gr gs.length gc, .int .i64 tr, .int .i64 most]) Try.func22 rfl Try.ntmps22 rfl (e := [(0, _), (1, _), (2, _), (3, _), (4, _)]) rfl (HS.start1 w b (hobj r l.length cap p) ((bkA r, offA r, u8s l) :: (bk gr, off gr, ints gs) :: L.segs) hb hro) ?_
  refine g_seq ?_
  refine g_region ?_
  refine g_box rfl rfl (fun b1 hb1 => ?_)
  refine g_val rfl rfl rfl (fun _ _ => v_nilSlice rfl rfl) ?_
  refine g_nil ?_
  refine g_n_then ?_
  refine g_seq ?_
  refine g_region ?_
  refine g_val rfl rfl rfl (fun _ _ => v_nilSlice rfl rfl) ?_
  refine g_nil ?_
  refine g_n_then ?_
  refine g_seq ?_
  refine g_seq ?_
  refine g_region ?_
  refine g_val rfl rfl rfl (fun _ _ => v_move rfl) ?_
  refine g_val rfl rfl rfl (fun _ _ => v_move rfl) ?_
  refine g_callU (ι := Int × (Int × Int)) (p := fun i => (0 ≤ i.1 ∧ i.1 ≤ max 0 (most)) ∧ hok l.length i.2) (ob' := fun i => hobj r l.length cap i.2) (ret := fun i => .int .i64 i.1) 1 rfl rfl rfl rfl rfl rfl rfl (fun a w => Try.call64 a w) rfl (fun _ => rfl) (fun w hh => (c_Upto b r l cap _ (most) w (hh.get 1 rfl) (hh.seg 0 rfl) hne hr hl (by assumption) (by omega)).mono (by rintro en w' ⟨n, q, rfl, hn, hq, hx, hb'⟩; exact ⟨(n, q), rfl, ⟨hn, hq⟩, hx, hb'⟩)) (fun n2 hhn2 => ?_)
  have hn2 := hhn2.1
  have hqn2 := hhn2.2
  refine g_val rfl rfl rfl (fun _ _ => v_move rfl) ?_
  refine g_nil ?_
  refine g_n_then ?_
  refine g_block ?_
  refine g_sub (e' := [(16, _), (11, _), (0, _), (2, _), (3, _), (6, _), (15, _)]) ((.cons rfl (.cons rfl (.cons rfl (.cons rfl (.cons rfl (.cons rfl (.cons rfl .nil)))))))) ?_
  refine g_pick (own' := [_, _]) [1, 0] (by decide) rfl ?_
  refine g_loopV (ι := Nat × (Int × Int) × List Look × List Value × Option (Nat × Nat) × Nat) (ofix := [_]) (fun (k, hp, lk, sp, q, vc) => [(16, .int .i64 (k : Nat)), (11, slv q k vc)]) (fun (k, hp, lk, sp, q, vc) => [(b, hobj r l.length cap hp)]) (fun (k, hp, lk, sp, q, vc) => vown 89 (flat encL lk) sp q ++ []) (fun (k, hp, lk, sp, q, vc) => (k : Int) ≤ n2.1 ∧ hok l.length hp ∧ VOK 3 k vc (flat encL lk) sp q ∧ ∀ x, x ∈ lk → lookT L.S gs tr x) (fun (k, hp, lk, sp, q, vc) => n2.1.toNat - k) (0, n2.2, [], [], none, 0) (⟨by omega, hqn2, VOK.nil, fun x hx => by cases hx⟩) ?_
  intro ⟨k, hp, lk, sp, q, vc⟩ hI0
  simp only at hI0
  have hhp := hI0.2.1
  refine g_seq ?_
  refine g_region ?_
  refine g_val rfl rfl rfl (fun _ _ => v_lss rfl rfl) ?_
  refine g_nil ?_
  refine g_n_then ?_
  refine g_seq ?_
  refine g_cond rfl (fun h17 => ?_) (fun h17 => ?_)
  · replace h17 := of_decide_eq_true h17
    refine g_skip ?_
    refine g_n_then ?_
    refine g_seq ?_
    refine g_block ?_
    refine g_seq ?_
    refine g_draw none (.free 0 (.hoist 1 (.hoist 3 (.free 6 (.free 7 (.hoist 8 (.free 9 (.free 10 (.br (.alt 2 (.br (.alt 4 (.br (.alt 5 (.br (.alt 11 (.free 12 (.one 13 (.one 14 .done))) (.alt 13 (.one 11 (.free 12 (.one 14 .done))) .nil))) (.alt 13 (.one 5 (.one 11 (.free 12 (.one 14 .done)))) .nil))) (.alt 13 (.one 4 (.one 5 (.one 11 (.free 12 (.one 14 .done))))) .nil))) (.alt 13 (.one 2 (.one 4 (.one 5 (.one 11 (.free 12 (.one 14 .done)))))) .nil))))))))))) (HS _ _ [_] _) rfl (by decide +kernel) (fun w k hh => hh.draw k) (fun w hh => ((hh).head (A := [_, _])).pick [1] (by decide) rfl) ?_
    refine p_free rfl rfl rfl rfl (fun _ _ => v_move rfl) ?_
    refine p_hoist rfl rfl rfl rfl (fun w hh => v_loadAgg (vs := [_, _, _, _, _]) (Try.isAgg29 w) (Try.sizeOf29 w) rfl (hh.cells 0 rfl rfl)) ?_
    refine p_hoist rfl rfl rfl rfl (fun w hh => v_loadAgg (vs := [_, _, _, _, _]) (Try.isAgg29 w) (Try.sizeOf29 w) rfl (hh.cells 0 rfl rfl)) ?_
    refine p_free rfl rfl rfl rfl (fun _ _ => v_move rfl) ?_
    refine p_free rfl rfl rfl rfl (fun w _ => v_fieldAddr 3 (Try.runUnderlying29 w) rfl (Try.sizeOf26 w) rfl) ?_
    refine p_hoist rfl rfl rfl rfl (fun w hh => v_load (Try.isAgg26 w) rfl (hh.cell 0 rfl rfl)) ?_
    refine p_free rfl rfl rfl rfl (fun w _ => v_lenS (Try.runUnderlying26 w) rfl) ?_
    refine p_free rfl rfl rfl rfl (fun _ _ => v_sub rfl rfl (wrap_i64 (by omega))) ?_
    refine p_br ?_
    refine p_alt rfl ?_ ?_
    · refine g_callv rfl rfl rfl rfl rfl rfl rfl (fun a w => Try.call26 a w) (fun w hh => c_first L w (hB.at hh 2 rfl rfl rfl) (by omega)) ?_
      refine p_next (fun w hh => ((hh).head (A := [_, _])).pick [1] (by decide) rfl) ?_
      refine p_br ?_
      refine p_alt rfl ?_ ?_
      · refine g_callv rfl rfl rfl rfl rfl rfl rfl (fun a w => Try.call27 a w) (fun w hh => c_last L w (hB.at hh 2 rfl rfl rfl) (by omega)) ?_
        refine p_next (fun w hh => ((hh).head (A := [_, _])).pick [1] (by decide) rfl) ?_
        refine p_br ?_
        refine p_alt rfl ?_ ?_
        · refine g_callU (ι := Int × (Int × Int)) (p := fun i => ((firstM L.S) ≤ i.1 ∧ i.1 ≤ max (firstM L.S) (lastM L.S)) ∧ hok l.length i.2) (ob' := fun i => hobj r l.length cap i.2) (ret := fun i => .int .i64 i.1) 0 rfl rfl rfl rfl rfl rfl rfl (fun a w => Try.call20 a w) rfl (fun _ => rfl) (fun w hh => (c_From b r l cap _ (firstM L.S) (lastM L.S) w (hh.get 0 rfl) (hh.seg 0 rfl) hne hr hl (by assumption) (by omega)).mono (by rintro en w' ⟨n, q, rfl, hn, hq, hx, hb'⟩; exact ⟨(n, q), rfl, ⟨hn, hq⟩, hx, hb'⟩)) (fun n3 hhn3 => ?_)
          have hn3 := hhn3.1
          have hqn3 := hhn3.2
          refine p_next (fun w hh => ((hh).head (A := [_, _])).pick [1] (by decide) rfl) ?_
          refine p_br ?_
          refine p_alt rfl ?_ ?_
          · refine g_callU (ι := Int × (Int × Int)) (p := fun i => (0 ≤ i.1 ∧ i.1 ≤ max 0 ((L.S.floors.length : Int) - 1)) ∧ hok l.length i.2) (ob' := fun i => hobj r l.length cap i.2) (ret := fun i => .int .i64 i.1) 0 rfl rfl rfl rfl rfl rfl rfl (fun a w => Try.call64 a w) rfl (fun _ => rfl) (fun w hh => (c_Upto b r l cap _ ((L.S.floors.length : Int) - 1) w (hh.get 0 rfl) (hh.seg 0 rfl) hne hr hl (by assumption) (by omega)).mono (by rintro en w' ⟨n, q, rfl, hn, hq, hx, hb'⟩; exact ⟨(n, q), rfl, ⟨hn, hq⟩, hx, hb'⟩)) (fun n4 hhn4 => ?_)
            have hn4 := hhn4.1
            have hqn4 := hhn4.2
            refine p_next (fun w hh => ((hh).head (A := [_, _])).pick [1] (by decide) rfl) ?_
            refine p_free rfl rfl rfl rfl (fun _ _ => v_build (vs := [(0, _), (1, _)]) (cells := [_, _, _]) rfl rfl) ?_
            refine p_one rfl ?_
            refine g_alloc (fun w => Try.zeroValue89 w) rfl (fun b5 hb5 => ?_)
            refine p_next (fun w hh => ((hh).head (A := [_, _, _])).pick [2] (by decide) rfl) ?_
            refine p_one rfl ?_
            have hdy : dayF L.S n3.1 = true := day_of (by omega)
            have hpl : 0 ≤ n4.1 ∧ n4.1 < gs.length := by omega
            refine g_storeAgg (vs := #[_, _, _]) (own' := (_ :: _)) 0 (fun w => Try.sizeOf89 w) rfl rfl rfl rfl rfl rfl ?_
            refine p_next (fun w hh => ((hh).head (A := [_, _, _])).pick [2] (by decide) rfl) ?_
            refine p_done ?_
            refine g_n_then ?_
            refine g_seq ?_
            refine g_region ?_
            refine g_val rfl rfl rfl (fun w hh => v_loadAgg (vs := [_, _, _, _, _]) (Try.isAgg29 w) (Try.sizeOf29 w) rfl (hh.cells 2 rfl rfl)) ?_
            refine g_val rfl rfl rfl (fun _ _ => v_move rfl) ?_
            refine g_val rfl rfl rfl (fun w _ => v_fieldAddr 0 (Try.runUnderlying89 w) rfl (Try.sizeOf3 w) rfl) ?_
            refine g_val rfl rfl rfl (fun w hh => v_load (Try.isAgg3 w) rfl (hh.cell 0 rfl rfl)) ?_
            refine g_val rfl rfl rfl (fun w _ => v_fieldAddr 1 (Try.runUnderlying89 w) rfl (Try.sizeOf3 w) rfl) ?_
            refine g_val rfl rfl rfl (fun w hh => v_load (Try.isAgg3 w) rfl (hh.cell 0 rfl rfl)) ?_
            refine g_val rfl rfl rfl (fun _ _ => v_move rfl) ?_
            refine g_callv rfl rfl rfl rfl rfl rfl rfl (fun a w => Try.call29 a w) (fun w hh => c_wet gr gs gc _ _ tr L w (hB.at hh 2 rfl rfl rfl) hG hgr (hh.seg 1 rfl) hdy hpl htr) ?_
            refine g_val rfl rfl rfl (fun w _ => v_fieldAddr 2 (Try.runUnderlying89 w) rfl (Try.sizeOf4 w) rfl) ?_
            refine g_storeAt (cs' := #[_, _, _]) (own' := (_ :: _)) 0 (fun w => Try.sizeOf4 w) rfl rfl rfl rfl rfl rfl rfl ?_
            refine g_nil ?_
            refine g_n_then ?_
            refine g_region ?_
            refine g_val rfl rfl rfl (fun _ _ => v_move rfl) ?_
            refine g_val rfl rfl rfl (fun w hh => v_loadAgg (vs := [_, _, _]) (Try.isAgg89 w) (Try.sizeOf89 w) rfl (hh.cells 0 rfl rfl)) ?_
            refine g_buildSlice (vs := [(0, _)]) (cells := [_, _, _]) (fun w => Try.runUnderlying35 w) (fun w => Try.sizeOf89 w) (fun w => Try.zeroValue89 w) rfl rfl rfl rfl rfl (fun b6 hb6 => ?_)
            refine g_appendM [_, _, _, _] (news := [_, _, _]) (xs := (flat encL lk)) (sp := sp) (q := q) Try.underlying35 inf89 rfl rfl rfl hI0.2.2.1 (by simp) (by decide) rfl (fun w hh => hh.ownSeg 0 rfl) (ones_all rfl) (by simp only [maxLen]; omega) (by omega) rfl (fun q7 cap8 sp9 hv10 => ?_)
            rw [show flat encL lk ++ [.int .i64 n3.1, .int .i64 n4.1, .bool (decide (gs.getD (n4.1).toNat 0 < heightF L.S (n3.1) + tr))] = (flat encL (lk ++ [⟨n3.1, n4.1, decide (gs.getD (n4.1).toNat 0 < heightF L.S (n3.1) + tr)⟩])) from flat_snoc (enc := encL) (x := ⟨n3.1, n4.1, decide (gs.getD (n4.1).toNat 0 < heightF L.S (n3.1) + tr)⟩)] at hv10 ⊢
            refine g_val rfl rfl rfl (fun _ _ => v_assign rfl) ?_
            refine g_nil ?_
            refine g_n_blk ?_
            refine g_n_then ?_
            refine g_region ?_
            refine g_val rfl rfl rfl (fun _ _ => v_add rfl rfl (wrap_i64 (by omega))) ?_
            refine g_val rfl rfl rfl (fun _ _ => v_move rfl) ?_
            refine g_nil ?_
            refine g_n_then ?_
            exact g_againV (pre := [_, _, _, _]) (i := ⟨k, hp, lk, sp, q, vc⟩) (k + 1, n4.2, lk ++ [⟨n3.1, n4.1, decide (gs.getD (n4.1).toNat 0 < heightF L.S (n3.1) + tr)⟩], sp9, (some q7), cap8) [2, 3] ((.cons rfl (.cons rfl (.cons rfl (.cons rfl (.cons rfl (.cons rfl (.cons rfl .nil)))))))) (by decide) rfl rfl (⟨by omega, by assumption, hv10, fun x hx => by rcases List.mem_append.1 hx with h | h; exact hI0.2.2.2 x h; simp only [List.mem_singleton] at h; subst h; exact ⟨⟨hdy, isPlace_iff.2 (by simp only; omega)⟩, rfl⟩⟩) (by simp only; omega)
          refine p_alt rfl ?_ ?_
          · refine g_alloc (fun w => Try.zeroValue89 w) rfl (fun b11 hb11 => ?_)
            refine p_next (fun w hh => ((hh).head (A := [_, _, _])).pick [2] (by decide) rfl) ?_
            refine p_one rfl ?_
            refine g_callU (ι := Int × (Int × Int)) (p := fun i => (0 ≤ i.1 ∧ i.1 ≤ max 0 ((L.S.floors.length : Int) - 1)) ∧ hok l.length i.2) (ob' := fun i => hobj r l.length cap i.2) (ret := fun i => .int .i64 i.1) 1 rfl rfl rfl rfl rfl rfl rfl (fun a w => Try.call64 a w) rfl (fun _ => rfl) (fun w hh => (c_Upto b r l cap _ ((L.S.floors.length : Int) - 1) w (hh.get 1 rfl) (hh.seg 0 rfl) hne hr hl (by assumption) (by omega)).mono (by rintro en w' ⟨n, q, rfl, hn, hq, hx, hb'⟩; exact ⟨(n, q), rfl, ⟨hn, hq⟩, hx, hb'⟩)) (fun n12 hhn12 => ?_)
            have hn12 := hhn12.1
            have hqn12 := hhn12.2
            refine p_next (fun w hh => ((hh).head (A := [_, _, _])).pick [2] (by decide) rfl) ?_
            refine p_free rfl rfl rfl rfl (fun _ _ => v_build (vs := [(0, _), (1, _)]) (cells := [_, _, _]) rfl rfl) ?_
            refine p_one rfl ?_
            have hdy : dayF L.S n3.1 = true := day_of (by omega)
            have hpl : 0 ≤ n12.1 ∧ n12.1 < gs.length := by omega
            refine g_storeAgg (vs := #[_, _, _]) (own' := (_ :: _)) 0 (fun w => Try.sizeOf89 w) rfl rfl rfl rfl rfl rfl ?_
            refine p_next (fun w hh => ((hh).head (A := [_, _, _])).pick [2] (by decide) rfl) ?_
            refine p_done ?_
            refine g_n_then ?_
            refine g_seq ?_
            refine g_region ?_
            refine g_val rfl rfl rfl (fun w hh => v_loadAgg (vs := [_, _, _, _, _]) (Try.isAgg29 w) (Try.sizeOf29 w) rfl (hh.cells 2 rfl rfl)) ?_
            refine g_val rfl rfl rfl (fun _ _ => v_move rfl) ?_
            refine g_val rfl rfl rfl (fun w _ => v_fieldAddr 0 (Try.runUnderlying89 w) rfl (Try.sizeOf3 w) rfl) ?_
            refine g_val rfl rfl rfl (fun w hh => v_load (Try.isAgg3 w) rfl (hh.cell 0 rfl rfl)) ?_
            refine g_val rfl rfl rfl (fun w _ => v_fieldAddr 1 (Try.runUnderlying89 w) rfl (Try.sizeOf3 w) rfl) ?_
            refine g_val rfl rfl rfl (fun w hh => v_load (Try.isAgg3 w) rfl (hh.cell 0 rfl rfl)) ?_
            refine g_val rfl rfl rfl (fun _ _ => v_move rfl) ?_
            refine g_callv rfl rfl rfl rfl rfl rfl rfl (fun a w => Try.call29 a w) (fun w hh => c_wet gr gs gc _ _ tr L w (hB.at hh 2 rfl rfl rfl) hG hgr (hh.seg 1 rfl) hdy hpl htr) ?_
            refine g_val rfl rfl rfl (fun w _ => v_fieldAddr 2 (Try.runUnderlying89 w) rfl (Try.sizeOf4 w) rfl) ?_
            refine g_storeAt (cs' := #[_, _, _]) (own' := (_ :: _)) 0 (fun w => Try.sizeOf4 w) rfl rfl rfl rfl rfl rfl rfl ?_
            refine g_nil ?_
            refine g_n_then ?_
            refine g_region ?_
            refine g_val rfl rfl rfl (fun _ _ => v_move rfl) ?_
            refine g_val rfl rfl rfl (fun w hh => v_loadAgg (vs := [_, _, _]) (Try.isAgg89 w) (Try.sizeOf89 w) rfl (hh.cells 0 rfl rfl)) ?_
            refine g_buildSlice (vs := [(0, _)]) (cells := [_, _, _]) (fun w => Try.runUnderlying35 w) (fun w => Try.sizeOf89 w) (fun w => Try.zeroValue89 w) rfl rfl rfl rfl rfl (fun b13 hb13 => ?_)
            refine g_appendM [_, _, _, _] (news := [_, _, _]) (xs := (flat encL lk)) (sp := sp) (q := q) Try.underlying35 inf89 rfl rfl rfl hI0.2.2.1 (by simp) (by decide) rfl (fun w hh => hh.ownSeg 0 rfl) (ones_all rfl) (by simp only [maxLen]; omega) (by omega) rfl (fun q14 cap15 sp16 hv17 => ?_)
            rw [show flat encL lk ++ [.int .i64 n3.1, .int .i64 n12.1, .bool (decide (gs.getD (n12.1).toNat 0 < heightF L.S (n3.1) + tr))] = (flat encL (lk ++ [⟨n3.1, n12.1, decide (gs.getD (n12.1).toNat 0 < heightF L.S (n3.1) + tr)⟩])) from flat_snoc (enc := encL) (x := ⟨n3.1, n12.1, decide (gs.getD (n12.1).toNat 0 < heightF L.S (n3.1) + tr)⟩)] at hv17 ⊢
            refine g_val rfl rfl rfl (fun _ _ => v_assign rfl) ?_
            refine g_nil ?_
            refine g_n_blk ?_
            refine g_n_then ?_
            refine g_region ?_
            refine g_val rfl rfl rfl (fun _ _ => v_add rfl rfl (wrap_i64 (by omega))) ?_
            refine g_val rfl rfl rfl (fun _ _ => v_move rfl) ?_
            refine g_nil ?_
            refine g_n_then ?_
            exact g_againV (pre := [_, _, _, _]) (i := ⟨k, hp, lk, sp, q, vc⟩) (k + 1, n12.2, lk ++ [⟨n3.1, n12.1, decide (gs.getD (n12.1).toNat 0 < heightF L.S (n3.1) + tr)⟩], sp16, (some q14), cap15) [2, 3] ((.cons rfl (.cons rfl (.cons rfl (.cons rfl (.cons rfl (.cons rfl (.cons rfl .nil)))))))) (by decide) rfl rfl (⟨by omega, by assumption, hv17, fun x hx => by rcases List.mem_append.1 hx with h | h; exact hI0.2.2.2 x h; simp only [List.mem_singleton] at h; subst h; exact ⟨⟨hdy, isPlace_iff.2 (by simp only; omega)⟩, rfl⟩⟩) (by simp only; omega)
          exact p_nil
        refine p_alt rfl ?_ ?_
        · refine g_alloc (fun w => Try.zeroValue89 w) rfl (fun b18 hb18 => ?_)
          refine p_next (fun w hh => ((hh).head (A := [_, _, _])).pick [2] (by decide) rfl) ?_
          refine p_one rfl ?_
          refine g_callU (ι := Int × (Int × Int)) (p := fun i => ((firstM L.S) ≤ i.1 ∧ i.1 ≤ max (firstM L.S) (lastM L.S)) ∧ hok l.length i.2) (ob' := fun i => hobj r l.length cap i.2) (ret := fun i => .int .i64 i.1) 1 rfl rfl rfl rfl rfl rfl rfl (fun a w => Try.call20 a w) rfl (fun _ => rfl) (fun w hh => (c_From b r l cap _ (firstM L.S) (lastM L.S) w (hh.get 1 rfl) (hh.seg 0 rfl) hne hr hl (by assumption) (by omega)).mono (by rintro en w' ⟨n, q, rfl, hn, hq, hx, hb'⟩; exact ⟨(n, q), rfl, ⟨hn, hq⟩, hx, hb'⟩)) (fun n19 hhn19 => ?_)
          have hn19 := hhn19.1
          have hqn19 := hhn19.2
          refine p_next (fun w hh => ((hh).head (A := [_, _, _])).pick [2] (by decide) rfl) ?_
          refine p_one rfl ?_
          refine g_callU (ι := Int × (Int × Int)) (p := fun i => (0 ≤ i.1 ∧ i.1 ≤ max 0 ((L.S.floors.length : Int) - 1)) ∧ hok l.length i.2) (ob' := fun i => hobj r l.length cap i.2) (ret := fun i => .int .i64 i.1) 1 rfl rfl rfl rfl rfl rfl rfl (fun a w => Try.call64 a w) rfl (fun _ => rfl) (fun w hh => (c_Upto b r l cap _ ((L.S.floors.length : Int) - 1) w (hh.get 1 rfl) (hh.seg 0 rfl) hne hr hl (by assumption) (by omega)).mono (by rintro en w' ⟨n, q, rfl, hn, hq, hx, hb'⟩; exact ⟨(n, q), rfl, ⟨hn, hq⟩, hx, hb'⟩)) (fun n20 hhn20 => ?_)
          have hn20 := hhn20.1
          have hqn20 := hhn20.2
          refine p_next (fun w hh => ((hh).head (A := [_, _, _])).pick [2] (by decide) rfl) ?_
          refine p_free rfl rfl rfl rfl (fun _ _ => v_build (vs := [(0, _), (1, _)]) (cells := [_, _, _]) rfl rfl) ?_
          refine p_one rfl ?_
          have hdy : dayF L.S n19.1 = true := day_of (by omega)
          have hpl : 0 ≤ n20.1 ∧ n20.1 < gs.length := by omega
          refine g_storeAgg (vs := #[_, _, _]) (own' := (_ :: _)) 0 (fun w => Try.sizeOf89 w) rfl rfl rfl rfl rfl rfl ?_
          refine p_next (fun w hh => ((hh).head (A := [_, _, _])).pick [2] (by decide) rfl) ?_
          refine p_done ?_
          refine g_n_then ?_
          refine g_seq ?_
          refine g_region ?_
          refine g_val rfl rfl rfl (fun w hh => v_loadAgg (vs := [_, _, _, _, _]) (Try.isAgg29 w) (Try.sizeOf29 w) rfl (hh.cells 2 rfl rfl)) ?_
          refine g_val rfl rfl rfl (fun _ _ => v_move rfl) ?_
          refine g_val rfl rfl rfl (fun w _ => v_fieldAddr 0 (Try.runUnderlying89 w) rfl (Try.sizeOf3 w) rfl) ?_
          refine g_val rfl rfl rfl (fun w hh => v_load (Try.isAgg3 w) rfl (hh.cell 0 rfl rfl)) ?_
          refine g_val rfl rfl rfl (fun w _ => v_fieldAddr 1 (Try.runUnderlying89 w) rfl (Try.sizeOf3 w) rfl) ?_
          refine g_val rfl rfl rfl (fun w hh => v_load (Try.isAgg3 w) rfl (hh.cell 0 rfl rfl)) ?_
          refine g_val rfl rfl rfl (fun _ _ => v_move rfl) ?_
          refine g_callv rfl rfl rfl rfl rfl rfl rfl (fun a w => Try.call29 a w) (fun w hh => c_wet gr gs gc _ _ tr L w (hB.at hh 2 rfl rfl rfl) hG hgr (hh.seg 1 rfl) hdy hpl htr) ?_
          refine g_val rfl rfl rfl (fun w _ => v_fieldAddr 2 (Try.runUnderlying89 w) rfl (Try.sizeOf4 w) rfl) ?_
          refine g_storeAt (cs' := #[_, _, _]) (own' := (_ :: _)) 0 (fun w => Try.sizeOf4 w) rfl rfl rfl rfl rfl rfl rfl ?_
          refine g_nil ?_
          refine g_n_then ?_
          refine g_region ?_
          refine g_val rfl rfl rfl (fun _ _ => v_move rfl) ?_
          refine g_val rfl rfl rfl (fun w hh => v_loadAgg (vs := [_, _, _]) (Try.isAgg89 w) (Try.sizeOf89 w) rfl (hh.cells 0 rfl rfl)) ?_
          refine g_buildSlice (vs := [(0, _)]) (cells := [_, _, _]) (fun w => Try.runUnderlying35 w) (fun w => Try.sizeOf89 w) (fun w => Try.zeroValue89 w) rfl rfl rfl rfl rfl (fun b21 hb21 => ?_)
          refine g_appendM [_, _, _, _] (news := [_, _, _]) (xs := (flat encL lk)) (sp := sp) (q := q) Try.underlying35 inf89 rfl rfl rfl hI0.2.2.1 (by simp) (by decide) rfl (fun w hh => hh.ownSeg 0 rfl) (ones_all rfl) (by simp only [maxLen]; omega) (by omega) rfl (fun q22 cap23 sp24 hv25 => ?_)
          rw [show flat encL lk ++ [.int .i64 n19.1, .int .i64 n20.1, .bool (decide (gs.getD (n20.1).toNat 0 < heightF L.S (n19.1) + tr))] = (flat encL (lk ++ [⟨n19.1, n20.1, decide (gs.getD (n20.1).toNat 0 < heightF L.S (n19.1) + tr)⟩])) from flat_snoc (enc := encL) (x := ⟨n19.1, n20.1, decide (gs.getD (n20.1).toNat 0 < heightF L.S (n19.1) + tr)⟩)] at hv25 ⊢
          refine g_val rfl rfl rfl (fun _ _ => v_assign rfl) ?_
          refine g_nil ?_
          refine g_n_blk ?_
          refine g_n_then ?_
          refine g_region ?_
          refine g_val rfl rfl rfl (fun _ _ => v_add rfl rfl (wrap_i64 (by omega))) ?_
          refine g_val rfl rfl rfl (fun _ _ => v_move rfl) ?_
          refine g_nil ?_
          refine g_n_then ?_
          exact g_againV (pre := [_, _, _, _]) (i := ⟨k, hp, lk, sp, q, vc⟩) (k + 1, n20.2, lk ++ [⟨n19.1, n20.1, decide (gs.getD (n20.1).toNat 0 < heightF L.S (n19.1) + tr)⟩], sp24, (some q22), cap23) [2, 3] ((.cons rfl (.cons rfl (.cons rfl (.cons rfl (.cons rfl (.cons rfl (.cons rfl .nil)))))))) (by decide) rfl rfl (⟨by omega, by assumption, hv25, fun x hx => by rcases List.mem_append.1 hx with h | h; exact hI0.2.2.2 x h; simp only [List.mem_singleton] at h; subst h; exact ⟨⟨hdy, isPlace_iff.2 (by simp only; omega)⟩, rfl⟩⟩) (by simp only; omega)
        exact p_nil
      refine p_alt rfl ?_ ?_
      · refine g_alloc (fun w => Try.zeroValue89 w) rfl (fun b26 hb26 => ?_)
        refine p_next (fun w hh => ((hh).head (A := [_, _, _])).pick [2] (by decide) rfl) ?_
        refine p_one rfl ?_
        refine g_callv rfl rfl rfl rfl rfl rfl rfl (fun a w => Try.call27 a w) (fun w hh => c_last L w (hB.at hh 2 rfl rfl rfl) (by omega)) ?_
        refine p_next (fun w hh => ((hh).head (A := [_, _, _])).pick [2] (by decide) rfl) ?_
        refine p_one rfl ?_
        refine g_callU (ι := Int × (Int × Int)) (p := fun i => ((firstM L.S) ≤ i.1 ∧ i.1 ≤ max (firstM L.S) (lastM L.S)) ∧ hok l.length i.2) (ob' := fun i => hobj r l.length cap i.2) (ret := fun i => .int .i64 i.1) 1 rfl rfl rfl rfl rfl rfl rfl (fun a w => Try.call20 a w) rfl (fun _ => rfl) (fun w hh => (c_From b r l cap _ (firstM L.S) (lastM L.S) w (hh.get 1 rfl) (hh.seg 0 rfl) hne hr hl (by assumption) (by omega)).mono (by rintro en w' ⟨n, q, rfl, hn, hq, hx, hb'⟩; exact ⟨(n, q), rfl, ⟨hn, hq⟩, hx, hb'⟩)) (fun n27 hhn27 => ?_)
        have hn27 := hhn27.1
        have hqn27 := hhn27.2
        refine p_next (fun w hh => ((hh).head (A := [_, _, _])).pick [2] (by decide) rfl) ?_
        refine p_one rfl ?_
        refine g_callU (ι := Int × (Int × Int)) (p := fun i => (0 ≤ i.1 ∧ i.1 ≤ max 0 ((L.S.floors.length : Int) - 1)) ∧ hok l.length i.2) (ob' := fun i => hobj r l.length cap i.2) (ret := fun i => .int .i64 i.1) 1 rfl rfl rfl rfl rfl rfl rfl (fun a w => Try.call64 a w) rfl (fun _ => rfl) (fun w hh => (c_Upto b r l cap _ ((L.S.floors.length : Int) - 1) w (hh.get 1 rfl) (hh.seg 0 rfl) hne hr hl (by assumption) (by omega)).mono (by rintro en w' ⟨n, q, rfl, hn, hq, hx, hb'⟩; exact ⟨(n, q), rfl, ⟨hn, hq⟩, hx, hb'⟩)) (fun n28 hhn28 => ?_)
        have hn28 := hhn28.1
        have hqn28 := hhn28.2
        refine p_next (fun w hh => ((hh).head (A := [_, _, _])).pick [2] (by decide) rfl) ?_
        refine p_free rfl rfl rfl rfl (fun _ _ => v_build (vs := [(0, _), (1, _)]) (cells := [_, _, _]) rfl rfl) ?_
        refine p_one rfl ?_
        have hdy : dayF L.S n27.1 = true := day_of (by omega)
        have hpl : 0 ≤ n28.1 ∧ n28.1 < gs.length := by omega
        refine g_storeAgg (vs := #[_, _, _]) (own' := (_ :: _)) 0 (fun w => Try.sizeOf89 w) rfl rfl rfl rfl rfl rfl ?_
        refine p_next (fun w hh => ((hh).head (A := [_, _, _])).pick [2] (by decide) rfl) ?_
        refine p_done ?_
        refine g_n_then ?_
        refine g_seq ?_
        refine g_region ?_
        refine g_val rfl rfl rfl (fun w hh => v_loadAgg (vs := [_, _, _, _, _]) (Try.isAgg29 w) (Try.sizeOf29 w) rfl (hh.cells 2 rfl rfl)) ?_
        refine g_val rfl rfl rfl (fun _ _ => v_move rfl) ?_
        refine g_val rfl rfl rfl (fun w _ => v_fieldAddr 0 (Try.runUnderlying89 w) rfl (Try.sizeOf3 w) rfl) ?_
        refine g_val rfl rfl rfl (fun w hh => v_load (Try.isAgg3 w) rfl (hh.cell 0 rfl rfl)) ?_
        refine g_val rfl rfl rfl (fun w _ => v_fieldAddr 1 (Try.runUnderlying89 w) rfl (Try.sizeOf3 w) rfl) ?_
        refine g_val rfl rfl rfl (fun w hh => v_load (Try.isAgg3 w) rfl (hh.cell 0 rfl rfl)) ?_
        refine g_val rfl rfl rfl (fun _ _ => v_move rfl) ?_
        refine g_callv rfl rfl rfl rfl rfl rfl rfl (fun a w => Try.call29 a w) (fun w hh => c_wet gr gs gc _ _ tr L w (hB.at hh 2 rfl rfl rfl) hG hgr (hh.seg 1 rfl) hdy hpl htr) ?_
        refine g_val rfl rfl rfl (fun w _ => v_fieldAddr 2 (Try.runUnderlying89 w) rfl (Try.sizeOf4 w) rfl) ?_
        refine g_storeAt (cs' := #[_, _, _]) (own' := (_ :: _)) 0 (fun w => Try.sizeOf4 w) rfl rfl rfl rfl rfl rfl rfl ?_
        refine g_nil ?_
        refine g_n_then ?_
        refine g_region ?_
        refine g_val rfl rfl rfl (fun _ _ => v_move rfl) ?_
        refine g_val rfl rfl rfl (fun w hh => v_loadAgg (vs := [_, _, _]) (Try.isAgg89 w) (Try.sizeOf89 w) rfl (hh.cells 0 rfl rfl)) ?_
        refine g_buildSlice (vs := [(0, _)]) (cells := [_, _, _]) (fun w => Try.runUnderlying35 w) (fun w => Try.sizeOf89 w) (fun w => Try.zeroValue89 w) rfl rfl rfl rfl rfl (fun b29 hb29 => ?_)
        refine g_appendM [_, _, _, _] (news := [_, _, _]) (xs := (flat encL lk)) (sp := sp) (q := q) Try.underlying35 inf89 rfl rfl rfl hI0.2.2.1 (by simp) (by decide) rfl (fun w hh => hh.ownSeg 0 rfl) (ones_all rfl) (by simp only [maxLen]; omega) (by omega) rfl (fun q30 cap31 sp32 hv33 => ?_)
        rw [show flat encL lk ++ [.int .i64 n27.1, .int .i64 n28.1, .bool (decide (gs.getD (n28.1).toNat 0 < heightF L.S (n27.1) + tr))] = (flat encL (lk ++ [⟨n27.1, n28.1, decide (gs.getD (n28.1).toNat 0 < heightF L.S (n27.1) + tr)⟩])) from flat_snoc (enc := encL) (x := ⟨n27.1, n28.1, decide (gs.getD (n28.1).toNat 0 < heightF L.S (n27.1) + tr)⟩)] at hv33 ⊢
        refine g_val rfl rfl rfl (fun _ _ => v_assign rfl) ?_
        refine g_nil ?_
        refine g_n_blk ?_
        refine g_n_then ?_
        refine g_region ?_
        refine g_val rfl rfl rfl (fun _ _ => v_add rfl rfl (wrap_i64 (by omega))) ?_
        refine g_val rfl rfl rfl (fun _ _ => v_move rfl) ?_
        refine g_nil ?_
        refine g_n_then ?_
        exact g_againV (pre := [_, _, _, _]) (i := ⟨k, hp, lk, sp, q, vc⟩) (k + 1, n28.2, lk ++ [⟨n27.1, n28.1, decide (gs.getD (n28.1).toNat 0 < heightF L.S (n27.1) + tr)⟩], sp32, (some q30), cap31) [2, 3] ((.cons rfl (.cons rfl (.cons rfl (.cons rfl (.cons rfl (.cons rfl (.cons rfl .nil)))))))) (by decide) rfl rfl (⟨by omega, by assumption, hv33, fun x hx => by rcases List.mem_append.1 hx with h | h; exact hI0.2.2.2 x h; simp only [List.mem_singleton] at h; subst h; exact ⟨⟨hdy, isPlace_iff.2 (by simp only; omega)⟩, rfl⟩⟩) (by simp only; omega)
      exact p_nil
    refine p_alt rfl ?_ ?_
    · refine g_alloc (fun w => Try.zeroValue89 w) rfl (fun b34 hb34 => ?_)
      refine p_next (fun w hh => ((hh).head (A := [_, _, _])).pick [2] (by decide) rfl) ?_
      refine p_one rfl ?_
      refine g_callv rfl rfl rfl rfl rfl rfl rfl (fun a w => Try.call26 a w) (fun w hh => c_first L w (hB.at hh 2 rfl rfl rfl) (by omega)) ?_
      refine p_next (fun w hh => ((hh).head (A := [_, _, _])).pick [2] (by decide) rfl) ?_
      refine p_one rfl ?_
      refine g_callv rfl rfl rfl rfl rfl rfl rfl (fun a w => Try.call27 a w) (fun w hh => c_last L w (hB.at hh 2 rfl rfl rfl) (by omega)) ?_
      refine p_next (fun w hh => ((hh).head (A := [_, _, _])).pick [2] (by decide) rfl) ?_
      refine p_one rfl ?_
      refine g_callU (ι := Int × (Int × Int)) (p := fun i => ((firstM L.S) ≤ i.1 ∧ i.1 ≤ max (firstM L.S) (lastM L.S)) ∧ hok l.length i.2) (ob' := fun i => hobj r l.length cap i.2) (ret := fun i => .int .i64 i.1) 1 rfl rfl rfl rfl rfl rfl rfl (fun a w => Try.call20 a w) rfl (fun _ => rfl) (fun w hh => (c_From b r l cap _ (firstM L.S) (lastM L.S) w (hh.get 1 rfl) (hh.seg 0 rfl) hne hr hl (by assumption) (by omega)).mono (by rintro en w' ⟨n, q, rfl, hn, hq, hx, hb'⟩; exact ⟨(n, q), rfl, ⟨hn, hq⟩, hx, hb'⟩)) (fun n35 hhn35 => ?_)
      have hn35 := hhn35.1
      have hqn35 := hhn35.2
      refine p_next (fun w hh => ((hh).head (A := [_, _, _])).pick [2] (by decide) rfl) ?_
      refine p_one rfl ?_
      refine g_callU (ι := Int × (Int × Int)) (p := fun i => (0 ≤ i.1 ∧ i.1 ≤ max 0 ((L.S.floors.length : Int) - 1)) ∧ hok l.length i.2) (ob' := fun i => hobj r l.length cap i.2) (ret := fun i => .int .i64 i.1) 1 rfl rfl rfl rfl rfl rfl rfl (fun a w => Try.call64 a w) rfl (fun _ => rfl) (fun w hh => (c_Upto b r l cap _ ((L.S.floors.length : Int) - 1) w (hh.get 1 rfl) (hh.seg 0 rfl) hne hr hl (by assumption) (by omega)).mono (by rintro en w' ⟨n, q, rfl, hn, hq, hx, hb'⟩; exact ⟨(n, q), rfl, ⟨hn, hq⟩, hx, hb'⟩)) (fun n36 hhn36 => ?_)
      have hn36 := hhn36.1
      have hqn36 := hhn36.2
      refine p_next (fun w hh => ((hh).head (A := [_, _, _])).pick [2] (by decide) rfl) ?_
      refine p_free rfl rfl rfl rfl (fun _ _ => v_build (vs := [(0, _), (1, _)]) (cells := [_, _, _]) rfl rfl) ?_
      refine p_one rfl ?_
      have hdy : dayF L.S n35.1 = true := day_of (by omega)
      have hpl : 0 ≤ n36.1 ∧ n36.1 < gs.length := by omega
      refine g_storeAgg (vs := #[_, _, _]) (own' := (_ :: _)) 0 (fun w => Try.sizeOf89 w) rfl rfl rfl rfl rfl rfl ?_
      refine p_next (fun w hh => ((hh).head (A := [_, _, _])).pick [2] (by decide) rfl) ?_
      refine p_done ?_
      refine g_n_then ?_
      refine g_seq ?_
      refine g_region ?_
      refine g_val rfl rfl rfl (fun w hh => v_loadAgg (vs := [_, _, _, _, _]) (Try.isAgg29 w) (Try.sizeOf29 w) rfl (hh.cells 2 rfl rfl)) ?_
      refine g_val rfl rfl rfl (fun _ _ => v_move rfl) ?_
      refine g_val rfl rfl rfl (fun w _ => v_fieldAddr 0 (Try.runUnderlying89 w) rfl (Try.sizeOf3 w) rfl) ?_
      refine g_val rfl rfl rfl (fun w hh => v_load (Try.isAgg3 w) rfl (hh.cell 0 rfl rfl)) ?_
      refine g_val rfl rfl rfl (fun w _ => v_fieldAddr 1 (Try.runUnderlying89 w) rfl (Try.sizeOf3 w) rfl) ?_
      refine g_val rfl rfl rfl (fun w hh => v_load (Try.isAgg3 w) rfl (hh.cell 0 rfl rfl)) ?_
      refine g_val rfl rfl rfl (fun _ _ => v_move rfl) ?_
      refine g_callv rfl rfl rfl rfl rfl rfl rfl (fun a w => Try.call29 a w) (fun w hh => c_wet gr gs gc _ _ tr L w (hB.at hh 2 rfl rfl rfl) hG hgr (hh.seg 1 rfl) hdy hpl htr) ?_
      refine g_val rfl rfl rfl (fun w _ => v_fieldAddr 2 (Try.runUnderlying89 w) rfl (Try.sizeOf4 w) rfl) ?_
      refine g_storeAt (cs' := #[_, _, _]) (own' := (_ :: _)) 0 (fun w => Try.sizeOf4 w) rfl rfl rfl rfl rfl rfl rfl ?_
      refine g_nil ?_
      refine g_n_then ?_
      refine g_region ?_
      refine g_val rfl rfl rfl (fun _ _ => v_move rfl) ?_
      refine g_val rfl rfl rfl (fun w hh => v_loadAgg (vs := [_, _, _]) (Try.isAgg89 w) (Try.sizeOf89 w) rfl (hh.cells 0 rfl rfl)) ?_
      refine g_buildSlice (vs := [(0, _)]) (cells := [_, _, _]) (fun w => Try.runUnderlying35 w) (fun w => Try.sizeOf89 w) (fun w => Try.zeroValue89 w) rfl rfl rfl rfl rfl (fun b37 hb37 => ?_)
      refine g_appendM [_, _, _, _] (news := [_, _, _]) (xs := (flat encL lk)) (sp := sp) (q := q) Try.underlying35 inf89 rfl rfl rfl hI0.2.2.1 (by simp) (by decide) rfl (fun w hh => hh.ownSeg 0 rfl) (ones_all rfl) (by simp only [maxLen]; omega) (by omega) rfl (fun q38 cap39 sp40 hv41 => ?_)
      rw [show flat encL lk ++ [.int .i64 n35.1, .int .i64 n36.1, .bool (decide (gs.getD (n36.1).toNat 0 < heightF L.S (n35.1) + tr))] = (flat encL (lk ++ [⟨n35.1, n36.1, decide (gs.getD (n36.1).toNat 0 < heightF L.S (n35.1) + tr)⟩])) from flat_snoc (enc := encL) (x := ⟨n35.1, n36.1, decide (gs.getD (n36.1).toNat 0 < heightF L.S (n35.1) + tr)⟩)] at hv41 ⊢
      refine g_val rfl rfl rfl (fun _ _ => v_assign rfl) ?_
      refine g_nil ?_
      refine g_n_blk ?_
      refine g_n_then ?_
      refine g_region ?_
      refine g_val rfl rfl rfl (fun _ _ => v_add rfl rfl (wrap_i64 (by omega))) ?_
      refine g_val rfl rfl rfl (fun _ _ => v_move rfl) ?_
      refine g_nil ?_
      refine g_n_then ?_
      exact g_againV (pre := [_, _, _, _]) (i := ⟨k, hp, lk, sp, q, vc⟩) (k + 1, n36.2, lk ++ [⟨n35.1, n36.1, decide (gs.getD (n36.1).toNat 0 < heightF L.S (n35.1) + tr)⟩], sp40, (some q38), cap39) [2, 3] ((.cons rfl (.cons rfl (.cons rfl (.cons rfl (.cons rfl (.cons rfl (.cons rfl .nil)))))))) (by decide) rfl rfl (⟨by omega, by assumption, hv41, fun x hx => by rcases List.mem_append.1 hx with h | h; exact hI0.2.2.2 x h; simp only [List.mem_singleton] at h; subst h; exact ⟨⟨hdy, isPlace_iff.2 (by simp only; omega)⟩, rfl⟩⟩) (by simp only; omega)
    exact p_nil
  · replace h17 := of_decide_eq_false h17
    refine g_exit ?_
    refine g_x_then ?_
    refine g_x_then ?_
    refine g_x_blk ?_
    refine g_n_then ?_
    refine g_seq ?_
    refine g_region ?_
    refine g_val rfl rfl rfl (fun _ _ => v_move rfl) ?_
    refine g_val rfl rfl rfl (fun _ _ => v_assign rfl) ?_
    refine g_nil ?_
    refine g_n_then ?_
    refine g_ret ?_
    have ek : (k : Int) = n2.1 := by omega
    have hkl := vok_len encL_len (by decide) hI0.2.2.1
    refine g_done rfl (fun w hh => (.tmp rfl .nil)) (fun w hh => ⟨(lk, q, vc, hp), by rw [hkl]; rfl, ⟨by simp only; omega, hI0.2.2.2, by rw [hkl]; exact hI0.2.2.1.sl, hI0.2.1⟩, HS.updVec (A := [_, _]) 0 rfl hbs hh hI0.2.2.1.hoff hI0.2.2.1.noneNil⟩)

end Go.Proofs

namespace Go.Proofs
open Go Go.Fw Go.Pl
set_option maxRecDepth 100000 in
set_option maxHeartbeats 4000000 in
theorem c_lawgates (L : LS) (w : World) (hL : L.OK w) (hG : Good L.S) : Calls Try.prog 21 #[L.val] w (fun en w' => ∃ q cap, en = .returned (slv q (lawGates L.S).length cap) ∧ SlOK q (lawGates L.S).length cap ∧ News w w' [(bk q, off q, ints (lawGates L.S))]) := by
  have hlt := hL.tl
  have hlf := hL.fl
  have hls := hL.sl
  have hfl8 := hG.fl
  have htl12 := hG.tl
  have hsl16 := hG.sl
  refine g_enter (args := [L.val]) Try.func21 rfl Try.ntmps21 rfl (e := [(0, _)]) rfl (HS.start w [] L.segs hL.segs) ?_
  refine g_seq ?_
  refine g_region ?_
  refine g_box rfl rfl (fun b1 hb1 => ?_)
  refine g_val rfl rfl rfl (fun _ _ => v_nilSlice rfl rfl) ?_
  refine g_nil ?_
  refine g_n_then ?_
  refine g_seq ?_
  refine g_region ?_
  refine g_val rfl rfl rfl (fun w _ => v_fieldAddr 3 (Try.runUnderlying29 w) rfl (Try.sizeOf26 w) rfl) ?_
  refine g_val rfl rfl rfl (fun w hh => v_load (Try.isAgg26 w) rfl (hh.cell 0 rfl rfl)) ?_
  refine g_val rfl rfl rfl (fun w _ => v_lenS (Try.runUnderlying26 w) rfl) ?_
  refine g_makeInts (l := L.S.floors.length) (c := L.S.floors.length) Try.underlying26 inf3 rfl rfl rfl rfl (Nat.le_refl _) (by omega) rfl (fun bo hbo => ?_)
  rw [rep_ints]
  refine g_val rfl rfl rfl (fun _ _ => v_assign rfl) ?_
  refine g_nil ?_
  refine g_n_then ?_
  refine g_seq ?_
  refine g_seq ?_
  refine g_region ?_
  refine g_val rfl rfl rfl (fun _ _ => v_move rfl) ?_
  refine g_val rfl rfl rfl (fun w _ => v_lenS (Try.runUnderlying26 w) rfl) ?_
  refine g_val rfl rfl rfl (fun _ _ => v_move rfl) ?_
  refine g_nil ?_
  refine g_n_then ?_
  refine g_block ?_
  refine g_sub (e' := [(16, _), (1, _), (3, _), (15, _)]) ((.cons rfl (.cons rfl (.cons rfl (.cons rfl .nil))))) ?_
  refine g_loopM (ι := Nat) (fun k => [(16, .int .i64 (k : Nat))]) (fun k => [(bo, .cells (ints (initO L.S.floors.length k)).toArray 3 (0, 0))]) (fun k => k ≤ L.S.floors.length) (fun k => L.S.floors.length - k) 0 (Nat.zero_le _) ?_
  intro k hI0
  have hgl := initO_length (n := L.S.floors.length) (k := k)
  refine g_seq ?_
  refine g_region ?_
  refine g_val rfl rfl rfl (fun _ _ => v_lss rfl rfl) ?_
  refine g_nil ?_
  refine g_n_then ?_
  refine g_seq ?_
  refine g_cond rfl (fun h17 => ?_) (fun h17 => ?_)
  · replace h17 := of_decide_eq_true h17
    refine g_skip ?_
    refine g_n_then ?_
    refine g_seq ?_
    refine g_block ?_
    refine g_seq ?_
    refine g_region ?_
    refine g_val rfl rfl rfl (fun _ _ => v_move rfl) ?_
    refine g_val rfl rfl rfl (fun _ _ => v_assign rfl) ?_
    refine g_nil ?_
    refine g_n_then ?_
    refine g_region ?_
    refine g_val rfl rfl rfl (fun _ _ => v_move rfl) ?_
    refine g_val rfl rfl rfl (fun _ _ => v_move rfl) ?_
    refine g_val rfl rfl rfl (fun w _ => v_indexAddr1 k (Try.runUnderlying26 w) (Try.sizeOf3 w) rfl rfl rfl (by omega) (by simp)) ?_
    refine g_storeAt (own' := (_ :: _)) 0 (fun w => Try.sizeOf3 w) rfl rfl rfl rfl (ints_lt (by omega)) ints_set0 rfl ?_
    refine g_nil ?_
    refine g_n_blk ?_
    refine g_n_then ?_
    refine g_region ?_
    refine g_val rfl rfl rfl (fun _ _ => v_add rfl rfl (wrap_i64 (by omega))) ?_
    refine g_val rfl rfl rfl (fun _ _ => v_move rfl) ?_
    refine g_nil ?_
    refine g_n_then ?_
    rw [initO_set (by omega)]
    exact g_againM (i := k) (k + 1) [0, 1] ((.cons rfl (.cons rfl (.cons rfl (.cons rfl .nil))))) (by decide) rfl (by omega) (by omega)
  · replace h17 := of_decide_eq_false h17
    have ek : k = L.S.floors.length := by omega
    subst ek
    refine g_exit ?_
    refine g_x_then ?_
    refine g_x_then ?_
    refine g_x_blk ?_
    refine g_n_then ?_
    refine g_seq ?_
    refine g_seq ?_
    refine g_region ?_
    refine g_val rfl rfl rfl (fun _ _ => v_move rfl) ?_
    refine g_nil ?_
    refine g_n_then ?_
    refine g_block ?_
    refine g_sub (e' := [(23, _), (1, _), (3, _)]) ((.cons rfl (.cons rfl (.cons rfl .nil)))) ?_
    refine g_loopM (ι := Nat) (fun h => [(23, .int .i64 (h : Nat))]) (fun h => [(bo, .cells (ints (heightN L.S (initO L.S.floors.length L.S.floors.length) h)).toArray 3 (0, 0))]) (fun h => h ≤ 61) (fun h => 61 - h) 0 (Nat.zero_le _) ?_
    intro h hI2
    refine g_seq ?_
    refine g_region ?_
    refine g_val rfl rfl rfl (fun _ _ => v_lss rfl rfl) ?_
    refine g_nil ?_
    refine g_n_then ?_
    refine g_seq ?_
    refine g_cond rfl (fun h24 => ?_) (fun h24 => ?_)
    · replace h24 := of_decide_eq_true h24
      refine g_skip ?_
      refine g_n_then ?_
      refine g_seq ?_
      refine g_block ?_
      refine g_seq ?_
      refine g_region ?_
      refine g_val rfl rfl rfl (fun _ _ => v_move rfl) ?_
      refine g_val rfl rfl rfl (fun _ _ => v_assign rfl) ?_
      refine g_nil ?_
      refine g_n_then ?_
      refine g_seq ?_
      refine g_seq ?_
      refine g_region ?_
      refine g_val rfl rfl rfl (fun w _ => v_fieldAddr 3 (Try.runUnderlying29 w) rfl (Try.sizeOf26 w) rfl) ?_
      refine g_val rfl rfl rfl (fun w hh => v_load (Try.isAgg26 w) rfl (hh.cell 1 rfl rfl)) ?_
      refine g_val rfl rfl rfl (fun w _ => v_lenS (Try.runUnderlying26 w) rfl) ?_
      refine g_val rfl rfl rfl (fun _ _ => v_move rfl) ?_
      refine g_nil ?_
      refine g_n_then ?_
      refine g_block ?_
      refine g_sub (e' := [(29, _), (1, _), (3, _), (5, _), (23, _), (28, _)]) ((.cons rfl (.cons rfl (.cons rfl (.cons rfl (.cons rfl (.cons rfl .nil))))))) ?_
      refine g_loopM (ι := Nat) (fun r => [(29, .int .i64 (r : Nat))]) (fun r => [(bo, .cells (ints (roundsN L.S (h : Nat) (heightN L.S (initO L.S.floors.length L.S.floors.length) h) r)).toArray 3 (0, 0))]) (fun r => r ≤ L.S.floors.length) (fun r => L.S.floors.length - r) 0 (Nat.zero_le _) ?_
      intro r hI4
      refine g_seq ?_
      refine g_region ?_
      refine g_val rfl rfl rfl (fun _ _ => v_lss rfl rfl) ?_
      refine g_nil ?_
      refine g_n_then ?_
      refine g_seq ?_
      refine g_cond rfl (fun h30 => ?_) (fun h30 => ?_)
      · replace h30 := of_decide_eq_true h30
        refine g_skip ?_
        refine g_n_then ?_
        refine g_seq ?_
        refine g_block ?_
        refine g_seq ?_
        refine g_region ?_
        refine g_val rfl rfl rfl (fun w _ => v_fieldAddr 4 (Try.runUnderlying29 w) rfl (Try.sizeOf27 w) rfl) ?_
        refine g_val rfl rfl rfl (fun w hh => v_load (Try.isAgg27 w) rfl (hh.cell 1 rfl rfl)) ?_
        refine g_val rfl rfl rfl (fun w _ => v_lenS (Try.runUnderlying27 w) rfl) ?_
        refine g_val rfl rfl rfl (fun _ _ => v_move rfl) ?_
        refine g_nil ?_
        refine g_n_then ?_
        refine g_block ?_
        refine g_sub (e' := [(34, _), (1, _), (3, _), (5, _), (23, _), (28, _), (29, _), (32, _), (33, _)]) ((.cons rfl (.cons rfl (.cons rfl (.cons rfl (.cons rfl (.cons rfl (.cons rfl (.cons rfl (.cons rfl .nil)))))))))) ?_
        refine g_loopM (ι := Nat) (fun k => [(34, .int .i64 (k : Nat))]) (fun k => [(bo, .cells (ints (sillN L.S (h : Nat) (roundsN L.S (h : Nat) (heightN L.S (initO L.S.floors.length L.S.floors.length) h) r) k)).toArray 3 (0, 0))]) (fun k => k ≤ L.S.sills.length) (fun k => L.S.sills.length - k) 0 (Nat.zero_le _) ?_
        intro k hI6
        refine g_seq ?_
        refine g_region ?_
        refine g_val rfl rfl rfl (fun _ _ => v_lss rfl rfl) ?_
        refine g_nil ?_
        refine g_n_then ?_
        refine g_seq ?_
        refine g_cond rfl (fun h35 => ?_) (fun h35 => ?_)
        · replace h35 := of_decide_eq_true h35
          refine g_skip ?_
          refine g_n_then ?_
          refine g_seq ?_
          refine g_block ?_
          refine g_seq ?_
          refine g_region ?_
          refine g_val rfl rfl rfl (fun w _ => v_indexAddr k (Try.runUnderlying27 w) (Try.sizeOf51 w) rfl rfl rfl (by omega) (hL.s0 (by omega))) ?_
          refine g_val rfl rfl rfl (fun w hh => v_loadAgg (vs := encS _) (Try.isAgg51 w) (Try.sizeOf51 w) rfl (hh.elem (j := k) encS_len 2 rfl (by omega))) ?_
          refine g_alloc (fun w => Try.zeroValue51 w) rfl (fun b2 hb2 => ?_)
          refine g_storeAgg (vs := #[_, _, _]) (own' := (_ :: _)) 0 (fun w => Try.sizeOf51 w) rfl rfl rfl rfl rfl rfl ?_
          refine g_nil ?_
          refine g_n_then ?_
          refine g_seq ?_
          refine g_region ?_
          refine g_val rfl rfl rfl (fun w hh => v_loadAgg (vs := [_, _, _]) (Try.isAgg51 w) (Try.sizeOf51 w) rfl (hh.cells 0 rfl rfl)) ?_
          refine g_val rfl rfl rfl (fun w _ => v_fieldAddr 1 (Try.runUnderlying51 w) rfl (Try.sizeOf3 w) rfl) ?_
          refine g_val rfl rfl rfl (fun w hh => v_load (Try.isAgg3 w) rfl (hh.cell 0 rfl rfl)) ?_
          refine g_val rfl rfl rfl (fun w _ => v_fieldAddr 0 (Try.runUnderlying51 w) rfl (Try.sizeOf3 w) rfl) ?_
          refine g_val rfl rfl rfl (fun w hh => v_load (Try.isAgg3 w) rfl (hh.cell 0 rfl rfl)) ?_
          refine g_val rfl rfl rfl (fun w _ => v_fieldAddr 2 (Try.runUnderlying51 w) rfl (Try.sizeOf3 w) rfl) ?_
          refine g_val rfl rfl rfl (fun w hh => v_load (Try.isAgg3 w) rfl (hh.cell 0 rfl rfl)) ?_
          refine g_val rfl rfl rfl (fun _ _ => v_build (vs := [(0, _), (1, _), (2, _)]) (cells := [_, _, _]) rfl rfl) ?_
          refine g_buildSlice (vs := [(0, _), (1, _)]) (cells := [_, _, _, _, _, _]) (fun w => Try.runUnderlying27 w) (fun w => Try.sizeOf51 w) (fun w => Try.zeroValue51 w) rfl rfl rfl rfl rfl (fun b3 hb3 => ?_)
          refine g_val rfl rfl rfl (fun w _ => v_lenS (Try.runUnderlying27 w) rfl) ?_
          refine g_val rfl rfl rfl (fun _ _ => v_move rfl) ?_
          refine g_nil ?_
          refine g_n_then ?_
          refine g_block ?_
          refine g_sub (e' := [(48, _), (1, _), (3, _), (5, _), (23, _), (28, _), (29, _), (32, _), (33, _), (34, _), (46, _), (47, _)]) ((.cons rfl (.cons rfl (.cons rfl (.cons rfl (.cons rfl (.cons rfl (.cons rfl (.cons rfl (.cons rfl (.cons rfl (.cons rfl (.cons rfl .nil))))))))))))) ?_
          refine g_pick (own' := [_, _, _, _]) [2, 0, 1, 3] (by decide) rfl ?_
          refine g_loopM (ι := Nat) (fun d => [(48, .int .i64 (d : Nat))]) (fun d => [(bo, .cells (ints (dirN L.S (h : Nat) (sillN L.S (h : Nat) (roundsN L.S (h : Nat) (heightN L.S (initO L.S.floors.length L.S.floors.length) h) r) k) (L.S.sills.getD k default) d)).toArray 3 (0, 0))]) (fun d => d ≤ 2) (fun d => 2 - d) 0 (Nat.zero_le _) ?_
          intro d hI8
          have hgl : (dirN L.S (h : Nat) (sillN L.S (h : Nat) (roundsN L.S (h : Nat) (heightN L.S (initO L.S.floors.length L.S.floors.length) h) r) k) (L.S.sills.getD k default) d).length = L.S.floors.length := by rw [dirN_length, sillN_length, roundsN_length, heightN_length, initO_length]
          refine g_seq ?_
          refine g_region ?_
          refine g_val rfl rfl rfl (fun _ _ => v_lss rfl rfl) ?_
          refine g_nil ?_
          refine g_n_then ?_
          refine g_seq ?_
          refine g_cond rfl (fun h49 => ?_) (fun h49 => ?_)
          · replace h49 := of_decide_eq_true h49
            have hd2 : d < 2 := by omega
            have hbe := both_ends hG (k := k) (by omega) hd2
            refine g_skip ?_
            refine g_n_then ?_
            refine g_seq ?_
            refine g_block ?_
            refine g_seq ?_
            refine g_region ?_
            refine g_val rfl rfl rfl (fun w _ => v_indexAddr d (Try.runUnderlying27 w) (Try.sizeOf51 w) rfl rfl rfl (by omega) (by simp)) ?_
            refine g_val rfl rfl rfl (fun w hh => v_loadAgg (vs := encS _) (Try.isAgg51 w) (Try.sizeOf51 w) rfl (own_elem (enc := encS) (l := (both (L.S.sills.getD k default))) (j := d) encS_len (hh.ownSeg 1 rfl) (by show _ < 2; omega))) ?_
            refine g_alloc (fun w => Try.zeroValue51 w) rfl (fun b4 hb4 => ?_)
            refine g_storeAgg (vs := #[_, _, _]) (own' := (_ :: _)) 0 (fun w => Try.sizeOf51 w) rfl rfl rfl rfl rfl rfl ?_
            refine g_nil ?_
            refine g_n_then ?_
            refine g_seq ?_
            refine g_region ?_
            refine g_val rfl rfl rfl (fun w _ => v_fieldAddr 2 (Try.runUnderlying51 w) rfl (Try.sizeOf3 w) rfl) ?_
            refine g_val rfl rfl rfl (fun w hh => v_load (Try.isAgg3 w) rfl (hh.cell 0 rfl rfl)) ?_
            refine g_val rfl rfl rfl (fun _ _ => v_move rfl) ?_
            refine g_val rfl rfl rfl (fun _ _ => v_leq rfl rfl) ?_
            refine g_val rfl rfl rfl (fun _ _ => v_move rfl) ?_
            refine g_case 56 rfl (fun hg56_6 => ?_) (fun hg56_6 => ?_)
            · replace hg56_6 := of_decide_eq_true hg56_6
              refine g_valG rfl rfl rfl rfl rfl (fun w _ => v_fieldAddr 1 (Try.runUnderlying51 w) rfl (Try.sizeOf3 w) rfl) ?_
              refine g_valG rfl rfl rfl rfl rfl (fun w hh => v_load (Try.isAgg3 w) rfl (hh.cell 0 rfl rfl)) ?_
              refine g_valG rfl rfl rfl rfl rfl (fun _ _ => v_neq rfl rfl) ?_
              refine g_val rfl rfl rfl (fun _ _ => v_pickT rfl rfl) ?_
              refine g_val rfl rfl rfl (fun _ _ => v_move rfl) ?_
              refine g_case 61 rfl (fun hg61_7 => ?_) (fun hg61_7 => ?_)
              · replace hg61_7 := of_ndec_true hg61_7
                refine g_valG rfl rfl rfl rfl rfl (fun w _ => v_fieldAddr 3 (Try.runUnderlying29 w) rfl (Try.sizeOf26 w) rfl) ?_
                refine g_valG rfl rfl rfl rfl rfl (fun w hh => v_load (Try.isAgg26 w) rfl (hh.cell 4 rfl rfl)) ?_
                refine g_valG rfl rfl rfl rfl rfl (fun w _ => v_fieldAddr 1 (Try.runUnderlying51 w) rfl (Try.sizeOf3 w) rfl) ?_
                refine g_valG rfl rfl rfl rfl rfl (fun w hh => v_load (Try.isAgg3 w) rfl (hh.cell 0 rfl rfl)) ?_
                refine g_valG rfl rfl rfl rfl rfl (fun w _ => v_idxI1 (Try.runUnderlying26 w) (Try.sizeOf3 w) rfl rfl (by omega) (by omega) (hL.f0 (by omega))) ?_
                refine g_valG rfl rfl rfl rfl rfl (fun w hh => v_load (Try.isAgg3 w) rfl (hh.int 1 rfl (by omega))) ?_
                refine g_valG rfl rfl rfl rfl rfl (fun _ _ => v_move rfl) ?_
                refine g_valG rfl rfl rfl rfl rfl (fun _ _ => v_leq rfl rfl) ?_
                refine g_val rfl rfl rfl (fun _ _ => v_pickT rfl rfl) ?_
                refine g_val rfl rfl rfl (fun _ _ => v_move rfl) ?_
                refine g_case 71 rfl (fun hg71_8 => ?_) (fun hg71_8 => ?_)
                · replace hg71_8 := of_decide_eq_true hg71_8
                  refine g_valG rfl rfl rfl rfl rfl (fun w _ => v_fieldAddr 0 (Try.runUnderlying51 w) rfl (Try.sizeOf3 w) rfl) ?_
                  refine g_valG rfl rfl rfl rfl rfl (fun w hh => v_load (Try.isAgg3 w) rfl (hh.cell 0 rfl rfl)) ?_
                  refine g_valG rfl rfl rfl rfl rfl (fun _ _ => v_eql rfl rfl) ?_
                  refine g_valG rfl rfl rfl rfl rfl (fun _ _ => v_move rfl) ?_
                  refine g_case 75 rfl (fun hg75_9 => ?_) (fun hg75_9 => ?_)
                  · replace hg75_9 := of_decide_eq_true hg75_9
                    refine g_skipG rfl rfl rfl rfl rfl rfl ?_
                    refine g_skipG rfl rfl rfl rfl rfl rfl ?_
                    refine g_skipG rfl rfl rfl rfl rfl rfl ?_
                    refine g_skipG rfl rfl rfl rfl rfl rfl ?_
                    refine g_skipG rfl rfl rfl rfl rfl rfl ?_
                    refine g_skipG rfl rfl rfl rfl rfl rfl ?_
                    refine g_skipG rfl rfl rfl rfl rfl rfl ?_
                    refine g_valG rfl rfl rfl rfl rfl (fun _ _ => v_pickT rfl rfl) ?_
                    refine g_val rfl rfl rfl (fun _ _ => v_pickT rfl rfl) ?_
                    refine g_nil ?_
                    refine g_n_then ?_
                    refine g_condT rfl rfl ?_
                    refine g_draw (some 11) (.free 0 (.free 1 (.hoist 2 (.free 3 (.free 4 (.hoist 5 (.hoist 6 (.hoist 7 (.free 8 (.free 9 (.hoist 10 (.last 11 .done)))))))))))) _ rfl (by decide +kernel) (fun w k hh => hh.draw k) (fun w hh => hh) ?_
                    refine p_free rfl rfl rfl rfl (fun _ _ => v_move rfl) ?_
                    refine p_free rfl rfl rfl rfl (fun w _ => v_fieldAddr 1 (Try.runUnderlying51 w) rfl (Try.sizeOf3 w) rfl) ?_
                    refine p_hoist rfl rfl rfl rfl (fun w hh => v_load (Try.isAgg3 w) rfl (hh.cell 0 rfl rfl)) ?_
                    refine p_free rfl rfl rfl rfl (fun _ _ => v_move rfl) ?_
                    refine p_free rfl rfl rfl rfl (fun w _ => v_fieldAddr 1 (Try.runUnderlying51 w) rfl (Try.sizeOf3 w) rfl) ?_
                    refine p_hoist rfl rfl rfl rfl (fun w hh => v_load (Try.isAgg3 w) rfl (hh.cell 0 rfl rfl)) ?_
                    refine p_hoist rfl rfl rfl rfl (fun w _ => v_idxI1 (Try.runUnderlying26 w) (Try.sizeOf3 w) rfl rfl (by omega) (by omega) (by simp)) ?_
                    refine p_hoist rfl rfl rfl rfl (fun w hh => v_load (Try.isAgg3 w) rfl (hh.cell 1 rfl (ints_at (by omega)))) ?_
                    refine p_free rfl rfl rfl rfl (fun _ _ => v_move rfl) ?_
                    refine p_free rfl rfl rfl rfl (fun _ _ => v_min rfl rfl) ?_
                    refine p_hoist rfl rfl rfl rfl (fun w _ => v_idxI1 (Try.runUnderlying26 w) (Try.sizeOf3 w) rfl rfl (by omega) (by omega) (by simp)) ?_
                    refine p_last rfl ?_
                    refine g_storeAt (own' := (_ :: _ :: _)) 1 (fun w => Try.sizeOf3 w) rfl rfl rfl rfl (ints_lt (by omega)) ints_set0 rfl ?_
                    refine p_nextL ?_
                    refine p_done ?_
                    refine g_n_blk ?_
                    refine g_n_then ?_
                    refine g_region ?_
                    refine g_val rfl rfl rfl (fun _ _ => v_add rfl rfl (wrap_i64 (by omega))) ?_
                    refine g_val rfl rfl rfl (fun _ _ => v_move rfl) ?_
                    refine g_nil ?_
                    refine g_n_then ?_
                    have e1 : (dirN L.S (h : Nat) (sillN L.S (h : Nat) (roundsN L.S (h : Nat) (heightN L.S (initO L.S.floors.length L.S.floors.length) h) r) k) (L.S.sills.getD k default) (d + 1)) = _ := (dirN_succ hd2).trans (if_pos (show gCond L.S (h : Nat) (dirN L.S (h : Nat) (sillN L.S (h : Nat) (roundsN L.S (h : Nat) (heightN L.S (initO L.S.floors.length L.S.floors.length) h) r) k) (L.S.sills.getD k default) d) ((both (L.S.sills.getD k default)).getD d default) from ⟨by omega, by omega, by omega, by omega⟩))
                    rw [← e1]
                    exact g_againM (i := d) (d + 1) [1, 2, 3, 4] ((.cons rfl (.cons rfl (.cons rfl (.cons rfl (.cons rfl (.cons rfl (.cons rfl (.cons rfl (.cons rfl (.cons rfl (.cons rfl (.cons rfl .nil))))))))))))) (by decide) rfl (by omega) (by omega)
                  · replace hg75_9 := of_decide_eq_false hg75_9
                    refine g_valG rfl rfl rfl rfl rfl (fun _ _ => v_move rfl) ?_
                    refine g_valG rfl rfl rfl rfl rfl (fun w _ => v_fieldAddr 0 (Try.runUnderlying51 w) rfl (Try.sizeOf3 w) rfl) ?_
                    refine g_valG rfl rfl rfl rfl rfl (fun w hh => v_load (Try.isAgg3 w) rfl (hh.cell 0 rfl rfl)) ?_
                    refine g_valG rfl rfl rfl rfl rfl (fun w _ => v_idxI1 (Try.runUnderlying26 w) (Try.sizeOf3 w) rfl rfl (by omega) (by omega) (by simp)) ?_
                    refine g_valG rfl rfl rfl rfl rfl (fun w hh => v_load (Try.isAgg3 w) rfl (hh.cell 1 rfl (ints_at (by omega)))) ?_
                    refine g_valG rfl rfl rfl rfl rfl (fun _ _ => v_move rfl) ?_
                    refine g_valG rfl rfl rfl rfl rfl (fun _ _ => v_leq rfl rfl) ?_
                    refine g_valG rfl rfl rfl rfl rfl (fun _ _ => v_pickF rfl rfl) ?_
                    refine g_val rfl rfl rfl (fun _ _ => v_pickT rfl rfl) ?_
                    refine g_nil ?_
                    refine g_n_then ?_
                    refine g_cond rfl (fun hc84_10 => ?_) (fun hc84_10 => ?_)
                    · replace hc84_10 := of_decide_eq_true hc84_10
                      refine g_draw (some 11) (.free 0 (.free 1 (.hoist 2 (.free 3 (.free 4 (.hoist 5 (.hoist 6 (.hoist 7 (.free 8 (.free 9 (.hoist 10 (.last 11 .done)))))))))))) _ rfl (by decide +kernel) (fun w k hh => hh.draw k) (fun w hh => hh) ?_
                      refine p_free rfl rfl rfl rfl (fun _ _ => v_move rfl) ?_
                      refine p_free rfl rfl rfl rfl (fun w _ => v_fieldAddr 1 (Try.runUnderlying51 w) rfl (Try.sizeOf3 w) rfl) ?_
                      refine p_hoist rfl rfl rfl rfl (fun w hh => v_load (Try.isAgg3 w) rfl (hh.cell 0 rfl rfl)) ?_
                      refine p_free rfl rfl rfl rfl (fun _ _ => v_move rfl) ?_
                      refine p_free rfl rfl rfl rfl (fun w _ => v_fieldAddr 1 (Try.runUnderlying51 w) rfl (Try.sizeOf3 w) rfl) ?_
                      refine p_hoist rfl rfl rfl rfl (fun w hh => v_load (Try.isAgg3 w) rfl (hh.cell 0 rfl rfl)) ?_
                      refine p_hoist rfl rfl rfl rfl (fun w _ => v_idxI1 (Try.runUnderlying26 w) (Try.sizeOf3 w) rfl rfl (by omega) (by omega) (by simp)) ?_
                      refine p_hoist rfl rfl rfl rfl (fun w hh => v_load (Try.isAgg3 w) rfl (hh.cell 1 rfl (ints_at (by omega)))) ?_
                      refine p_free rfl rfl rfl rfl (fun _ _ => v_move rfl) ?_
                      refine p_free rfl rfl rfl rfl (fun _ _ => v_min rfl rfl) ?_
                      refine p_hoist rfl rfl rfl rfl (fun w _ => v_idxI1 (Try.runUnderlying26 w) (Try.sizeOf3 w) rfl rfl (by omega) (by omega) (by simp)) ?_
                      refine p_last rfl ?_
                      refine g_storeAt (own' := (_ :: _ :: _)) 1 (fun w => Try.sizeOf3 w) rfl rfl rfl rfl (ints_lt (by omega)) ints_set0 rfl ?_
                      refine p_nextL ?_
                      refine p_done ?_
                      refine g_n_blk ?_
                      refine g_n_then ?_
                      refine g_region ?_
                      refine g_val rfl rfl rfl (fun _ _ => v_add rfl rfl (wrap_i64 (by omega))) ?_
                      refine g_val rfl rfl rfl (fun _ _ => v_move rfl) ?_
                      refine g_nil ?_
                      refine g_n_then ?_
                      have e1 : (dirN L.S (h : Nat) (sillN L.S (h : Nat) (roundsN L.S (h : Nat) (heightN L.S (initO L.S.floors.length L.S.floors.length) h) r) k) (L.S.sills.getD k default) (d + 1)) = _ := (dirN_succ hd2).trans (if_pos (show gCond L.S (h : Nat) (dirN L.S (h : Nat) (sillN L.S (h : Nat) (roundsN L.S (h : Nat) (heightN L.S (initO L.S.floors.length L.S.floors.length) h) r) k) (L.S.sills.getD k default) d) ((both (L.S.sills.getD k default)).getD d default) from ⟨by omega, by omega, by omega, by omega⟩))
                      rw [← e1]
                      exact g_againM (i := d) (d + 1) [1, 2, 3, 4] ((.cons rfl (.cons rfl (.cons rfl (.cons rfl (.cons rfl (.cons rfl (.cons rfl (.cons rfl (.cons rfl (.cons rfl (.cons rfl (.cons rfl .nil))))))))))))) (by decide) rfl (by omega) (by omega)
                    · replace hc84_10 := of_decide_eq_false hc84_10
                      refine g_skip ?_
                      refine g_n_blk ?_
                      refine g_n_then ?_
                      refine g_region ?_
                      refine g_val rfl rfl rfl (fun _ _ => v_add rfl rfl (wrap_i64 (by omega))) ?_
                      refine g_val rfl rfl rfl (fun _ _ => v_move rfl) ?_
                      refine g_nil ?_
                      refine g_n_then ?_
                      have e1 : (dirN L.S (h : Nat) (sillN L.S (h : Nat) (roundsN L.S (h : Nat) (heightN L.S (initO L.S.floors.length L.S.floors.length) h) r) k) (L.S.sills.getD k default) (d + 1)) = (dirN L.S (h : Nat) (sillN L.S (h : Nat) (roundsN L.S (h : Nat) (heightN L.S (initO L.S.floors.length L.S.floors.length) h) r) k) (L.S.sills.getD k default) d) := (dirN_succ hd2).trans (if_neg (show ¬ gCond L.S (h : Nat) (dirN L.S (h : Nat) (sillN L.S (h : Nat) (roundsN L.S (h : Nat) (heightN L.S (initO L.S.floors.length L.S.floors.length) h) r) k) (L.S.sills.getD k default) d) ((both (L.S.sills.getD k default)).getD d default) by unfold gCond; omega))
                      rw [← e1]
                      exact g_againM (i := d) (d + 1) [1, 2, 3, 4] ((.cons rfl (.cons rfl (.cons rfl (.cons rfl (.cons rfl (.cons rfl (.cons rfl (.cons rfl (.cons rfl (.cons rfl (.cons rfl (.cons rfl .nil))))))))))))) (by decide) rfl (by omega) (by omega)
                · replace hg71_8 := of_decide_eq_false hg71_8
                  refine g_skipG rfl rfl rfl rfl rfl rfl ?_
                  refine g_skipG rfl rfl rfl rfl rfl rfl ?_
                  refine g_skipG rfl rfl rfl rfl rfl rfl ?_
                  refine g_skipG rfl rfl rfl rfl rfl rfl ?_
                  refine g_skipU rfl rfl rfl rfl rfl ?_
                  refine g_skipU rfl rfl rfl rfl rfl ?_
                  refine g_skipU rfl rfl rfl rfl rfl ?_
                  refine g_skipU rfl rfl rfl rfl rfl ?_
                  refine g_skipU rfl rfl rfl rfl rfl ?_
                  refine g_skipU rfl rfl rfl rfl rfl ?_
                  refine g_skipU rfl rfl rfl rfl rfl ?_
                  refine g_skipG rfl rfl rfl rfl rfl rfl ?_
                  refine g_val rfl rfl rfl (fun _ _ => v_pickF rfl rfl) ?_
                  refine g_nil ?_
                  refine g_n_then ?_
                  refine g_condF rfl rfl ?_
                  refine g_skip ?_
                  refine g_n_blk ?_
                  refine g_n_then ?_
                  refine g_region ?_
                  refine g_val rfl rfl rfl (fun _ _ => v_add rfl rfl (wrap_i64 (by omega))) ?_
                  refine g_val rfl rfl rfl (fun _ _ => v_move rfl) ?_
                  refine g_nil ?_
                  refine g_n_then ?_
                  have e1 : (dirN L.S (h : Nat) (sillN L.S (h : Nat) (roundsN L.S (h : Nat) (heightN L.S (initO L.S.floors.length L.S.floors.length) h) r) k) (L.S.sills.getD k default) (d + 1)) = (dirN L.S (h : Nat) (sillN L.S (h : Nat) (roundsN L.S (h : Nat) (heightN L.S (initO L.S.floors.length L.S.floors.length) h) r) k) (L.S.sills.getD k default) d) := (dirN_succ hd2).trans (if_neg (show ¬ gCond L.S (h : Nat) (dirN L.S (h : Nat) (sillN L.S (h : Nat) (roundsN L.S (h : Nat) (heightN L.S (initO L.S.floors.length L.S.floors.length) h) r) k) (L.S.sills.getD k default) d) ((both (L.S.sills.getD k default)).getD d default) by unfold gCond; omega))
                  rw [← e1]
                  exact g_againM (i := d) (d + 1) [1, 2, 3, 4] ((.cons rfl (.cons rfl (.cons rfl (.cons rfl (.cons rfl (.cons rfl (.cons rfl (.cons rfl (.cons rfl (.cons rfl (.cons rfl (.cons rfl .nil))))))))))))) (by decide) rfl (by omega) (by omega)
              · replace hg61_7 := of_ndec_false hg61_7
                refine g_skipG rfl rfl rfl rfl rfl rfl ?_
                refine g_skipG rfl rfl rfl rfl rfl rfl ?_
                refine g_skipG rfl rfl rfl rfl rfl rfl ?_
                refine g_skipG rfl rfl rfl rfl rfl rfl ?_
                refine g_skipG rfl rfl rfl rfl rfl rfl ?_
                refine g_skipG rfl rfl rfl rfl rfl rfl ?_
                refine g_skipG rfl rfl rfl rfl rfl rfl ?_
                refine g_skipG rfl rfl rfl rfl rfl rfl ?_
                refine g_val rfl rfl rfl (fun _ _ => v_pickF rfl rfl) ?_
                refine g_val rfl rfl rfl (fun _ _ => v_move rfl) ?_
                refine g_skipG rfl rfl rfl rfl rfl rfl ?_
                refine g_skipG rfl rfl rfl rfl rfl rfl ?_
                refine g_skipG rfl rfl rfl rfl rfl rfl ?_
                refine g_skipG rfl rfl rfl rfl rfl rfl ?_
                refine g_skipU rfl rfl rfl rfl rfl ?_
                refine g_skipU rfl rfl rfl rfl rfl ?_
                refine g_skipU rfl rfl rfl rfl rfl ?_
                refine g_skipU rfl rfl rfl rfl rfl ?_
                refine g_skipU rfl rfl rfl rfl rfl ?_
                refine g_skipU rfl rfl rfl rfl rfl ?_
                refine g_skipU rfl rfl rfl rfl rfl ?_
                refine g_skipG rfl rfl rfl rfl rfl rfl ?_
                refine g_val rfl rfl rfl (fun _ _ => v_pickF rfl rfl) ?_
                refine g_nil ?_
                refine g_n_then ?_
                refine g_condF rfl rfl ?_
                refine g_skip ?_
                refine g_n_blk ?_
                refine g_n_then ?_
                refine g_region ?_
                refine g_val rfl rfl rfl (fun _ _ => v_add rfl rfl (wrap_i64 (by omega))) ?_
                refine g_val rfl rfl rfl (fun _ _ => v_move rfl) ?_
                refine g_nil ?_
                refine g_n_then ?_
                have e1 : (dirN L.S (h : Nat) (sillN L.S (h : Nat) (roundsN L.S (h : Nat) (heightN L.S (initO L.S.floors.length L.S.floors.length) h) r) k) (L.S.sills.getD k default) (d + 1)) = (dirN L.S (h : Nat) (sillN L.S (h : Nat) (roundsN L.S (h : Nat) (heightN L.S (initO L.S.floors.length L.S.floors.length) h) r) k) (L.S.sills.getD k default) d) := (dirN_succ hd2).trans (if_neg (show ¬ gCond L.S (h : Nat) (dirN L.S (h : Nat) (sillN L.S (h : Nat) (roundsN L.S (h : Nat) (heightN L.S (initO L.S.floors.length L.S.floors.length) h) r) k) (L.S.sills.getD k default) d) ((both (L.S.sills.getD k default)).getD d default) by unfold gCond; omega))
                rw [← e1]
                exact g_againM (i := d) (d + 1) [1, 2, 3, 4] ((.cons rfl (.cons rfl (.cons rfl (.cons rfl (.cons rfl (.cons rfl (.cons rfl (.cons rfl (.cons rfl (.cons rfl (.cons rfl (.cons rfl .nil))))))))))))) (by decide) rfl (by omega) (by omega)
            · replace hg56_6 := of_decide_eq_false hg56_6
              refine g_skipG rfl rfl rfl rfl rfl rfl ?_
              refine g_skipG rfl rfl rfl rfl rfl rfl ?_
              refine g_skipG rfl rfl rfl rfl rfl rfl ?_
              refine g_val rfl rfl rfl (fun _ _ => v_pickF rfl rfl) ?_
              refine g_val rfl rfl rfl (fun _ _ => v_move rfl) ?_
              refine g_skipG rfl rfl rfl rfl rfl rfl ?_
              refine g_skipG rfl rfl rfl rfl rfl rfl ?_
              refine g_skipG rfl rfl rfl rfl rfl rfl ?_
              refine g_skipG rfl rfl rfl rfl rfl rfl ?_
              refine g_skipG rfl rfl rfl rfl rfl rfl ?_
              refine g_skipG rfl rfl rfl rfl rfl rfl ?_
              refine g_skipG rfl rfl rfl rfl rfl rfl ?_
              refine g_skipG rfl rfl rfl rfl rfl rfl ?_
              refine g_val rfl rfl rfl (fun _ _ => v_pickF rfl rfl) ?_
              refine g_val rfl rfl rfl (fun _ _ => v_move rfl) ?_
              refine g_skipG rfl rfl rfl rfl rfl rfl ?_
              refine g_skipG rfl rfl rfl rfl rfl rfl ?_
              refine g_skipG rfl rfl rfl rfl rfl rfl ?_
              refine g_skipG rfl rfl rfl rfl rfl rfl ?_
              refine g_skipU rfl rfl rfl rfl rfl ?_
              refine g_skipU rfl rfl rfl rfl rfl ?_
              refine g_skipU rfl rfl rfl rfl rfl ?_
              refine g_skipU rfl rfl rfl rfl rfl ?_
              refine g_skipU rfl rfl rfl rfl rfl ?_
              refine g_skipU rfl rfl rfl rfl rfl ?_
              refine g_skipU rfl rfl rfl rfl rfl ?_
              refine g_skipG rfl rfl rfl rfl rfl rfl ?_
              refine g_val rfl rfl rfl (fun _ _ => v_pickF rfl rfl) ?_
              refine g_nil ?_
              refine g_n_then ?_
              refine g_condF rfl rfl ?_
              refine g_skip ?_
              refine g_n_blk ?_
              refine g_n_then ?_
              refine g_region ?_
              refine g_val rfl rfl rfl (fun _ _ => v_add rfl rfl (wrap_i64 (by omega))) ?_
              refine g_val rfl rfl rfl (fun _ _ => v_move rfl) ?_
              refine g_nil ?_
              refine g_n_then ?_
              have e1 : (dirN L.S (h : Nat) (sillN L.S (h : Nat) (roundsN L.S (h : Nat) (heightN L.S (initO L.S.floors.length L.S.floors.length) h) r) k) (L.S.sills.getD k default) (d + 1)) = (dirN L.S (h : Nat) (sillN L.S (h : Nat) (roundsN L.S (h : Nat) (heightN L.S (initO L.S.floors.length L.S.floors.length) h) r) k) (L.S.sills.getD k default) d) := (dirN_succ hd2).trans (if_neg (show ¬ gCond L.S (h : Nat) (dirN L.S (h : Nat) (sillN L.S (h : Nat) (roundsN L.S (h : Nat) (heightN L.S (initO L.S.floors.length L.S.floors.length) h) r) k) (L.S.sills.getD k default) d) ((both (L.S.sills.getD k default)).getD d default) by unfold gCond; omega))
              rw [← e1]
              exact g_againM (i := d) (d + 1) [1, 2, 3, 4] ((.cons rfl (.cons rfl (.cons rfl (.cons rfl (.cons rfl (.cons rfl (.cons rfl (.cons rfl (.cons rfl (.cons rfl (.cons rfl (.cons rfl .nil))))))))))))) (by decide) rfl (by omega) (by omega)
          · replace h49 := of_decide_eq_false h49
            have ek : d = 2 := by omega
            subst ek
            refine g_exit ?_
            refine g_x_then ?_
            refine g_x_then ?_
            refine g_x_blk ?_
            refine g_n_blk ?_
            refine g_n_then ?_
            refine g_region ?_
            refine g_val rfl rfl rfl (fun _ _ => v_add rfl rfl (wrap_i64 (by omega))) ?_
            refine g_val rfl rfl rfl (fun _ _ => v_move rfl) ?_
            refine g_nil ?_
            refine g_n_then ?_
            rw [← sillN_succ (by omega)]
            exact g_againM (i := k) (k + 1) [0, 3] ((.cons rfl (.cons rfl (.cons rfl (.cons rfl (.cons rfl (.cons rfl (.cons rfl (.cons rfl (.cons rfl .nil)))))))))) (by decide) rfl (by omega) (by omega)
        · replace h35 := of_decide_eq_false h35
          have ek : k = L.S.sills.length := by omega
          subst ek
          refine g_exit ?_
          refine g_x_then ?_
          refine g_x_then ?_
          refine g_x_blk ?_
          refine g_n_blk ?_
          refine g_n_then ?_
          refine g_region ?_
          refine g_val rfl rfl rfl (fun _ _ => v_add rfl rfl (wrap_i64 (by omega))) ?_
          refine g_val rfl rfl rfl (fun _ _ => v_move rfl) ?_
          refine g_nil ?_
          refine g_n_then ?_
          exact g_againM (i := r) (r + 1) [0, 1] ((.cons rfl (.cons rfl (.cons rfl (.cons rfl (.cons rfl (.cons rfl .nil))))))) (by decide) rfl (by omega) (by omega)
      · replace h30 := of_decide_eq_false h30
        have ek : r = L.S.floors.length := by omega
        subst ek
        refine g_exit ?_
        refine g_x_then ?_
        refine g_x_then ?_
        refine g_x_blk ?_
        refine g_n_then ?_
        refine g_seq ?_
        refine g_region ?_
        refine g_val rfl rfl rfl (fun _ _ => v_move rfl) ?_
        refine g_val rfl rfl rfl (fun _ _ => v_gtr rfl rfl) ?_
        refine g_nil ?_
        refine g_n_then ?_
        refine g_cond rfl (fun h100 => ?_) (fun h100 => ?_)
        · replace h100 := of_decide_eq_true h100
          have ek : h = 61 := by omega
          subst ek
          refine g_exit ?_
          refine g_x_out rfl ?_
          refine g_x_then ?_
          refine g_x_then ?_
          refine g_x_blk ?_
          refine g_n_then ?_
          refine g_seq ?_
          refine g_region ?_
          refine g_val rfl rfl rfl (fun _ _ => v_move rfl) ?_
          refine g_val rfl rfl rfl (fun _ _ => v_assign rfl) ?_
          refine g_nil ?_
          refine g_n_then ?_
          refine g_ret ?_
          have e9 : lawGates L.S = heightN L.S (initO L.S.floors.length L.S.floors.length) 62 := rfl
          refine g_done rfl (fun w hh => (.tmp rfl .nil)) (fun w hh => ?_)
          rw [e9]
          exact ⟨some (bo, 0), L.S.floors.length, by rw [heightN_length, initO_length]; rfl, ⟨by simp, by rw [heightN_length, initO_length]; exact Nat.le_refl _⟩, (News.nil hh.toExt).cons (hh.newSeg 0 rfl).1 (hh.newSeg 0 rfl).2⟩
        · replace h100 := of_decide_eq_false h100
          refine g_skip ?_
          refine g_n_blk ?_
          refine g_n_then ?_
          refine g_region ?_
          refine g_val rfl rfl rfl (fun _ _ => v_add rfl rfl (wrap_i64 (by omega))) ?_
          refine g_val rfl rfl rfl (fun _ _ => v_move rfl) ?_
          refine g_nil ?_
          refine g_n_then ?_
          exact g_againM (i := h) (h + 1) [0, 1] ((.cons rfl (.cons rfl (.cons rfl .nil)))) (by decide) rfl (by omega) (by omega)
    · replace h24 := of_decide_eq_false h24
      exfalso
      omega

end Go.Proofs

namespace Go.Proofs
open Go Go.Fw Go.Pl
set_option maxRecDepth 100000 in
set_option maxHeartbeats 4000000 in
theorem c_Made (b : Nat) (r : Option Addr) (l : List Int) (cap : Nat) (p : Int × Int) (pl sl : Int) (w : World) (hb : w.heap[b]? = some (hobj r l.length cap p)) (hs : segOK w (bkA r, offA r, u8s l)) (hne : u8s l ≠ [] → bkA r ≠ b) (hr : 0 < l.length → ∃ sb so, r = some ⟨sb, so, none⟩) (hl : l.length ≤ 9223372036854775807) (hp : hok l.length p) (hpl : 1 ≤ pl ∧ pl ≤ 8) (hsl : 0 ≤ sl ∧ sl ≤ 16) : Calls Try.prog 18 #[ptr b 0, .int .i64 pl, .int .i64 sl] w (fun en w' => ∃ i : LS × (Int × Int), en = .returned i.1.val ∧ (MadeOK pl sl i.1.S ∧ i.1.Bd ∧ hok l.length i.2) ∧ UpdNews b (hobj r l.length cap i.2) w w' i.1.segs) := by
  refine g_enter (args := [ptr b 0, .int .i64 pl, .int .i64 sl]) Try.func18 rfl Try.ntmps18 rfl (e := [(0, _), (1, _), (2, _)]) rfl (HS.start1 w b (hobj r l.length cap p) [(bkA r, offA r, u8s l)] hb (by simpa using ⟨hs, hne⟩)) ?_
  refine g_seq ?_
  refine g_region ?_
  refine g_alloc (fun w => Try.zeroValue29 w) rfl (fun br hbr => ?_)
  refine g_nil ?_
  refine g_n_then ?_
  refine g_seq ?_
  refine g_region ?_
  refine g_val rfl rfl rfl (fun _ _ => v_move rfl) ?_
  refine g_callU (ι := Int × (Int × Int)) (p := fun i => (0 ≤ i.1 ∧ i.1 ≤ max 0 (8)) ∧ hok l.length i.2) (ob' := fun i => hobj r l.length cap i.2) (ret := fun i => .int .i64 i.1) 1 rfl rfl rfl rfl rfl rfl rfl (fun a w => Try.call64 a w) rfl (fun _ => rfl) (fun w hh => (c_Upto b r l cap _ (8) w (hh.get 1 rfl) (hh.seg 0 rfl) hne hr hl (by assumption) (by omega)).mono (by rintro en w' ⟨n, q, rfl, hn, hq, hx, hb'⟩; exact ⟨(n, q), rfl, ⟨hn, hq⟩, hx, hb'⟩)) (fun n1 hhn1 => ?_)
  have hn1 := hhn1.1
  have hqn1 := hhn1.2
  refine g_val rfl rfl rfl (fun _ _ => v_neg rfl (wrap_i64 (by omega))) ?_
  refine g_val rfl rfl rfl (fun _ _ => v_move rfl) ?_
  refine g_callU (ι := Int × (Int × Int)) (p := fun i => (0 ≤ i.1 ∧ i.1 ≤ max 0 (8)) ∧ hok l.length i.2) (ob' := fun i => hobj r l.length cap i.2) (ret := fun i => .int .i64 i.1) 1 rfl rfl rfl rfl rfl rfl rfl (fun a w => Try.call64 a w) rfl (fun _ => rfl) (fun w hh => (c_Upto b r l cap _ (8) w (hh.get 1 rfl) (hh.seg 0 rfl) hne hr hl (by assumption) (by omega)).mono (by rintro en w' ⟨n, q, rfl, hn, hq, hx, hb'⟩; exact ⟨(n, q), rfl, ⟨hn, hq⟩, hx, hb'⟩)) (fun n2 hhn2 => ?_)
  have hn2 := hhn2.1
  have hqn2 := hhn2.2
  refine g_val rfl rfl rfl (fun _ _ => v_build (vs := [(0, _), (1, _)]) (cells := [_, _]) rfl rfl) ?_
  refine g_val rfl rfl rfl (fun _ _ => v_build (vs := [(1, _)]) (cells := [_, _, _, _, _]) rfl rfl) ?_
  refine g_alloc (fun w => Try.zeroValue29 w) rfl (fun bx hbx => ?_)
  refine g_storeAgg (vs := #[_, _, _, _, _]) (own' := (_ :: _)) 0 (fun w => Try.sizeOf29 w) rfl rfl rfl rfl rfl rfl ?_
  refine g_nil ?_
  refine g_n_then ?_
  refine g_seq ?_
  refine g_region ?_
  refine g_val rfl rfl rfl (fun _ _ => v_move rfl) ?_
  refine g_callU (ι := Int × (Int × Int)) (p := fun i => (0 ≤ i.1 ∧ i.1 ≤ max 0 (20)) ∧ hok l.length i.2) (ob' := fun i => hobj r l.length cap i.2) (ret := fun i => .int .i64 i.1) 2 rfl rfl rfl rfl rfl rfl rfl (fun a w => Try.call64 a w) rfl (fun _ => rfl) (fun w hh => (c_Upto b r l cap _ (20) w (hh.get 2 rfl) (hh.seg 0 rfl) hne hr hl (by assumption) (by omega)).mono (by rintro en w' ⟨n, q, rfl, hn, hq, hx, hb'⟩; exact ⟨(n, q), rfl, ⟨hn, hq⟩, hx, hb'⟩)) (fun n3 hhn3 => ?_)
  have hn3 := hhn3.1
  have hqn3 := hhn3.2
  refine g_val rfl rfl rfl (fun _ _ => v_assign rfl) ?_
  refine g_nil ?_
  refine g_n_then ?_
  refine g_seq ?_
  refine g_seq ?_
  refine g_region ?_
  refine g_val rfl rfl rfl (fun _ _ => v_move rfl) ?_
  refine g_callU (ι := Int × (Int × Int)) (p := fun i => ((2) ≤ i.1 ∧ i.1 ≤ max (2) (4)) ∧ hok l.length i.2) (ob' := fun i => hobj r l.length cap i.2) (ret := fun i => .int .i64 i.1) 2 rfl rfl rfl rfl rfl rfl rfl (fun a w => Try.call20 a w) rfl (fun _ => rfl) (fun w hh => (c_From b r l cap _ (2) (4) w (hh.get 2 rfl) (hh.seg 0 rfl) hne hr hl (by assumption) (by omega)).mono (by rintro en w' ⟨n, q, rfl, hn, hq, hx, hb'⟩; exact ⟨(n, q), rfl, ⟨hn, hq⟩, hx, hb'⟩)) (fun n4 hhn4 => ?_)
  have hn4 := hhn4.1
  have hqn4 := hhn4.2
  refine g_val rfl rfl rfl (fun _ _ => v_move rfl) ?_
  refine g_nil ?_
  refine g_n_then ?_
  refine g_block ?_
  refine g_sub (e' := [(23, _), (8, _), (0, _), (1, _), (2, _), (6, _), (7, _), (22, _)]) ((.cons rfl (.cons rfl (.cons rfl (.cons rfl (.cons rfl (.cons rfl (.cons rfl (.cons rfl .nil))))))))) ?_
  refine g_pick (own' := [_, _, _]) [2, 0, 1] (by decide) rfl ?_
  refine g_loopV (ι := Nat × (Int × Int) × Int × List Water × List Value × Option (Nat × Nat) × Nat) (ofix := [_]) (fun (k, hp, at_, T, sp, q, vc) => [(23, .int .i64 (k : Nat)), (8, .int .i64 at_)]) (fun (k, hp, at_, T, sp, q, vc) => [(b, hobj r l.length cap hp), (bx, .cells #[slv q k vc, .int .i64 (-n1.1), .int .i64 n2.1, slv none 0 0, slv none 0 0] 29 (0, 0))]) (fun (k, hp, at_, T, sp, q, vc) => vown 68 (flat encW T) sp q ++ []) (fun (k, hp, at_, T, sp, q, vc) => (k : Int) ≤ n4.1 ∧ hok l.length hp ∧ VOK 2 k vc (flat encW T) sp q ∧ TabOK T at_ ∧ 0 ≤ at_ ∧ at_ ≤ 20 + 30 * (k : Int)) (fun (k, hp, at_, T, sp, q, vc) => (n4.1).toNat - k) (0, n4.2, n3.1, [], [], none, 0) (⟨by omega, by assumption, VOK.nil, TabOK.nil, by first | omega | (simp only; omega), by first | omega | (simp only; omega)⟩) ?_
  intro ⟨k, hp, at_, T, sp, q, vc⟩ hI0
  simp only at hI0
  have hhp0 := hI0.2.1
  have hat := hI0.2.2.2.2
  refine g_seq ?_
  refine g_region ?_
  refine g_val rfl rfl rfl (fun _ _ => v_lss rfl rfl) ?_
  refine g_nil ?_
  refine g_n_then ?_
  refine g_seq ?_
  refine g_cond rfl (fun h24 => ?_) (fun h24 => ?_)
  · replace h24 := of_decide_eq_true h24
    refine g_skip ?_
    refine g_n_then ?_
    refine g_seq ?_
    refine g_block ?_
    refine g_seq ?_
    refine g_draw (some 9) (.free 0 (.hoist 1 (.free 2 (.free 3 (.one 4 (.free 5 (.one 6 (.one 7 (.free 8 (.last 9 .done)))))))))) (HS _ _ [_] _) rfl (by decide +kernel) (fun w k hh => hh.draw k) (fun w hh => ((hh).head (A := [_, _, _])).pick [1] (by decide) rfl) ?_
    refine p_free rfl rfl rfl rfl (fun w _ => v_fieldAddr 0 (Try.runUnderlying29 w) rfl (Try.sizeOf23 w) rfl) ?_
    refine p_hoist rfl rfl rfl rfl (fun w hh => v_load (Try.isAgg23 w) rfl (hh.cell 0 rfl rfl)) ?_
    refine p_free rfl rfl rfl rfl (fun _ _ => v_move rfl) ?_
    refine p_free rfl rfl rfl rfl (fun _ _ => v_move rfl) ?_
    refine p_one rfl ?_
    refine g_callU (ι := Int × (Int × Int)) (p := fun i => (0 ≤ i.1 ∧ i.1 ≤ max 0 (60)) ∧ hok l.length i.2) (ob' := fun i => hobj r l.length cap i.2) (ret := fun i => .int .i64 i.1) 0 rfl rfl rfl rfl rfl rfl rfl (fun a w => Try.call64 a w) rfl (fun _ => rfl) (fun w hh => (c_Upto b r l cap _ (60) w (hh.get 0 rfl) (hh.seg 0 rfl) hne hr hl (by assumption) (by omega)).mono (by rintro en w' ⟨n, q, rfl, hn, hq, hx, hb'⟩; exact ⟨(n, q), rfl, ⟨hn, hq⟩, hx, hb'⟩)) (fun n5 hhn5 => ?_)
    have hn5 := hhn5.1
    have hqn5 := hhn5.2
    refine p_next (fun w hh => ((hh).head (A := [_, _, _])).pick [1] (by decide) rfl) ?_
    refine p_free rfl rfl rfl rfl (fun _ _ => v_build (vs := [(0, _), (1, _)]) (cells := [_, _]) rfl rfl) ?_
    refine p_one rfl ?_
    refine g_buildSlice (vs := [(0, _)]) (cells := [_, _]) (fun w => Try.runUnderlying23 w) (fun w => Try.sizeOf68 w) (fun w => Try.zeroValue68 w) rfl rfl rfl rfl rfl (fun b6 hb6 => ?_)
    refine p_next (fun w hh => ((hh).head (A := [_, _, _, _])).pick [2] (by decide) rfl) ?_
    refine p_one rfl ?_
    refine g_appendM [_, _, _, _] (news := [_, _]) (xs := (flat encW T)) (sp := sp) (q := q) Try.underlying23 inf68 rfl rfl rfl hI0.2.2.1 (by simp) (by decide) rfl (fun w hh => hh.ownSeg 0 rfl) (ones_all rfl) (by simp only [maxLen]; omega) (by omega) rfl (fun q7 cap8 sp9 hv10 => ?_)
    rw [show flat encW T ++ [.int .i64 at_, .int .i64 n5.1] = (flat encW (T ++ [⟨at_, n5.1⟩])) from flat_snoc (enc := encW) (x := ⟨at_, n5.1⟩)] at hv10 ⊢
    refine p_next (fun w hh => ((hh).head (A := [_, _, _, _])).pick [2] (by decide) rfl) ?_
    refine p_free rfl rfl rfl rfl (fun w _ => v_fieldAddr 0 (Try.runUnderlying29 w) rfl (Try.sizeOf23 w) rfl) ?_
    refine p_last rfl ?_
    refine g_storeAt (cs' := #[_, _, _, _, _]) (own' := (_ :: _ :: _ :: _)) 2 (fun w => Try.sizeOf23 w) rfl rfl rfl rfl rfl rfl rfl ?_
    refine p_nextL ?_
    refine p_done ?_
    refine g_n_then ?_
    refine g_region ?_
    refine g_val rfl rfl rfl (fun _ _ => v_move rfl) ?_
    refine g_val rfl rfl rfl (fun _ _ => v_move rfl) ?_
    refine g_callU (ι := Int × (Int × Int)) (p := fun i => ((1) ≤ i.1 ∧ i.1 ≤ max (1) (30)) ∧ hok l.length i.2) (ob' := fun i => hobj r l.length cap i.2) (ret := fun i => .int .i64 i.1) 1 rfl rfl rfl rfl rfl rfl rfl (fun a w => Try.call20 a w) rfl (fun _ => rfl) (fun w hh => (c_From b r l cap _ (1) (30) w (hh.get 1 rfl) (hh.seg 0 rfl) hne hr hl (by assumption) (by omega)).mono (by rintro en w' ⟨n, q, rfl, hn, hq, hx, hb'⟩; exact ⟨(n, q), rfl, ⟨hn, hq⟩, hx, hb'⟩)) (fun n11 hhn11 => ?_)
    have hn11 := hhn11.1
    have hqn11 := hhn11.2
    refine g_val rfl rfl rfl (fun _ _ => v_add rfl rfl (wrap_i64 (by omega))) ?_
    refine g_val rfl rfl rfl (fun _ _ => v_assign rfl) ?_
    refine g_nil ?_
    refine g_n_blk ?_
    refine g_n_then ?_
    refine g_region ?_
    refine g_val rfl rfl rfl (fun _ _ => v_add rfl rfl (wrap_i64 (by omega))) ?_
    refine g_val rfl rfl rfl (fun _ _ => v_move rfl) ?_
    refine g_nil ?_
    refine g_n_then ?_
    exact g_againV (pre := [_, _, _, _]) (i := ⟨k, hp, at_, T, sp, q, vc⟩) (k + 1, n11.2, (at_ + n11.1), T ++ [⟨at_, n5.1⟩], sp9, (some q7), cap8) [1, 2, 3] ((.cons rfl (.cons rfl (.cons rfl (.cons rfl (.cons rfl (.cons rfl (.cons rfl (.cons rfl .nil))))))))) (by decide) rfl rfl (⟨by omega, by assumption, hv10, hI0.2.2.2.1.snoc hI0.2.2.2.2.1 (by omega) (by omega), by first | omega | (simp only; omega), by first | omega | (simp only; omega) | (push_cast; omega)⟩) (by first | omega | (simp only; omega))
  · replace h24 := of_decide_eq_false h24
    refine g_exit ?_
    refine g_x_then ?_
    refine g_x_then ?_
    refine g_x_blk ?_
    refine g_n_then ?_
    refine g_seq ?_
    refine g_seq ?_
    refine g_region ?_
    have ek0 : (k : Int) = n4.1 := by omega
    refine g_freezeM [_, _, _] 0 rfl hI0.2.2.1.hoff hI0.2.2.1.noneNil (fun hnewT => ?_)
    refine g_own (own' := [_, _, _]) rfl ?_
    refine g_val rfl rfl rfl (fun _ _ => v_move rfl) ?_
    refine g_val rfl rfl rfl (fun _ _ => v_move rfl) ?_
    refine g_callU (ι := Int × (Int × Int)) (p := fun i => ((1) ≤ i.1 ∧ i.1 ≤ max (1) (pl)) ∧ hok l.length i.2) (ob' := fun i => hobj r l.length cap i.2) (ret := fun i => .int .i64 i.1) 0 rfl rfl rfl rfl rfl rfl rfl (fun a w => Try.call20 a w) rfl (fun _ => rfl) (fun w hh => (c_From b r l cap _ (1) (pl) w (hh.get 0 rfl) (hh.seg 1 rfl) hne hr hl (by assumption) (by omega)).mono (by rintro en w' ⟨n, q, rfl, hn, hq, hx, hb'⟩; exact ⟨(n, q), rfl, ⟨hn, hq⟩, hx, hb'⟩)) (fun n12 hhn12 => ?_)
    have hn12 := hhn12.1
    have hqn12 := hhn12.2
    refine g_val rfl rfl rfl (fun _ _ => v_move rfl) ?_
    refine g_nil ?_
    refine g_n_then ?_
    refine g_block ?_
    refine g_sub (e' := [(42, _), (0, _), (2, _), (6, _), (7, _), (41, _)]) ((.cons rfl (.cons rfl (.cons rfl (.cons rfl (.cons rfl (.cons rfl .nil))))))) ?_
    refine g_loopV (ι := Nat × (Int × Int) × List Int × List Value × Option (Nat × Nat) × Nat) (ofix := [_]) (fun (k2, hp2, F, sp2, q2, vc2) => [(42, .int .i64 (k2 : Nat))]) (fun (k2, hp2, F, sp2, q2, vc2) => [(b, hobj r l.length cap hp2), (bx, .cells #[slv q k vc, .int .i64 (-n1.1), .int .i64 n2.1, slv q2 k2 vc2, slv none 0 0] 29 (0, 0))]) (fun (k2, hp2, F, sp2, q2, vc2) => vown 3 (ints F) sp2 q2 ++ []) (fun (k2, hp2, F, sp2, q2, vc2) => (k2 : Int) ≤ n12.1 ∧ hok l.length hp2 ∧ VOK 1 k2 vc2 (ints F) sp2 q2 ∧ ∀ x, x ∈ F → 0 ≤ x ∧ x ≤ 50) (fun (k2, hp2, F, sp2, q2, vc2) => (n12.1).toNat - k2) (0, n12.2, [], [], none, 0) (⟨by omega, by assumption, VOK.nil, fun x hx => by cases hx⟩) ?_
    intro ⟨k2, hp2, F, sp2, q2, vc2⟩ hI2
    simp only at hI2
    have hhp2 := hI2.2.1
    refine g_seq ?_
    refine g_region ?_
    refine g_val rfl rfl rfl (fun _ _ => v_lss rfl rfl) ?_
    refine g_nil ?_
    refine g_n_then ?_
    refine g_seq ?_
    refine g_cond rfl (fun h43 => ?_) (fun h43 => ?_)
    · replace h43 := of_decide_eq_true h43
      refine g_skip ?_
      refine g_n_then ?_
      refine g_seq ?_
      refine g_block ?_
      refine g_draw (some 7) (.free 0 (.hoist 1 (.free 2 (.one 3 (.one 4 (.one 5 (.free 6 (.last 7 .done)))))))) (HS _ _ [_] _) rfl (by decide +kernel) (fun w k hh => hh.draw k) (fun w hh => ((hh).head (A := [_, _, _])).pick [1] (by decide) rfl) ?_
      refine p_free rfl rfl rfl rfl (fun w _ => v_fieldAddr 3 (Try.runUnderlying29 w) rfl (Try.sizeOf26 w) rfl) ?_
      refine p_hoist rfl rfl rfl rfl (fun w hh => v_load (Try.isAgg26 w) rfl (hh.cell 0 rfl rfl)) ?_
      refine p_free rfl rfl rfl rfl (fun _ _ => v_move rfl) ?_
      refine p_one rfl ?_
      refine g_callU (ι := Int × (Int × Int)) (p := fun i => (0 ≤ i.1 ∧ i.1 ≤ max 0 (50)) ∧ hok l.length i.2) (ob' := fun i => hobj r l.length cap i.2) (ret := fun i => .int .i64 i.1) 0 rfl rfl rfl rfl rfl rfl rfl (fun a w => Try.call64 a w) rfl (fun _ => rfl) (fun w hh => (c_Upto b r l cap _ (50) w (hh.get 0 rfl) (hh.seg 1 rfl) hne hr hl (by assumption) (by omega)).mono (by rintro en w' ⟨n, q, rfl, hn, hq, hx, hb'⟩; exact ⟨(n, q), rfl, ⟨hn, hq⟩, hx, hb'⟩)) (fun n13 hhn13 => ?_)
      have hn13 := hhn13.1
      have hqn13 := hhn13.2
      refine p_next (fun w hh => ((hh).head (A := [_, _, _])).pick [1] (by decide) rfl) ?_
      refine p_one rfl ?_
      refine g_buildSlice (vs := [(0, _)]) (cells := [_]) (fun w => Try.runUnderlying26 w) (fun w => Try.sizeOf3 w) (fun w => Try.zeroValue3 w) rfl rfl rfl rfl rfl (fun b14 hb14 => ?_)
      refine p_next (fun w hh => ((hh).head (A := [_, _, _, _])).pick [2] (by decide) rfl) ?_
      refine p_one rfl ?_
      refine g_appendM [_, _, _, _] (news := [_]) (xs := (ints F)) (sp := sp2) (q := q2) Try.underlying26 inf3 rfl rfl rfl hI2.2.2.1 (by simp) (by decide) rfl (fun w hh => hh.ownSeg 0 rfl) (ones_all rfl) (by simp only [maxLen]; omega) (by omega) rfl (fun q15 cap16 sp17 hv18 => ?_)
      rw [ints_snoc] at hv18 ⊢
      refine p_next (fun w hh => ((hh).head (A := [_, _, _, _])).pick [2] (by decide) rfl) ?_
      refine p_free rfl rfl rfl rfl (fun w _ => v_fieldAddr 3 (Try.runUnderlying29 w) rfl (Try.sizeOf26 w) rfl) ?_
      refine p_last rfl ?_
      refine g_storeAt (cs' := #[_, _, _, _, _]) (own' := (_ :: _ :: _ :: _)) 2 (fun w => Try.sizeOf26 w) rfl rfl rfl rfl rfl rfl rfl ?_
      refine p_nextL ?_
      refine p_done ?_
      refine g_n_blk ?_
      refine g_n_then ?_
      refine g_region ?_
      refine g_val rfl rfl rfl (fun _ _ => v_add rfl rfl (wrap_i64 (by omega))) ?_
      refine g_val rfl rfl rfl (fun _ _ => v_move rfl) ?_
      refine g_nil ?_
      refine g_n_then ?_
      exact g_againV (pre := [_, _, _, _]) (i := ⟨k2, hp2, F, sp2, q2, vc2⟩) (k2 + 1, n13.2, F ++ [n13.1], sp17, (some q15), cap16) [1, 2, 3] ((.cons rfl (.cons rfl (.cons rfl (.cons rfl (.cons rfl (.cons rfl .nil))))))) (by decide) rfl rfl (⟨by omega, by assumption, hv18, fun x hx => by rcases List.mem_append.1 hx with h | h; exact hI2.2.2.2 x h; simp only [List.mem_singleton] at h; subst h; omega⟩) (by first | omega | (simp only; omega))
    · replace h43 := of_decide_eq_false h43
      refine g_exit ?_
      refine g_x_then ?_
      refine g_x_then ?_
      refine g_x_blk ?_
      refine g_n_then ?_
      refine g_seq ?_
      refine g_seq ?_
      refine g_region ?_
      have ek2 : (k2 : Int) = n12.1 := by omega
      refine g_freezeM [_, _, _] 0 rfl hI2.2.2.1.hoff hI2.2.2.1.noneNil (fun hnewF => ?_)
      refine g_own (own' := [_, _, _]) rfl ?_
      refine g_val rfl rfl rfl (fun _ _ => v_move rfl) ?_
      refine g_val rfl rfl rfl (fun _ _ => v_move rfl) ?_
      refine g_callU (ι := Int × (Int × Int)) (p := fun i => (0 ≤ i.1 ∧ i.1 ≤ max 0 (sl)) ∧ hok l.length i.2) (ob' := fun i => hobj r l.length cap i.2) (ret := fun i => .int .i64 i.1) 0 rfl rfl rfl rfl rfl rfl rfl (fun a w => Try.call64 a w) rfl (fun _ => rfl) (fun w hh => (c_Upto b r l cap _ (sl) w (hh.get 0 rfl) (hh.seg 2 rfl) hne hr hl (by assumption) (by omega)).mono (by rintro en w' ⟨n, q, rfl, hn, hq, hx, hb'⟩; exact ⟨(n, q), rfl, ⟨hn, hq⟩, hx, hb'⟩)) (fun n19 hhn19 => ?_)
      have hn19 := hhn19.1
      have hqn19 := hhn19.2
      refine g_val rfl rfl rfl (fun _ _ => v_move rfl) ?_
      refine g_nil ?_
      refine g_n_then ?_
      refine g_block ?_
      refine g_sub (e' := [(55, _), (0, _), (6, _), (7, _), (54, _)]) ((.cons rfl (.cons rfl (.cons rfl (.cons rfl (.cons rfl .nil)))))) ?_
      refine g_loopV (ι := Nat × (Int × Int) × List Sill × Nat × List Value × Option (Nat × Nat) × Nat) (ofix := [_]) (fun (k4, hp4, Sl, m4, sp4, q4, vc4) => [(55, .int .i64 (k4 : Nat))]) (fun (k4, hp4, Sl, m4, sp4, q4, vc4) => [(b, hobj r l.length cap hp4), (bx, .cells #[slv q k vc, .int .i64 (-n1.1), .int .i64 n2.1, slv q2 k2 vc2, slv q4 m4 vc4] 29 (0, 0))]) (fun (k4, hp4, Sl, m4, sp4, q4, vc4) => vown 51 (flat encS Sl) sp4 q4 ++ []) (fun (k4, hp4, Sl, m4, sp4, q4, vc4) => (k4 : Int) ≤ n19.1 ∧ hok l.length hp4 ∧ VOK 3 m4 vc4 (flat encS Sl) sp4 q4 ∧ (∀ x, x ∈ Sl → sillOK (k2 : Int) x) ∧ m4 ≤ k4) (fun (k4, hp4, Sl, m4, sp4, q4, vc4) => (n19.1).toNat - k4) (0, n19.2, [], 0, [], none, 0) (⟨by omega, by assumption, VOK.nil, (fun x hx => by cases hx), Nat.zero_le _⟩) ?_
      intro ⟨k4, hp4, Sl, m4, sp4, q4, vc4⟩ hI4
      simp only at hI4
      have hhp4 := hI4.2.1
      have hm4 := hI4.2.2.2.2
      refine g_seq ?_
      refine g_region ?_
      refine g_val rfl rfl rfl (fun _ _ => v_lss rfl rfl) ?_
      refine g_nil ?_
      refine g_n_then ?_
      refine g_seq ?_
      refine g_cond rfl (fun h56 => ?_) (fun h56 => ?_)
      · replace h56 := of_decide_eq_true h56
        refine g_skip ?_
        refine g_n_then ?_
        refine g_seq ?_
        refine g_block ?_
        refine g_seq ?_
        refine g_region ?_
        refine g_val rfl rfl rfl (fun _ _ => v_move rfl) ?_
        refine g_val rfl rfl rfl (fun _ _ => v_assign rfl) ?_
        refine g_nil ?_
        refine g_n_then ?_
        refine g_seq ?_
        refine g_region ?_
        refine g_val rfl rfl rfl (fun _ _ => v_move rfl) ?_
        refine g_val rfl rfl rfl (fun w _ => v_fieldAddr 3 (Try.runUnderlying29 w) rfl (Try.sizeOf26 w) rfl) ?_
        refine g_val rfl rfl rfl (fun w hh => v_load (Try.isAgg26 w) rfl (hh.cell 1 rfl rfl)) ?_
        refine g_val rfl rfl rfl (fun w _ => v_lenS (Try.runUnderlying26 w) rfl) ?_
        refine g_val rfl rfl rfl (fun _ _ => v_sub rfl rfl (wrap_i64 (by omega))) ?_
        refine g_val rfl rfl rfl (fun _ _ => v_min rfl rfl) ?_
        refine g_val rfl rfl rfl (fun _ _ => v_assign rfl) ?_
        refine g_nil ?_
        refine g_n_then ?_
        refine g_seq ?_
        refine g_region ?_
        refine g_val rfl rfl rfl (fun _ _ => v_move rfl) ?_
        refine g_val rfl rfl rfl (fun _ _ => v_move rfl) ?_
        refine g_val rfl rfl rfl (fun _ _ => v_sub rfl rfl (wrap_i64 (by omega))) ?_
        refine g_callU (ι := Int × (Int × Int)) (p := fun i => ((-1) ≤ i.1 ∧ i.1 ≤ max (-1) ((min ((k4 : Nat) : Int) ((k2 : Nat) - 1)) - 1)) ∧ hok l.length i.2) (ob' := fun i => hobj r l.length cap i.2) (ret := fun i => .int .i64 i.1) 0 rfl rfl rfl rfl rfl rfl rfl (fun a w => Try.call20 a w) rfl (fun _ => rfl) (fun w hh => (c_From b r l cap _ (-1) ((min ((k4 : Nat) : Int) ((k2 : Nat) - 1)) - 1) w (hh.get 0 rfl) (hh.seg 2 rfl) hne hr hl (by assumption) (by omega)).mono (by rintro en w' ⟨n, q, rfl, hn, hq, hx, hb'⟩; exact ⟨(n, q), rfl, ⟨hn, hq⟩, hx, hb'⟩)) (fun n20 hhn20 => ?_)
        have hn20 := hhn20.1
        have hqn20 := hhn20.2
        refine g_val rfl rfl rfl (fun _ _ => v_move rfl) ?_
        refine g_val rfl rfl rfl (fun _ _ => v_move rfl) ?_
        refine g_callU (ι := Int × (Int × Int)) (p := fun i => (0 ≤ i.1 ∧ i.1 ≤ max 0 (50)) ∧ hok l.length i.2) (ob' := fun i => hobj r l.length cap i.2) (ret := fun i => .int .i64 i.1) 0 rfl rfl rfl rfl rfl rfl rfl (fun a w => Try.call64 a w) rfl (fun _ => rfl) (fun w hh => (c_Upto b r l cap _ (50) w (hh.get 0 rfl) (hh.seg 2 rfl) hne hr hl (by assumption) (by omega)).mono (by rintro en w' ⟨n, q, rfl, hn, hq, hx, hb'⟩; exact ⟨(n, q), rfl, ⟨hn, hq⟩, hx, hb'⟩)) (fun n21 hhn21 => ?_)
        have hn21 := hhn21.1
        have hqn21 := hhn21.2
        refine g_val rfl rfl rfl (fun _ _ => v_build (vs := [(0, _), (1, _), (2, _)]) (cells := [_, _, _]) rfl rfl) ?_
        refine g_alloc (fun w => Try.zeroValue51 w) rfl (fun bs hbs => ?_)
        refine g_storeAgg (vs := #[_, _, _]) (own' := (_ :: _)) 0 (fun w => Try.sizeOf51 w) rfl rfl rfl rfl rfl rfl ?_
        refine g_nil ?_
        refine g_n_then ?_
        refine g_seq ?_
        refine g_seq ?_
        refine g_region ?_
        refine g_val rfl rfl rfl (fun _ _ => v_move rfl) ?_
        refine g_val rfl rfl rfl (fun w _ => v_fieldAddr 3 (Try.runUnderlying29 w) rfl (Try.sizeOf26 w) rfl) ?_
        refine g_val rfl rfl rfl (fun w hh => v_load (Try.isAgg26 w) rfl (hh.cell 2 rfl rfl)) ?_
        refine g_val rfl rfl rfl (fun w _ => v_lenS (Try.runUnderlying26 w) rfl) ?_
        refine g_val rfl rfl rfl (fun _ _ => v_geq rfl rfl) ?_
        refine g_nil ?_
        refine g_n_then ?_
        refine g_cond rfl (fun hc76_4 => ?_) (fun hc76_4 => ?_)
        · replace hc76_4 := of_decide_eq_true hc76_4
          refine g_draw none (.free 0 (.free 1 (.hoist 2 (.free 3 (.free 4 (.free 6 (.free 7 (.hoist 8 (.free 9 (.free 10 (.one 5 (.free 12 (.one 11 (.one 13 (.free 14 (.one 15 .done)))))))))))))))) (HS _ _ [_] _) rfl (by decide +kernel) (fun w k hh => hh.draw k) (fun w hh => ((hh).head (A := [_, _, _, _])).pick [2] (by decide) rfl) ?_
          refine p_free rfl rfl rfl rfl (fun _ _ => v_move rfl) ?_
          refine p_free rfl rfl rfl rfl (fun w _ => v_fieldAddr 3 (Try.runUnderlying29 w) rfl (Try.sizeOf26 w) rfl) ?_
          refine p_hoist rfl rfl rfl rfl (fun w hh => v_load (Try.isAgg26 w) rfl (hh.cell 0 rfl rfl)) ?_
          refine p_free rfl rfl rfl rfl (fun w _ => v_lenS (Try.runUnderlying26 w) rfl) ?_
          refine p_free rfl rfl rfl rfl (fun _ _ => v_sub rfl rfl (wrap_i64 (by omega))) ?_
          refine p_free rfl rfl rfl rfl (fun _ _ => v_move rfl) ?_
          refine p_free rfl rfl rfl rfl (fun w _ => v_fieldAddr 3 (Try.runUnderlying29 w) rfl (Try.sizeOf26 w) rfl) ?_
          refine p_hoist rfl rfl rfl rfl (fun w hh => v_load (Try.isAgg26 w) rfl (hh.cell 0 rfl rfl)) ?_
          refine p_free rfl rfl rfl rfl (fun w _ => v_lenS (Try.runUnderlying26 w) rfl) ?_
          refine p_free rfl rfl rfl rfl (fun _ _ => v_sub rfl rfl (wrap_i64 (by omega))) ?_
          refine p_one rfl ?_
          refine g_callU (ι := Int × (Int × Int)) (p := fun i => ((-1) ≤ i.1 ∧ i.1 ≤ max (-1) (((k2 : Nat) : Int) - 1)) ∧ hok l.length i.2) (ob' := fun i => hobj r l.length cap i.2) (ret := fun i => .int .i64 i.1) 1 rfl rfl rfl rfl rfl rfl rfl (fun a w => Try.call20 a w) rfl (fun _ => rfl) (fun w hh => (c_From b r l cap _ (-1) (((k2 : Nat) : Int) - 1) w (hh.get 1 rfl) (hh.seg 2 rfl) hne hr hl (by assumption) (by omega)).mono (by rintro en w' ⟨n, q, rfl, hn, hq, hx, hb'⟩; exact ⟨(n, q), rfl, ⟨hn, hq⟩, hx, hb'⟩)) (fun n22 hhn22 => ?_)
          have hn22 := hhn22.1
          have hqn22 := hhn22.2
          refine p_next (fun w hh => ((hh).head (A := [_, _, _, _])).pick [2] (by decide) rfl) ?_
          refine p_free rfl rfl rfl rfl (fun w _ => v_fieldAddr 0 (Try.runUnderlying51 w) rfl (Try.sizeOf3 w) rfl) ?_
          refine p_one rfl ?_
          refine g_callU (ι := Int × (Int × Int)) (p := fun i => (0 ≤ i.1 ∧ i.1 ≤ max 0 (((k2 : Nat) : Int) - 1)) ∧ hok l.length i.2) (ob' := fun i => hobj r l.length cap i.2) (ret := fun i => .int .i64 i.1) 1 rfl rfl rfl rfl rfl rfl rfl (fun a w => Try.call64 a w) rfl (fun _ => rfl) (fun w hh => (c_Upto b r l cap _ (((k2 : Nat) : Int) - 1) w (hh.get 1 rfl) (hh.seg 2 rfl) hne hr hl (by assumption) (by omega)).mono (by rintro en w' ⟨n, q, rfl, hn, hq, hx, hb'⟩; exact ⟨(n, q), rfl, ⟨hn, hq⟩, hx, hb'⟩)) (fun n23 hhn23 => ?_)
          have hn23 := hhn23.1
          have hqn23 := hhn23.2
          refine p_next (fun w hh => ((hh).head (A := [_, _, _, _])).pick [2] (by decide) rfl) ?_
          refine p_one rfl ?_
          refine g_storeAt (cs' := #[_, _, _]) (own' := (_ :: _)) 0 (fun w => Try.sizeOf3 w) rfl rfl rfl rfl rfl rfl rfl ?_
          refine p_next (fun w hh => ((hh).head (A := [_, _, _, _])).pick [2] (by decide) rfl) ?_
          refine p_free rfl rfl rfl rfl (fun w _ => v_fieldAddr 1 (Try.runUnderlying51 w) rfl (Try.sizeOf3 w) rfl) ?_
          refine p_one rfl ?_
          refine g_storeAt (cs' := #[_, _, _]) (own' := (_ :: _)) 0 (fun w => Try.sizeOf3 w) rfl rfl rfl rfl rfl rfl rfl ?_
          refine p_next (fun w hh => ((hh).head (A := [_, _, _, _])).pick [2] (by decide) rfl) ?_
          refine p_done ?_
          refine g_n_then ?_
          refine g_seq ?_
          refine g_seq ?_
          refine g_region ?_
          refine g_val rfl rfl rfl (fun _ _ => v_move rfl) ?_
          refine g_callU (ι := Bool × (Int × Int)) (p := fun i => (True) ∧ hok l.length i.2) (ob' := fun i => hobj r l.length cap i.2) (ret := fun i => .bool i.1) 1 rfl rfl rfl rfl rfl rfl rfl (fun a w => Try.call85 a w) rfl (fun _ => rfl) (fun w hh => (c_Once b r l cap _ (3) w (hh.get 1 rfl) (hh.seg 2 rfl) hne hr hl (by assumption) (by omega)).mono (by rintro en w' ⟨n, q, rfl, hn, hq, hx, hb'⟩; exact ⟨(n, q), rfl, ⟨hn, hq⟩, hx, hb'⟩)) (fun n24 hhn24 => ?_)
          have hn24 := hhn24.1
          have hqn24 := hhn24.2
          refine g_nil ?_
          refine g_n_then ?_
          refine g_cond rfl (fun hc92_5 => ?_) (fun hc92_5 => ?_)
          · have hc92_5 := hc92_5
            refine g_region ?_
            refine g_val rfl rfl rfl (fun w _ => v_fieldAddr 1 (Try.runUnderlying51 w) rfl (Try.sizeOf3 w) rfl) ?_
            refine g_val rfl rfl rfl (fun w hh => v_load (Try.isAgg3 w) rfl (hh.cell 0 rfl rfl)) ?_
            refine g_val rfl rfl rfl (fun w _ => v_fieldAddr 0 (Try.runUnderlying51 w) rfl (Try.sizeOf3 w) rfl) ?_
            refine g_val rfl rfl rfl (fun w hh => v_load (Try.isAgg3 w) rfl (hh.cell 0 rfl rfl)) ?_
            refine g_val rfl rfl rfl (fun w _ => v_fieldAddr 0 (Try.runUnderlying51 w) rfl (Try.sizeOf3 w) rfl) ?_
            refine g_storeAt (cs' := #[_, _, _]) (own' := (_ :: _)) 0 (fun w => Try.sizeOf3 w) rfl rfl rfl rfl rfl rfl rfl ?_
            refine g_val rfl rfl rfl (fun w _ => v_fieldAddr 1 (Try.runUnderlying51 w) rfl (Try.sizeOf3 w) rfl) ?_
            refine g_storeAt (cs' := #[_, _, _]) (own' := (_ :: _)) 0 (fun w => Try.sizeOf3 w) rfl rfl rfl rfl rfl rfl rfl ?_
            refine g_nil ?_
            refine g_n_then ?_
            refine g_seq ?_
            refine g_region ?_
            refine g_val rfl rfl rfl (fun w _ => v_fieldAddr 0 (Try.runUnderlying51 w) rfl (Try.sizeOf3 w) rfl) ?_
            refine g_val rfl rfl rfl (fun w hh => v_load (Try.isAgg3 w) rfl (hh.cell 0 rfl rfl)) ?_
            refine g_val rfl rfl rfl (fun w _ => v_fieldAddr 1 (Try.runUnderlying51 w) rfl (Try.sizeOf3 w) rfl) ?_
            refine g_val rfl rfl rfl (fun w hh => v_load (Try.isAgg3 w) rfl (hh.cell 0 rfl rfl)) ?_
            refine g_val rfl rfl rfl (fun _ _ => v_neq rfl rfl) ?_
            refine g_nil ?_
            refine g_n_then ?_
            refine g_cond rfl (fun hc103_6 => ?_) (fun hc103_6 => ?_)
            · replace hc103_6 := of_ndec_true hc103_6
              refine g_region ?_
              refine g_val rfl rfl rfl (fun w _ => v_fieldAddr 4 (Try.runUnderlying29 w) rfl (Try.sizeOf27 w) rfl) ?_
              refine g_val rfl rfl rfl (fun w hh => v_load (Try.isAgg27 w) rfl (hh.cell 2 rfl rfl)) ?_
              refine g_val rfl rfl rfl (fun w hh => v_loadAgg (vs := [_, _, _]) (Try.isAgg51 w) (Try.sizeOf51 w) rfl (hh.cells 0 rfl rfl)) ?_
              refine g_buildSlice (vs := [(0, _)]) (cells := [_, _, _]) (fun w => Try.runUnderlying27 w) (fun w => Try.sizeOf51 w) (fun w => Try.zeroValue51 w) rfl rfl rfl rfl rfl (fun b25 hb25 => ?_)
              refine g_appendM [_, _, _, _, _] (news := [_, _, _]) (xs := (flat encS Sl)) (sp := sp4) (q := q4) Try.underlying27 inf51 rfl rfl rfl hI4.2.2.1 (by simp) (by decide) rfl (fun w hh => hh.ownSeg 0 rfl) (ones_all rfl) (by simp only [maxLen]; omega) (by omega) rfl (fun q26 cap27 sp28 hv29 => ?_)
              rw [show flat encS Sl ++ [.int .i64 n23.1, .int .i64 n22.1, .int .i64 n21.1] = (flat encS (Sl ++ [⟨n23.1, n22.1, n21.1⟩])) from flat_snoc (enc := encS) (x := ⟨n23.1, n22.1, n21.1⟩)] at hv29 ⊢
              refine g_val rfl rfl rfl (fun w _ => v_fieldAddr 4 (Try.runUnderlying29 w) rfl (Try.sizeOf27 w) rfl) ?_
              refine g_storeAt (cs' := #[_, _, _, _, _]) (own' := (_ :: _ :: _ :: _ :: _)) 3 (fun w => Try.sizeOf27 w) rfl rfl rfl rfl rfl rfl rfl ?_
              refine g_nil ?_
              refine g_n_blk ?_
              refine g_n_then ?_
              refine g_region ?_
              refine g_val rfl rfl rfl (fun _ _ => v_add rfl rfl (wrap_i64 (by omega))) ?_
              refine g_val rfl rfl rfl (fun _ _ => v_move rfl) ?_
              refine g_nil ?_
              refine g_n_then ?_
              exact g_againV (pre := [_, _, _, _, _]) (i := ⟨k4, hp4, Sl, m4, sp4, q4, vc4⟩) (k4 + 1, n24.2, Sl ++ [⟨n23.1, n22.1, n21.1⟩], m4 + 1, sp28, (some q26), cap27) [2, 3, 4] ((.cons rfl (.cons rfl (.cons rfl (.cons rfl (.cons rfl .nil)))))) (by decide) rfl rfl (⟨by omega, by assumption, hv29, fun x hx => by rcases List.mem_append.1 hx with h | h; exact hI4.2.2.2.1 x h; simp only [List.mem_singleton] at h; subst h; unfold sillOK; simp only; omega, by omega⟩) (by first | omega | (simp only; omega))
            · replace hc103_6 := of_ndec_false hc103_6
              refine g_skip ?_
              refine g_n_blk ?_
              refine g_n_then ?_
              refine g_region ?_
              refine g_val rfl rfl rfl (fun _ _ => v_add rfl rfl (wrap_i64 (by omega))) ?_
              refine g_val rfl rfl rfl (fun _ _ => v_move rfl) ?_
              refine g_nil ?_
              refine g_n_then ?_
              exact g_againV (pre := [_, _, _, _]) (i := ⟨k4, hp4, Sl, m4, sp4, q4, vc4⟩) (k4 + 1, n24.2, Sl, m4, sp4, q4, vc4) [1, 2, 3] ((.cons rfl (.cons rfl (.cons rfl (.cons rfl (.cons rfl .nil)))))) (by decide) rfl rfl (⟨by omega, by assumption, hI4.2.2.1, hI4.2.2.2.1, by omega⟩) (by first | omega | (simp only; omega))
          · have hc92_5 := hc92_5
            refine g_skip ?_
            refine g_n_then ?_
            refine g_seq ?_
            refine g_region ?_
            refine g_val rfl rfl rfl (fun w _ => v_fieldAddr 0 (Try.runUnderlying51 w) rfl (Try.sizeOf3 w) rfl) ?_
            refine g_val rfl rfl rfl (fun w hh => v_load (Try.isAgg3 w) rfl (hh.cell 0 rfl rfl)) ?_
            refine g_val rfl rfl rfl (fun w _ => v_fieldAddr 1 (Try.runUnderlying51 w) rfl (Try.sizeOf3 w) rfl) ?_
            refine g_val rfl rfl rfl (fun w hh => v_load (Try.isAgg3 w) rfl (hh.cell 0 rfl rfl)) ?_
            refine g_val rfl rfl rfl (fun _ _ => v_neq rfl rfl) ?_
            refine g_nil ?_
            refine g_n_then ?_
            refine g_cond rfl (fun hc103_7 => ?_) (fun hc103_7 => ?_)
            · replace hc103_7 := of_ndec_true hc103_7
              refine g_region ?_
              refine g_val rfl rfl rfl (fun w _ => v_fieldAddr 4 (Try.runUnderlying29 w) rfl (Try.sizeOf27 w) rfl) ?_
              refine g_val rfl rfl rfl (fun w hh => v_load (Try.isAgg27 w) rfl (hh.cell 2 rfl rfl)) ?_
              refine g_val rfl rfl rfl (fun w hh => v_loadAgg (vs := [_, _, _]) (Try.isAgg51 w) (Try.sizeOf51 w) rfl (hh.cells 0 rfl rfl)) ?_
              refine g_buildSlice (vs := [(0, _)]) (cells := [_, _, _]) (fun w => Try.runUnderlying27 w) (fun w => Try.sizeOf51 w) (fun w => Try.zeroValue51 w) rfl rfl rfl rfl rfl (fun b30 hb30 => ?_)
              refine g_appendM [_, _, _, _, _] (news := [_, _, _]) (xs := (flat encS Sl)) (sp := sp4) (q := q4) Try.underlying27 inf51 rfl rfl rfl hI4.2.2.1 (by simp) (by decide) rfl (fun w hh => hh.ownSeg 0 rfl) (ones_all rfl) (by simp only [maxLen]; omega) (by omega) rfl (fun q31 cap32 sp33 hv34 => ?_)
              rw [show flat encS Sl ++ [.int .i64 n22.1, .int .i64 n23.1, .int .i64 n21.1] = (flat encS (Sl ++ [⟨n22.1, n23.1, n21.1⟩])) from flat_snoc (enc := encS) (x := ⟨n22.1, n23.1, n21.1⟩)] at hv34 ⊢
              refine g_val rfl rfl rfl (fun w _ => v_fieldAddr 4 (Try.runUnderlying29 w) rfl (Try.sizeOf27 w) rfl) ?_
              refine g_storeAt (cs' := #[_, _, _, _, _]) (own' := (_ :: _ :: _ :: _ :: _)) 3 (fun w => Try.sizeOf27 w) rfl rfl rfl rfl rfl rfl rfl ?_
              refine g_nil ?_
              refine g_n_blk ?_
              refine g_n_then ?_
              refine g_region ?_
              refine g_val rfl rfl rfl (fun _ _ => v_add rfl rfl (wrap_i64 (by omega))) ?_
              refine g_val rfl rfl rfl (fun _ _ => v_move rfl) ?_
              refine g_nil ?_
              refine g_n_then ?_
              exact g_againV (pre := [_, _, _, _, _]) (i := ⟨k4, hp4, Sl, m4, sp4, q4, vc4⟩) (k4 + 1, n24.2, Sl ++ [⟨n22.1, n23.1, n21.1⟩], m4 + 1, sp33, (some q31), cap32) [2, 3, 4] ((.cons rfl (.cons rfl (.cons rfl (.cons rfl (.cons rfl .nil)))))) (by decide) rfl rfl (⟨by omega, by assumption, hv34, fun x hx => by rcases List.mem_append.1 hx with h | h; exact hI4.2.2.2.1 x h; simp only [List.mem_singleton] at h; subst h; unfold sillOK; simp only; omega, by omega⟩) (by first | omega | (simp only; omega))
            · replace hc103_7 := of_ndec_false hc103_7
              refine g_skip ?_
              refine g_n_blk ?_
              refine g_n_then ?_
              refine g_region ?_
              refine g_val rfl rfl rfl (fun _ _ => v_add rfl rfl (wrap_i64 (by omega))) ?_
              refine g_val rfl rfl rfl (fun _ _ => v_move rfl) ?_
              refine g_nil ?_
              refine g_n_then ?_
              exact g_againV (pre := [_, _, _, _]) (i := ⟨k4, hp4, Sl, m4, sp4, q4, vc4⟩) (k4 + 1, n24.2, Sl, m4, sp4, q4, vc4) [1, 2, 3] ((.cons rfl (.cons rfl (.cons rfl (.cons rfl (.cons rfl .nil)))))) (by decide) rfl rfl (⟨by omega, by assumption, hI4.2.2.1, hI4.2.2.2.1, by omega⟩) (by first | omega | (simp only; omega))
        · replace hc76_4 := of_decide_eq_false hc76_4
          refine g_skip ?_
          refine g_n_then ?_
          refine g_seq ?_
          refine g_seq ?_
          refine g_region ?_
          refine g_val rfl rfl rfl (fun _ _ => v_move rfl) ?_
          refine g_callU (ι := Bool × (Int × Int)) (p := fun i => (True) ∧ hok l.length i.2) (ob' := fun i => hobj r l.length cap i.2) (ret := fun i => .bool i.1) 1 rfl rfl rfl rfl rfl rfl rfl (fun a w => Try.call85 a w) rfl (fun _ => rfl) (fun w hh => (c_Once b r l cap _ (3) w (hh.get 1 rfl) (hh.seg 2 rfl) hne hr hl (by assumption) (by omega)).mono (by rintro en w' ⟨n, q, rfl, hn, hq, hx, hb'⟩; exact ⟨(n, q), rfl, ⟨hn, hq⟩, hx, hb'⟩)) (fun n35 hhn35 => ?_)
          have hn35 := hhn35.1
          have hqn35 := hhn35.2
          refine g_nil ?_
          refine g_n_then ?_
          refine g_cond rfl (fun hc92_8 => ?_) (fun hc92_8 => ?_)
          · have hc92_8 := hc92_8
            refine g_region ?_
            refine g_val rfl rfl rfl (fun w _ => v_fieldAddr 1 (Try.runUnderlying51 w) rfl (Try.sizeOf3 w) rfl) ?_
            refine g_val rfl rfl rfl (fun w hh => v_load (Try.isAgg3 w) rfl (hh.cell 0 rfl rfl)) ?_
            refine g_val rfl rfl rfl (fun w _ => v_fieldAddr 0 (Try.runUnderlying51 w) rfl (Try.sizeOf3 w) rfl) ?_
            refine g_val rfl rfl rfl (fun w hh => v_load (Try.isAgg3 w) rfl (hh.cell 0 rfl rfl)) ?_
            refine g_val rfl rfl rfl (fun w _ => v_fieldAddr 0 (Try.runUnderlying51 w) rfl (Try.sizeOf3 w) rfl) ?_
            refine g_storeAt (cs' := #[_, _, _]) (own' := (_ :: _)) 0 (fun w => Try.sizeOf3 w) rfl rfl rfl rfl rfl rfl rfl ?_
            refine g_val rfl rfl rfl (fun w _ => v_fieldAddr 1 (Try.runUnderlying51 w) rfl (Try.sizeOf3 w) rfl) ?_
            refine g_storeAt (cs' := #[_, _, _]) (own' := (_ :: _)) 0 (fun w => Try.sizeOf3 w) rfl rfl rfl rfl rfl rfl rfl ?_
            refine g_nil ?_
            refine g_n_then ?_
            refine g_seq ?_
            refine g_region ?_
            refine g_val rfl rfl rfl (fun w _ => v_fieldAddr 0 (Try.runUnderlying51 w) rfl (Try.sizeOf3 w) rfl) ?_
            refine g_val rfl rfl rfl (fun w hh => v_load (Try.isAgg3 w) rfl (hh.cell 0 rfl rfl)) ?_
            refine g_val rfl rfl rfl (fun w _ => v_fieldAddr 1 (Try.runUnderlying51 w) rfl (Try.sizeOf3 w) rfl) ?_
            refine g_val rfl rfl rfl (fun w hh => v_load (Try.isAgg3 w) rfl (hh.cell 0 rfl rfl)) ?_
            refine g_val rfl rfl rfl (fun _ _ => v_neq rfl rfl) ?_
            refine g_nil ?_
            refine g_n_then ?_
            refine g_cond rfl (fun hc103_9 => ?_) (fun hc103_9 => ?_)
            · replace hc103_9 := of_ndec_true hc103_9
              refine g_region ?_
              refine g_val rfl rfl rfl (fun w _ => v_fieldAddr 4 (Try.runUnderlying29 w) rfl (Try.sizeOf27 w) rfl) ?_
              refine g_val rfl rfl rfl (fun w hh => v_load (Try.isAgg27 w) rfl (hh.cell 2 rfl rfl)) ?_
              refine g_val rfl rfl rfl (fun w hh => v_loadAgg (vs := [_, _, _]) (Try.isAgg51 w) (Try.sizeOf51 w) rfl (hh.cells 0 rfl rfl)) ?_
              refine g_buildSlice (vs := [(0, _)]) (cells := [_, _, _]) (fun w => Try.runUnderlying27 w) (fun w => Try.sizeOf51 w) (fun w => Try.zeroValue51 w) rfl rfl rfl rfl rfl (fun b36 hb36 => ?_)
              refine g_appendM [_, _, _, _, _] (news := [_, _, _]) (xs := (flat encS Sl)) (sp := sp4) (q := q4) Try.underlying27 inf51 rfl rfl rfl hI4.2.2.1 (by simp) (by decide) rfl (fun w hh => hh.ownSeg 0 rfl) (ones_all rfl) (by simp only [maxLen]; omega) (by omega) rfl (fun q37 cap38 sp39 hv40 => ?_)
              rw [show flat encS Sl ++ [.int .i64 (min ((k4 : Nat) : Int) ((k2 : Nat) - 1)), .int .i64 n20.1, .int .i64 n21.1] = (flat encS (Sl ++ [⟨(min ((k4 : Nat) : Int) ((k2 : Nat) - 1)), n20.1, n21.1⟩])) from flat_snoc (enc := encS) (x := ⟨(min ((k4 : Nat) : Int) ((k2 : Nat) - 1)), n20.1, n21.1⟩)] at hv40 ⊢
              refine g_val rfl rfl rfl (fun w _ => v_fieldAddr 4 (Try.runUnderlying29 w) rfl (Try.sizeOf27 w) rfl) ?_
              refine g_storeAt (cs' := #[_, _, _, _, _]) (own' := (_ :: _ :: _ :: _ :: _)) 3 (fun w => Try.sizeOf27 w) rfl rfl rfl rfl rfl rfl rfl ?_
              refine g_nil ?_
              refine g_n_blk ?_
              refine g_n_then ?_
              refine g_region ?_
              refine g_val rfl rfl rfl (fun _ _ => v_add rfl rfl (wrap_i64 (by omega))) ?_
              refine g_val rfl rfl rfl (fun _ _ => v_move rfl) ?_
              refine g_nil ?_
              refine g_n_then ?_
              exact g_againV (pre := [_, _, _, _, _]) (i := ⟨k4, hp4, Sl, m4, sp4, q4, vc4⟩) (k4 + 1, n35.2, Sl ++ [⟨(min ((k4 : Nat) : Int) ((k2 : Nat) - 1)), n20.1, n21.1⟩], m4 + 1, sp39, (some q37), cap38) [2, 3, 4] ((.cons rfl (.cons rfl (.cons rfl (.cons rfl (.cons rfl .nil)))))) (by decide) rfl rfl (⟨by omega, by assumption, hv40, fun x hx => by rcases List.mem_append.1 hx with h | h; exact hI4.2.2.2.1 x h; simp only [List.mem_singleton] at h; subst h; unfold sillOK; simp only; omega, by omega⟩) (by first | omega | (simp only; omega))
            · replace hc103_9 := of_ndec_false hc103_9
              refine g_skip ?_
              refine g_n_blk ?_
              refine g_n_then ?_
              refine g_region ?_
              refine g_val rfl rfl rfl (fun _ _ => v_add rfl rfl (wrap_i64 (by omega))) ?_
              refine g_val rfl rfl rfl (fun _ _ => v_move rfl) ?_
              refine g_nil ?_
              refine g_n_then ?_
              exact g_againV (pre := [_, _, _, _]) (i := ⟨k4, hp4, Sl, m4, sp4, q4, vc4⟩) (k4 + 1, n35.2, Sl, m4, sp4, q4, vc4) [1, 2, 3] ((.cons rfl (.cons rfl (.cons rfl (.cons rfl (.cons rfl .nil)))))) (by decide) rfl rfl (⟨by omega, by assumption, hI4.2.2.1, hI4.2.2.2.1, by omega⟩) (by first | omega | (simp only; omega))
          · have hc92_8 := hc92_8
            refine g_skip ?_
            refine g_n_then ?_
            refine g_seq ?_
            refine g_region ?_
            refine g_val rfl rfl rfl (fun w _ => v_fieldAddr 0 (Try.runUnderlying51 w) rfl (Try.sizeOf3 w) rfl) ?_
            refine g_val rfl rfl rfl (fun w hh => v_load (Try.isAgg3 w) rfl (hh.cell 0 rfl rfl)) ?_
            refine g_val rfl rfl rfl (fun w _ => v_fieldAddr 1 (Try.runUnderlying51 w) rfl (Try.sizeOf3 w) rfl) ?_
            refine g_val rfl rfl rfl (fun w hh => v_load (Try.isAgg3 w) rfl (hh.cell 0 rfl rfl)) ?_
            refine g_val rfl rfl rfl (fun _ _ => v_neq rfl rfl) ?_
            refine g_nil ?_
            refine g_n_then ?_
            refine g_cond rfl (fun hc103_10 => ?_) (fun hc103_10 => ?_)
            · replace hc103_10 := of_ndec_true hc103_10
              refine g_region ?_
              refine g_val rfl rfl rfl (fun w _ => v_fieldAddr 4 (Try.runUnderlying29 w) rfl (Try.sizeOf27 w) rfl) ?_
              refine g_val rfl rfl rfl (fun w hh => v_load (Try.isAgg27 w) rfl (hh.cell 2 rfl rfl)) ?_
              refine g_val rfl rfl rfl (fun w hh => v_loadAgg (vs := [_, _, _]) (Try.isAgg51 w) (Try.sizeOf51 w) rfl (hh.cells 0 rfl rfl)) ?_
              refine g_buildSlice (vs := [(0, _)]) (cells := [_, _, _]) (fun w => Try.runUnderlying27 w) (fun w => Try.sizeOf51 w) (fun w => Try.zeroValue51 w) rfl rfl rfl rfl rfl (fun b41 hb41 => ?_)
              refine g_appendM [_, _, _, _, _] (news := [_, _, _]) (xs := (flat encS Sl)) (sp := sp4) (q := q4) Try.underlying27 inf51 rfl rfl rfl hI4.2.2.1 (by simp) (by decide) rfl (fun w hh => hh.ownSeg 0 rfl) (ones_all rfl) (by simp only [maxLen]; omega) (by omega) rfl (fun q42 cap43 sp44 hv45 => ?_)
              rw [show flat encS Sl ++ [.int .i64 n20.1, .int .i64 (min ((k4 : Nat) : Int) ((k2 : Nat) - 1)), .int .i64 n21.1] = (flat encS (Sl ++ [⟨n20.1, (min ((k4 : Nat) : Int) ((k2 : Nat) - 1)), n21.1⟩])) from flat_snoc (enc := encS) (x := ⟨n20.1, (min ((k4 : Nat) : Int) ((k2 : Nat) - 1)), n21.1⟩)] at hv45 ⊢
              refine g_val rfl rfl rfl (fun w _ => v_fieldAddr 4 (Try.runUnderlying29 w) rfl (Try.sizeOf27 w) rfl) ?_
              refine g_storeAt (cs' := #[_, _, _, _, _]) (own' := (_ :: _ :: _ :: _ :: _)) 3 (fun w => Try.sizeOf27 w) rfl rfl rfl rfl rfl rfl rfl ?_
              refine g_nil ?_
              refine g_n_blk ?_
              refine g_n_then ?_
              refine g_region ?_
              refine g_val rfl rfl rfl (fun _ _ => v_add rfl rfl (wrap_i64 (by omega))) ?_
              refine g_val rfl rfl rfl (fun _ _ => v_move rfl) ?_
              refine g_nil ?_
              refine g_n_then ?_
              exact g_againV (pre := [_, _, _, _, _]) (i := ⟨k4, hp4, Sl, m4, sp4, q4, vc4⟩) (k4 + 1, n35.2, Sl ++ [⟨n20.1, (min ((k4 : Nat) : Int) ((k2 : Nat) - 1)), n21.1⟩], m4 + 1, sp44, (some q42), cap43) [2, 3, 4] ((.cons rfl (.cons rfl (.cons rfl (.cons rfl (.cons rfl .nil)))))) (by decide) rfl rfl (⟨by omega, by assumption, hv45, fun x hx => by rcases List.mem_append.1 hx with h | h; exact hI4.2.2.2.1 x h; simp only [List.mem_singleton] at h; subst h; unfold sillOK; simp only; omega, by omega⟩) (by first | omega | (simp only; omega))
            · replace hc103_10 := of_ndec_false hc103_10
              refine g_skip ?_
              refine g_n_blk ?_
              refine g_n_then ?_
              refine g_region ?_
              refine g_val rfl rfl rfl (fun _ _ => v_add rfl rfl (wrap_i64 (by omega))) ?_
              refine g_val rfl rfl rfl (fun _ _ => v_move rfl) ?_
              refine g_nil ?_
              refine g_n_then ?_
              exact g_againV (pre := [_, _, _, _]) (i := ⟨k4, hp4, Sl, m4, sp4, q4, vc4⟩) (k4 + 1, n35.2, Sl, m4, sp4, q4, vc4) [1, 2, 3] ((.cons rfl (.cons rfl (.cons rfl (.cons rfl (.cons rfl .nil)))))) (by decide) rfl rfl (⟨by omega, by assumption, hI4.2.2.1, hI4.2.2.2.1, by omega⟩) (by first | omega | (simp only; omega))
      · replace h56 := of_decide_eq_false h56
        refine g_exit ?_
        refine g_x_then ?_
        refine g_x_then ?_
        refine g_x_blk ?_
        refine g_n_then ?_
        refine g_seq ?_
        refine g_region ?_
        refine g_freezeM [_, _, _] 0 rfl hI4.2.2.1.hoff hI4.2.2.1.noneNil (fun hnewS => ?_)
        refine g_own (own' := [_, _, _]) rfl ?_
        refine g_val rfl rfl rfl (fun w hh => v_loadAgg (vs := [_, _, _, _, _]) (Try.isAgg29 w) (Try.sizeOf29 w) rfl (hh.cells 1 rfl rfl)) ?_
        refine g_storeAgg (vs := #[_, _, _, _, _]) (own' := (_ :: _ :: _ :: _)) 2 (fun w => Try.sizeOf29 w) rfl rfl rfl rfl rfl rfl ?_
        refine g_nil ?_
        refine g_n_then ?_
        refine g_ret ?_
        have eT := vok_len encW_len (by decide) hI0.2.2.1
        have eF : F.length = k2 := by have := hI2.2.2.1.hlen; rw [ints_length, Nat.mul_one] at this; exact this
        have eS := vok_len encS_len (by decide) hI4.2.2.1
        refine g_done rfl (fun w hh => (.cell rfl (loadVar_agg (vs := [_, _, _, _, _]) (Try.isAgg29 _) (Try.sizeOf29 _) (hh.cells 2 rfl rfl)) .nil)) (fun w hh => ⟨⟨(⟨q, vc, q2, vc2, q4, vc4, ⟨T, ⟨(-n1.1), n2.1⟩, F, Sl⟩⟩ : LS), hp4⟩, ?_, ⟨⟨⟨by first | omega | (simp only; omega), by first | omega | (simp only; omega)⟩, ⟨_, hI0.2.2.2.1, by omega⟩, by first | omega | (simp only; omega), by first | omega | (simp only; omega), ⟨by first | omega | (simp only; omega), by first | omega | (simp only; omega)⟩, hI2.2.2.2, by first | omega | (simp only; omega), by simp only [eF]; exact hI4.2.2.2.1⟩, ⟨by simp only [eT]; exact hI0.2.2.1.sl.ne, by simp only [eF]; exact hI2.2.2.1.sl.ne, by simp only [eS]; exact hI4.2.2.1.sl.ne, by first | omega | (simp only; omega), by first | omega | (simp only; omega), by first | omega | (simp only; omega), by simp only [eT]; exact hI0.2.2.1.hle, by simp only [eF]; exact hI2.2.2.1.hle, by simp only [eS]; exact hI4.2.2.1.hle⟩, by assumption⟩, hh.toExt, hh.get 0 rfl, ?_, ?_⟩)
        · simp only [LS.val, LS.cells, eT, eF, eS]; rfl
        · intro s hs
          simp only [LS.segs, List.mem_cons, List.not_mem_nil, or_false] at hs
          rcases hs with rfl | rfl | rfl
          · exact hh.seg 2 rfl
          · exact hh.seg 1 rfl
          · exact hh.seg 0 rfl
        · intro s hs hn
          simp only [LS.segs, List.mem_cons, List.not_mem_nil, or_false] at hs
          rcases hs with rfl | rfl | rfl
          · exact hnewT hn
          · exact hnewF hn
          · exact hnewS hn

end Go.Proofs
