/- What the functions of the sands come to: part 6. It is needed by the statements of this seat. -/
import Derived.Test.YtaicfimbclibpaaW5
namespace Go.Proofs
open Go Go.Fw Go.Pl
set_option maxRecDepth 100000 in
set_option maxHeartbeats 4000000 in
theorem c_TideTold (r1 r2 : Option Addr) (n1 n2 : List Int) (c1 c2 : Nat) (w : World) (hr1 : 0 < n1.length → ∃ sb so, r1 = some ⟨sb, so, none⟩) (hr2 : 0 < n2.length → ∃ sb so, r2 = some ⟨sb, so, none⟩) (hl1 : n1.length ≤ 9223372036854775807) (hl2 : n2.length ≤ 9223372036854775807) (hs1 : segOK w (bkA r1, offA r1, u8s n1)) (hs2 : segOK w (bkA r2, offA r2, u8s n2)) : Ret Try.prog 3 [.slice r1 n1.length c1, .slice r2 n2.length c2] w (.bool true) := by
  refine g_enter (args := [.slice r1 n1.length c1, .slice r2 n2.length c2]) Try.func3 rfl Try.ntmps3 rfl (e := [(0, _), (1, _)]) rfl (HS.start w [] [(bkA r1, offA r1, u8s n1), (bkA r2, offA r2, u8s n2)] (segsC hs1 (segsC hs2 segsN))) ?_
  refine g_seq ?_
  refine g_region ?_
  refine g_val rfl rfl rfl (fun _ _ => v_assign rfl) ?_
  refine g_nil ?_
  refine g_n_then ?_
  refine g_seq ?_
  refine g_region ?_
  refine g_val rfl rfl rfl (fun _ _ => v_move rfl) ?_
  refine g_callF (ι := Nat) (L := fun b => [(b, hobj r1 n1.length c1 (0, 0))]) (ret := fun b => ptr b 0) rfl rfl rfl rfl rfl rfl rfl (fun a w => Try.call19 a w) (fun w hh => c_Pile r1 n1.length c1 w) (fun hp1 => ?_)
  refine g_callUR (ι := LS × (Int × Int)) (p := fun i => MadeOK 6 8 i.1.S ∧ i.1.Bd ∧ hok n1.length i.2) (ob' := fun i => hobj r1 n1.length c1 i.2) (S := fun i => i.1.segs) (ret := fun i => i.1.val) 0 rfl rfl rfl rfl rfl rfl rfl (fun a w => Try.call18 a w) rfl (fun _ => rfl) (fun w hh => c_Made hp1 r1 n1 c1 (0, 0) 6 8 w (hh.get 0 rfl) (hh.seg 0 rfl) (fun hn => hh.sepAt 0 rfl (List.mem_of_getElem? (i := 0) rfl) hn) hr1 hl1 ⟨Int.le_refl _, .inr rfl⟩ (by decide) (by decide)) (fun i hi => ?_)
  obtain ⟨hM, hB, hk1⟩ := hi
  revert hM hB
  generalize i.1 = L
  intro hM hB
  have hlt := hB.tl
  have hlf := hB.fl
  have hls := hB.sl
  have hc := hM.check (by decide) (by decide)
  have hG := good_of_check hc
  have hfl8 := hG.fl
  have htl12 := hG.tl
  have hsl16 := hG.sl
  have hglo := hG.lo
  have hghi := hG.hi
  have hgw := hG.wind
  have hds := day_span hG
  have hlgl : (lawGates L.S).length = L.S.floors.length := by unfold lawGates; rw [heightN_length, initO_length]
  have hrel := fun (j : Nat) (hj : j < L.S.floors.length) => made_rel hM hG hj
  refine g_alloc (fun w => Try.zeroValue29 w) rfl (fun bS hbS => ?_)
  refine g_storeAgg (vs := #[_, _, _, _, _]) (own' := (_ :: _)) 0 (fun w => Try.sizeOf29 w) rfl rfl rfl rfl rfl rfl ?_
  refine g_nil ?_
  refine g_n_then ?_
  refine g_seq ?_
  refine g_region ?_
  refine g_val rfl rfl rfl (fun _ _ => v_move rfl) ?_
  refine g_callF (ι := Nat) (L := fun b => [(b, hobj r2 n2.length c2 (0, 0))]) (ret := fun b => ptr b 0) rfl rfl rfl rfl rfl rfl rfl (fun a w => Try.call19 a w) (fun w hh => c_Pile r2 n2.length c2 w) (fun hp2 => ?_)
  refine g_val rfl rfl rfl (fun _ _ => v_assign rfl) ?_
  refine g_nil ?_
  refine g_n_then ?_
  refine g_seq ?_
  refine g_region ?_
  refine g_val rfl rfl rfl (fun _ _ => v_move rfl) ?_
  refine g_val rfl rfl rfl (fun w _ => v_fieldAddr 1 (Try.runUnderlying29 w) rfl (Try.sizeOf25 w) rfl) ?_
  refine g_val rfl rfl rfl (fun w _ => v_fieldAddr 0 (Try.runUnderlying25 w) rfl (Try.sizeOf3 w) rfl) ?_
  refine g_val rfl rfl rfl (fun w hh => v_load (Try.isAgg3 w) rfl (hh.cell 1 rfl rfl)) ?_
  refine g_val rfl rfl rfl (fun w _ => v_fieldAddr 1 (Try.runUnderlying29 w) rfl (Try.sizeOf25 w) rfl) ?_
  refine g_val rfl rfl rfl (fun w _ => v_fieldAddr 1 (Try.runUnderlying25 w) rfl (Try.sizeOf3 w) rfl) ?_
  refine g_val rfl rfl rfl (fun w hh => v_load (Try.isAgg3 w) rfl (hh.cell 1 rfl rfl)) ?_
  refine g_callU (ι := Int × (Int × Int)) (p := fun i => (L.S.wind.lo ≤ i.1 ∧ i.1 ≤ max L.S.wind.lo L.S.wind.hi) ∧ hok n2.length i.2) (ob' := fun i => hobj r2 n2.length c2 i.2) (ret := fun i => .int .i64 i.1) 0 rfl rfl rfl rfl rfl rfl rfl (fun a w => Try.call20 a w) rfl (fun _ => rfl) (fun w hh => (c_From hp2 r2 n2 c2 (0, 0) _ _ w (hh.get 0 rfl) (hh.seg 4 rfl) (fun hn => hh.sepAt 0 rfl (List.mem_of_getElem? (i := 4) rfl) hn) hr2 hl2 ⟨Int.le_refl _, .inr rfl⟩ (by omega)).mono (by rintro en w' ⟨n, q, rfl, hn, hq, hx, hb'⟩; exact ⟨(n, q), rfl, ⟨hn, hq⟩, hx, hb'⟩)) (fun j hj => ?_)
  obtain ⟨htr, hk2⟩ := hj
  revert htr
  generalize j.1 = tr
  intro htr
  have htr2 : L.S.wind.lo ≤ tr ∧ tr ≤ L.S.wind.hi := by omega
  refine g_val rfl rfl rfl (fun _ _ => v_assign rfl) ?_
  refine g_nil ?_
  refine g_n_then ?_
  refine g_seq ?_
  refine g_region ?_
  refine g_val rfl rfl rfl (fun w hh => v_loadAgg (vs := [_, _, _, _, _]) (Try.isAgg29 w) (Try.sizeOf29 w) rfl (hh.cells 1 rfl rfl)) ?_
  refine g_callR (ι := Option (Nat × Nat) × Nat) (p := fun i => SlOK i.1 (lawGates L.S).length i.2) (S := fun i => [(bk i.1, off i.1, ints (lawGates L.S))]) (ret := fun i => slv i.1 (lawGates L.S).length i.2) rfl rfl rfl rfl rfl rfl rfl (fun a w => Try.call21 a w) (fun w hh => (c_lawgates L w (hB.at hh 0 rfl rfl rfl) hG).mono (by rintro en w' ⟨q, cap, rfl, h1, h2⟩; exact ⟨(q, cap), rfl, h1, h2⟩)) (fun g8 hg8 => ?_)
  refine g_val rfl rfl rfl (fun _ _ => v_assign rfl) ?_
  refine g_nil ?_
  refine g_n_then ?_
  refine g_seq ?_
  refine g_region ?_
  refine g_val rfl rfl rfl (fun _ _ => v_move rfl) ?_
  refine g_val rfl rfl rfl (fun w hh => v_loadAgg (vs := [_, _, _, _, _]) (Try.isAgg29 w) (Try.sizeOf29 w) rfl (hh.cells 1 rfl rfl)) ?_
  refine g_val rfl rfl rfl (fun _ _ => v_move rfl) ?_
  refine g_val rfl rfl rfl (fun _ _ => v_move rfl) ?_
  refine g_callUR (ι := List Look × Option (Nat × Nat) × Nat × (Int × Int)) (p := fun i => i.1.length ≤ 6 ∧ (∀ x, x ∈ i.1 → lookT L.S (lawGates L.S) tr x) ∧ SlOK i.2.1 i.1.length i.2.2.1 ∧ hok n2.length i.2.2.2) (ob' := fun i => hobj r2 n2.length c2 i.2.2.2) (S := fun i => [(bk i.2.1, off i.2.1, flat encL i.1)]) (ret := fun i => slv i.2.1 i.1.length i.2.2.1) 0 rfl rfl rfl rfl rfl rfl rfl (fun a w => Try.call22 a w) rfl (fun _ => rfl) (fun w hh => c_lawlooked hp2 r2 n2 c2 _ g8.1 (lawGates L.S) g8.2 tr 6 L w (hh.get 0 rfl) hr2 hl2 hk2 hg8.ne hB hG hlgl (fun s hs => (fun hm => ⟨hh.roOK s hm, fun hn => hh.sepAt 0 rfl hm hn⟩) (show s ∈ _ from (by simp only [LS.segs, List.mem_cons, List.not_mem_nil, or_false] at hs; rcases hs with rfl | rfl | rfl | rfl | rfl; exact List.mem_of_getElem? (i := 5) rfl; exact List.mem_of_getElem? (i := 0) rfl; exact List.mem_of_getElem? (i := 1) rfl; exact List.mem_of_getElem? (i := 2) rfl; exact List.mem_of_getElem? (i := 3) rfl))) (by omega) (by decide)) (fun i9 hi9 => ?_)
  obtain ⟨hl6, hlk, hsl9, hk9⟩ := hi9
  revert hl6 hlk hsl9
  generalize i9.1 = lk
  intro hl6 hlk hsl9
  refine g_val rfl rfl rfl (fun _ _ => v_assign rfl) ?_
  refine g_nil ?_
  refine g_n_then ?_
  refine g_seq ?_
  refine g_region ?_
  refine g_val rfl rfl rfl (fun w hh => v_loadAgg (vs := [_, _, _, _, _]) (Try.isAgg29 w) (Try.sizeOf29 w) rfl (hh.cells 1 rfl rfl)) ?_
  refine g_val rfl rfl rfl (fun _ _ => v_move rfl) ?_
  refine g_callv rfl rfl rfl rfl rfl rfl rfl (fun a w => Try.call23 a w) (fun w hh => c_Looks i9.2.1 lk i9.2.2.1 L w (hB.at hh 2 rfl rfl rfl) (by omega) hsl9.ne (hh.seg 0 rfl)) ?_
  obtain ⟨W, hW, hW1, hW2⟩ := looks_told hc hG hrel htr2 hl6 hlk
  refine g_set 47 (u := .tuple #[.agg #[.int .i64 W.lo, .int .i64 W.hi], .int .i64 0]) rfl (by rw [hW]; rfl) ?_
  refine g_val rfl rfl rfl (fun _ _ => v_move rfl) ?_
  refine g_val rfl rfl rfl (fun _ _ => v_extract rfl rfl) ?_
  refine g_val rfl rfl rfl (fun _ _ => v_extract rfl rfl) ?_
  refine g_alloc (fun w => Try.zeroValue25 w) rfl (fun bW hbW => ?_)
  refine g_storeAgg (vs := #[_, _]) (own' := (_ :: _)) 0 (fun w => Try.sizeOf25 w) rfl rfl rfl rfl rfl rfl ?_
  refine g_val rfl rfl rfl (fun _ _ => v_assign rfl) ?_
  refine g_nil ?_
  refine g_n_then ?_
  refine g_seq ?_
  refine g_seq ?_
  refine g_region ?_
  refine g_val rfl rfl rfl (fun w hh => v_loadAgg (vs := [_, _, _, _, _]) (Try.isAgg29 w) (Try.sizeOf29 w) rfl (hh.cells 2 rfl rfl)) ?_
  refine g_callv rfl rfl rfl rfl rfl rfl rfl (fun a w => Try.call24 a w) (fun w hh => c_Check L w (hB.at hh 2 rfl rfl rfl)) ?_
  refine g_set 51 (u := .int .i64 0) rfl (by rw [hc]) ?_
  refine g_val rfl rfl rfl (fun _ _ => v_neq rfl rfl) ?_
  refine g_val rfl rfl rfl (fun _ _ => v_move rfl) ?_
  refine g_valG rfl rfl rfl rfl rfl (fun _ _ => v_move rfl) ?_
  refine g_valG rfl rfl rfl rfl rfl (fun _ _ => v_neq rfl rfl) ?_
  refine g_val rfl rfl rfl (fun _ _ => v_pickF rfl rfl) ?_
  refine g_val rfl rfl rfl (fun _ _ => v_move rfl) ?_
  refine g_valG rfl rfl rfl rfl rfl (fun w _ => v_fieldAddr 0 (Try.runUnderlying25 w) rfl (Try.sizeOf3 w) rfl) ?_
  refine g_valG rfl rfl rfl rfl rfl (fun w hh => v_load (Try.isAgg3 w) rfl (hh.cell 0 rfl rfl)) ?_
  refine g_valG rfl rfl rfl rfl rfl (fun w _ => v_fieldAddr 1 (Try.runUnderlying29 w) rfl (Try.sizeOf25 w) rfl) ?_
  refine g_valG rfl rfl rfl rfl rfl (fun w _ => v_fieldAddr 0 (Try.runUnderlying25 w) rfl (Try.sizeOf3 w) rfl) ?_
  refine g_valG rfl rfl rfl rfl rfl (fun w hh => v_load (Try.isAgg3 w) rfl (hh.cell 2 rfl rfl)) ?_
  refine g_valG rfl rfl rfl rfl rfl (fun _ _ => v_lss rfl rfl) ?_
  refine g_val rfl rfl rfl (fun _ _ => v_pickF rfl rfl) ?_
  refine g_val rfl rfl rfl (fun _ _ => v_move rfl) ?_
  refine g_set 65 (u := .bool false) rfl (congrArg Value.bool (decide_eq_false (by omega))) ?_
  refine g_valG rfl rfl rfl rfl rfl (fun w _ => v_fieldAddr 1 (Try.runUnderlying25 w) rfl (Try.sizeOf3 w) rfl) ?_
  refine g_valG rfl rfl rfl rfl rfl (fun w hh => v_load (Try.isAgg3 w) rfl (hh.cell 0 rfl rfl)) ?_
  refine g_valG rfl rfl rfl rfl rfl (fun w _ => v_fieldAddr 1 (Try.runUnderlying29 w) rfl (Try.sizeOf25 w) rfl) ?_
  refine g_valG rfl rfl rfl rfl rfl (fun w _ => v_fieldAddr 1 (Try.runUnderlying25 w) rfl (Try.sizeOf3 w) rfl) ?_
  refine g_valG rfl rfl rfl rfl rfl (fun w hh => v_load (Try.isAgg3 w) rfl (hh.cell 2 rfl rfl)) ?_
  refine g_valG rfl rfl rfl rfl rfl (fun _ _ => v_gtr rfl rfl) ?_
  refine g_val rfl rfl rfl (fun _ _ => v_pickF rfl rfl) ?_
  refine g_val rfl rfl rfl (fun _ _ => v_move rfl) ?_
  refine g_set 73 (u := .bool false) rfl (congrArg Value.bool (decide_eq_false (by omega))) ?_
  refine g_valG rfl rfl rfl rfl rfl (fun _ _ => v_move rfl) ?_
  refine g_valG rfl rfl rfl rfl rfl (fun w _ => v_fieldAddr 0 (Try.runUnderlying25 w) rfl (Try.sizeOf3 w) rfl) ?_
  refine g_valG rfl rfl rfl rfl rfl (fun w hh => v_load (Try.isAgg3 w) rfl (hh.cell 0 rfl rfl)) ?_
  refine g_valG rfl rfl rfl rfl rfl (fun _ _ => v_lss rfl rfl) ?_
  refine g_val rfl rfl rfl (fun _ _ => v_pickF rfl rfl) ?_
  refine g_val rfl rfl rfl (fun _ _ => v_move rfl) ?_
  refine g_set 79 (u := .bool false) rfl (congrArg Value.bool (decide_eq_false (by omega))) ?_
  refine g_valG rfl rfl rfl rfl rfl (fun _ _ => v_move rfl) ?_
  refine g_valG rfl rfl rfl rfl rfl (fun w _ => v_fieldAddr 1 (Try.runUnderlying25 w) rfl (Try.sizeOf3 w) rfl) ?_
  refine g_valG rfl rfl rfl rfl rfl (fun w hh => v_load (Try.isAgg3 w) rfl (hh.cell 0 rfl rfl)) ?_
  refine g_valG rfl rfl rfl rfl rfl (fun _ _ => v_gtr rfl rfl) ?_
  refine g_val rfl rfl rfl (fun _ _ => v_pickF rfl rfl) ?_
  refine g_nil ?_
  refine g_n_then ?_
  refine g_condF rfl (decide_eq_false (by omega)) ?_
  refine g_skip ?_
  refine g_n_then ?_
  refine g_seq ?_
  refine g_region ?_
  refine g_val rfl rfl rfl (fun w hh => v_loadAgg (vs := [_, _, _, _, _]) (Try.isAgg29 w) (Try.sizeOf29 w) rfl (hh.cells 2 rfl rfl)) ?_
  refine g_callR (ι := LS) (p := fun L' => L'.S = L.S ∧ L'.Bd) (S := fun L' => L'.segs) (ret := fun L' => L'.val) rfl rfl rfl rfl rfl rfl rfl (fun a w => Try.call25 a w) (fun w hh => c_Own L w (hB.at hh 2 rfl rfl rfl) (by omega) (by omega) (by omega)) ?_
  rintro ⟨rt2, ct2, rf2, cf2, rs2, cs2, S2⟩ ⟨hS2, hB2⟩
  simp only at hS2
  subst hS2
  have hB3 : (⟨rt2, ct2, rf2, cf2, rs2, cs2, (⟨L.S.table, W, L.S.floors, L.S.sills⟩ : Sands)⟩ : LS).Bd := ⟨hB2.t0, hB2.f0, hB2.s0, hB2.tl, hB2.fl, hB2.sl, hB2.tc, hB2.fc, hB2.sc⟩
  have hcT := wind_check hc hW1.1 (by omega) hW2.2
  have hGT := good_of_check hcT
  refine g_alloc (fun w => Try.zeroValue29 w) rfl (fun bT hbT => ?_)
  refine g_storeAgg (vs := #[_, _, _, _, _]) (own' := (_ :: _)) 0 (fun w => Try.sizeOf29 w) rfl rfl rfl rfl rfl rfl ?_
  refine g_nil ?_
  refine g_n_then ?_
  refine g_seq ?_
  refine g_region ?_
  refine g_val rfl rfl rfl (fun w hh => v_loadAgg (vs := [_, _]) (Try.isAgg25 w) (Try.sizeOf25 w) rfl (hh.cells 1 rfl rfl)) ?_
  refine g_val rfl rfl rfl (fun w _ => v_fieldAddr 1 (Try.runUnderlying29 w) rfl (Try.sizeOf25 w) rfl) ?_
  refine g_storeMid (vs := #[_, _]) (cs' := [_, _, _, _, _]) (own' := (_ :: _)) 0 (fun w => Try.sizeOf25 w) rfl rfl rfl rfl rfl rfl rfl ?_
  refine g_nil ?_
  refine g_n_then ?_
  refine g_seq ?_
  refine g_seq ?_
  refine g_region ?_
  refine g_val rfl rfl rfl (fun w hh => v_loadAgg (vs := [_, _, _, _, _]) (Try.isAgg29 w) (Try.sizeOf29 w) rfl (hh.cells 3 rfl rfl)) ?_
  refine g_callv rfl rfl rfl rfl rfl rfl rfl (fun a w => Try.call26 a w) (fun w hh => c_first L w (hB.at hh 5 rfl rfl rfl) (by omega)) ?_
  refine g_val rfl rfl rfl (fun _ _ => v_assign rfl) ?_
  refine g_nil ?_
  refine g_n_then ?_
  refine g_block ?_
  refine g_sub (e' := [(13, _), (5, _), (7, _), (8, _), (12, _)]) ((.cons rfl (.cons rfl (.cons rfl (.cons rfl (.cons rfl .nil)))))) ?_
  refine g_loopM (ι := Int) (fun m => [(13, .int .i64 m)]) (fun m => []) (fun m => firstM L.S ≤ m ∧ m ≤ lastM L.S + 1) (fun m => (lastM L.S + 1 - m).toNat) (firstM L.S) (⟨Int.le_refl _, by omega⟩) ?_
  intro m hI0
  refine g_seq ?_
  refine g_seq ?_
  refine g_region ?_
  refine g_val rfl rfl rfl (fun _ _ => v_move rfl) ?_
  refine g_val rfl rfl rfl (fun w hh => v_loadAgg (vs := [_, _, _, _, _]) (Try.isAgg29 w) (Try.sizeOf29 w) rfl (hh.cells 3 rfl rfl)) ?_
  refine g_callv rfl rfl rfl rfl rfl rfl rfl (fun a w => Try.call27 a w) (fun w hh => c_last L w (hB.at hh 5 rfl rfl rfl) (by omega)) ?_
  refine g_val rfl rfl rfl (fun _ _ => v_leq rfl rfl) ?_
  refine g_nil ?_
  refine g_n_then ?_
  refine g_cond rfl (fun h94 => ?_) (fun h94 => ?_)
  · replace h94 := of_decide_eq_true h94
    have hday := day_of (s := L.S) (m := m) ⟨by omega, by omega⟩
    refine g_skip ?_
    refine g_n_then ?_
    refine g_seq ?_
    refine g_block ?_
    refine g_seq ?_
    refine g_region ?_
    refine g_val rfl rfl rfl (fun w hh => v_loadAgg (vs := [_, _, _, _, _]) (Try.isAgg29 w) (Try.sizeOf29 w) rfl (hh.cells 3 rfl rfl)) ?_
    refine g_val rfl rfl rfl (fun _ _ => v_move rfl) ?_
    refine g_callR (ι := Option (Nat × Nat) × Nat) (p := fun i => SlOK i.1 (statesN L.S m L.S.floors.length).length i.2) (S := fun i => [(bk i.1, off i.1, ints (statesN L.S m L.S.floors.length))]) (ret := fun i => .tuple #[slv i.1 (statesN L.S m L.S.floors.length).length i.2, .int .i64 0]) rfl rfl rfl rfl rfl rfl rfl (fun a w => Try.call28 a w) (fun w hh => (c_All m L w (hB.at hh 5 rfl rfl rfl)).mono (by rw [show AllR L.S m = (statesN L.S m L.S.floors.length, 0) from AllR_states hc hday]; rintro en w' ⟨q, cap, rfl, h1, h2⟩; exact ⟨(q, cap), rfl, h1, h2⟩)) (fun qx hqx => ?_)
    have hslx : (statesN L.S m L.S.floors.length).length = L.S.floors.length := statesN_length
    refine g_val rfl rfl rfl (fun _ _ => v_move rfl) ?_
    refine g_val rfl rfl rfl (fun _ _ => v_extract rfl rfl) ?_
    refine g_val rfl rfl rfl (fun _ _ => v_extract rfl rfl) ?_
    refine g_val rfl rfl rfl (fun _ _ => v_assign rfl) ?_
    refine g_val rfl rfl rfl (fun _ _ => v_assign rfl) ?_
    refine g_nil ?_
    refine g_n_then ?_
    refine g_seq ?_
    refine g_region ?_
    refine g_val rfl rfl rfl (fun w hh => v_loadAgg (vs := [_, _, _, _, _]) (Try.isAgg29 w) (Try.sizeOf29 w) rfl (hh.cells 0 rfl rfl)) ?_
    refine g_val rfl rfl rfl (fun _ _ => v_move rfl) ?_
    refine g_callR (ι := Option (Nat × Nat) × Nat) (p := fun i => SlOK i.1 (statesN (⟨L.S.table, W, L.S.floors, L.S.sills⟩ : Sands) m L.S.floors.length).length i.2) (S := fun i => [(bk i.1, off i.1, ints (statesN (⟨L.S.table, W, L.S.floors, L.S.sills⟩ : Sands) m L.S.floors.length))]) (ret := fun i => .tuple #[slv i.1 (statesN (⟨L.S.table, W, L.S.floors, L.S.sills⟩ : Sands) m L.S.floors.length).length i.2, .int .i64 0]) rfl rfl rfl rfl rfl rfl rfl (fun a w => Try.call28 a w) (fun w hh => (c_All m (⟨rt2, ct2, rf2, cf2, rs2, cs2, (⟨L.S.table, W, L.S.floors, L.S.sills⟩ : Sands)⟩ : LS) w (hB3.at hh 1 rfl rfl rfl)).mono (by rw [show AllR (⟨L.S.table, W, L.S.floors, L.S.sills⟩ : Sands) m = (statesN (⟨L.S.table, W, L.S.floors, L.S.sills⟩ : Sands) m L.S.floors.length, 0) from AllR_states hcT hday]; rintro en w' ⟨q, cap, rfl, h1, h2⟩; exact ⟨(q, cap), rfl, h1, h2⟩)) (fun qy hqy => ?_)
    have hsly : (statesN (⟨L.S.table, W, L.S.floors, L.S.sills⟩ : Sands) m L.S.floors.length).length = L.S.floors.length := statesN_length
    refine g_val rfl rfl rfl (fun _ _ => v_move rfl) ?_
    refine g_val rfl rfl rfl (fun _ _ => v_extract rfl rfl) ?_
    refine g_val rfl rfl rfl (fun _ _ => v_extract rfl rfl) ?_
    refine g_val rfl rfl rfl (fun _ _ => v_assign rfl) ?_
    refine g_val rfl rfl rfl (fun _ _ => v_assign rfl) ?_
    refine g_nil ?_
    refine g_n_then ?_
    refine g_seq ?_
    refine g_seq ?_
    refine g_region ?_
    refine g_val rfl rfl rfl (fun _ _ => v_move rfl) ?_
    refine g_val rfl rfl rfl (fun _ _ => v_neq rfl rfl) ?_
    refine g_val rfl rfl rfl (fun _ _ => v_move rfl) ?_
    refine g_valG rfl rfl rfl rfl rfl (fun _ _ => v_move rfl) ?_
    refine g_valG rfl rfl rfl rfl rfl (fun _ _ => v_neq rfl rfl) ?_
    refine g_val rfl rfl rfl (fun _ _ => v_pickF rfl rfl) ?_
    refine g_val rfl rfl rfl (fun _ _ => v_move rfl) ?_
    refine g_valG rfl rfl rfl rfl rfl (fun _ _ => v_move rfl) ?_
    refine g_valG rfl rfl rfl rfl rfl (fun w _ => v_lenS (Try.runUnderlying43 w) rfl) ?_
    refine g_valG rfl rfl rfl rfl rfl (fun w _ => v_fieldAddr 3 (Try.runUnderlying29 w) rfl (Try.sizeOf26 w) rfl) ?_
    refine g_valG rfl rfl rfl rfl rfl (fun w hh => v_load (Try.isAgg26 w) rfl (hh.cell 3 rfl rfl)) ?_
    refine g_valG rfl rfl rfl rfl rfl (fun w _ => v_lenS (Try.runUnderlying26 w) rfl) ?_
    refine g_valG rfl rfl rfl rfl rfl (fun _ _ => v_neq rfl rfl) ?_
    refine g_val rfl rfl rfl (fun _ _ => v_pickF rfl rfl) ?_
    refine g_val rfl rfl rfl (fun _ _ => v_move rfl) ?_
    refine g_set 123 (u := .bool false) rfl (congrArg Value.bool (ndF (by omega))) ?_
    refine g_valG rfl rfl rfl rfl rfl (fun _ _ => v_move rfl) ?_
    refine g_valG rfl rfl rfl rfl rfl (fun w _ => v_lenS (Try.runUnderlying43 w) rfl) ?_
    refine g_valG rfl rfl rfl rfl rfl (fun _ _ => v_move rfl) ?_
    refine g_valG rfl rfl rfl rfl rfl (fun w _ => v_lenS (Try.runUnderlying43 w) rfl) ?_
    refine g_valG rfl rfl rfl rfl rfl (fun _ _ => v_neq rfl rfl) ?_
    refine g_val rfl rfl rfl (fun _ _ => v_pickF rfl rfl) ?_
    refine g_nil ?_
    refine g_n_then ?_
    refine g_condF rfl (ndF (by omega)) ?_
    refine g_skip ?_
    refine g_n_then ?_
    refine g_seq ?_
    refine g_region ?_
    refine g_val rfl rfl rfl (fun _ _ => v_move rfl) ?_
    refine g_val rfl rfl rfl (fun w _ => v_lenS (Try.runUnderlying43 w) rfl) ?_
    refine g_val rfl rfl rfl (fun _ _ => v_move rfl) ?_
    refine g_nil ?_
    refine g_n_then ?_
    refine g_block ?_
    refine g_sub (e' := [(132, _), (5, _), (7, _), (8, _), (12, _), (13, _), (16, _), (130, _), (131, _)]) ((.cons rfl (.cons rfl (.cons rfl (.cons rfl (.cons rfl (.cons rfl (.cons rfl (.cons rfl (.cons rfl .nil)))))))))) ?_
    refine g_loopM (ι := Nat) (fun k => [(132, .int .i64 (k : Nat))]) (fun k => []) (fun k => k ≤ L.S.floors.length) (fun k => L.S.floors.length - k) 0 (Nat.zero_le _) ?_
    intro k hI2
    refine g_seq ?_
    refine g_region ?_
    refine g_val rfl rfl rfl (fun _ _ => v_lss rfl rfl) ?_
    refine g_nil ?_
    refine g_n_then ?_
    refine g_seq ?_
    refine g_cond rfl (fun h133 => ?_) (fun h133 => ?_)
    · replace h133 := of_decide_eq_true h133
      have hkn : k < L.S.floors.length := by omega
      have hX := state_told hG hday (hrel k hkn)
      have hY := state_told (s := (⟨L.S.table, W, L.S.floors, L.S.sills⟩ : Sands)) hGT (show dayF (⟨L.S.table, W, L.S.floors, L.S.sills⟩ : Sands) m = true from hday) (k := k) (v := (lawGates L.S).getD k 0) (by have e := gates_wind (s := L.S) (w := W); exact (show gateRel ((gatesOf { L.S with wind := W }).getD k 0) _ from by rw [e]; exact hrel k hkn))
      rw [← statesN_getD hkn] at hX hY
      have eH : heightF (⟨L.S.table, W, L.S.floors, L.S.sills⟩ : Sands) m = heightF L.S m := rfl
      rw [eH] at hY
      simp only at hY
      have ek1 : (lawGates L.S).getD ((k : Nat) : Int).toNat 0 = (lawGates L.S).getD k 0 := by rw [Int.toNat_natCast]
      have hht := height_tight hG hday
      refine g_skip ?_
      refine g_n_then ?_
      refine g_seq ?_
      refine g_block ?_
      refine g_seq ?_
      refine g_region ?_
      refine g_val rfl rfl rfl (fun _ _ => v_move rfl) ?_
      refine g_val rfl rfl rfl (fun w _ => v_indexAddr1 k (Try.runUnderlying43 w) (Try.sizeOf46 w) rfl rfl rfl (by omega) (hqx.ne (by omega))) ?_
      refine g_val rfl rfl rfl (fun w hh => v_load (Try.isAgg46 w) rfl (hh.int (j := k) 1 rfl (by omega))) ?_
      refine g_val rfl rfl rfl (fun _ _ => v_assign rfl) ?_
      refine g_val rfl rfl rfl (fun _ _ => v_assign rfl) ?_
      refine g_nil ?_
      refine g_n_then ?_
      refine g_seq ?_
      refine g_region ?_
      refine g_val rfl rfl rfl (fun _ _ => v_assign rfl) ?_
      refine g_nil ?_
      refine g_n_then ?_
      refine g_seq ?_
      refine g_seq ?_
      refine g_draw none (.hoist 0 (.free 1 (.free 2 (.free 3 (.free 4 (.free 5 (.hoist 6 (.hoist 8 (.free 9 (.free 10 (.free 11 (.free 12 (.free 13 (.hoist 14 (.one 7 (.one 15 (.free 16 (.free 17 .done)))))))))))))))))) _ rfl (by decide +kernel) (fun w k hh => hh.draw k) (fun w hh => hh) ?_
      refine p_hoist rfl rfl rfl rfl (fun w hh => v_loadAgg (vs := [_, _, _, _, _]) (Try.isAgg29 w) (Try.sizeOf29 w) rfl (hh.cells 3 rfl rfl)) ?_
      refine p_free rfl rfl rfl rfl (fun _ _ => v_move rfl) ?_
      refine p_free rfl rfl rfl rfl (fun _ _ => v_move rfl) ?_
      refine p_free rfl rfl rfl rfl (fun _ _ => v_move rfl) ?_
      refine p_free rfl rfl rfl rfl (fun w _ => v_fieldAddr 1 (Try.runUnderlying29 w) rfl (Try.sizeOf25 w) rfl) ?_
      refine p_free rfl rfl rfl rfl (fun w _ => v_fieldAddr 0 (Try.runUnderlying25 w) rfl (Try.sizeOf3 w) rfl) ?_
      refine p_hoist rfl rfl rfl rfl (fun w hh => v_load (Try.isAgg3 w) rfl (hh.cell 3 rfl rfl)) ?_
      refine p_hoist rfl rfl rfl rfl (fun w hh => v_loadAgg (vs := [_, _, _, _, _]) (Try.isAgg29 w) (Try.sizeOf29 w) rfl (hh.cells 3 rfl rfl)) ?_
      refine p_free rfl rfl rfl rfl (fun _ _ => v_move rfl) ?_
      refine p_free rfl rfl rfl rfl (fun _ _ => v_move rfl) ?_
      refine p_free rfl rfl rfl rfl (fun _ _ => v_move rfl) ?_
      refine p_free rfl rfl rfl rfl (fun w _ => v_fieldAddr 1 (Try.runUnderlying29 w) rfl (Try.sizeOf25 w) rfl) ?_
      refine p_free rfl rfl rfl rfl (fun w _ => v_fieldAddr 1 (Try.runUnderlying25 w) rfl (Try.sizeOf3 w) rfl) ?_
      refine p_hoist rfl rfl rfl rfl (fun w hh => v_load (Try.isAgg3 w) rfl (hh.cell 3 rfl rfl)) ?_
      refine p_one rfl ?_
      refine g_callv rfl rfl rfl rfl rfl rfl rfl (fun a w => Try.call29 a w) (fun w hh => c_wet g8.1 (lawGates L.S) g8.2 _ _ _ L w (hB.at hh 7 rfl rfl rfl) hG hg8.ne (hh.seg 6 rfl) hday (by omega) (by omega)) ?_
      refine p_next (fun w hh => hh) ?_
      refine p_one rfl ?_
      refine g_callv rfl rfl rfl rfl rfl rfl rfl (fun a w => Try.call29 a w) (fun w hh => c_wet g8.1 (lawGates L.S) g8.2 _ _ _ L w (hB.at hh 7 rfl rfl rfl) hG hg8.ne (hh.seg 6 rfl) hday (by omega) (by omega)) ?_
      refine p_next (fun w hh => hh) ?_
      refine p_free rfl rfl rfl rfl (fun _ _ => v_assign rfl) ?_
      refine p_free rfl rfl rfl rfl (fun _ _ => v_assign rfl) ?_
      refine p_done ?_
      refine g_n_then ?_
      refine g_block ?_
      refine g_seq ?_
      refine g_region ?_
      refine g_val rfl rfl rfl (fun _ _ => v_move rfl) ?_
      refine g_val rfl rfl rfl (fun _ _ => v_assign rfl) ?_
      refine g_nil ?_
      refine g_n_then ?_
      refine g_cond rfl (fun h153 => ?_) (fun h153 => ?_)
      · replace h153 := of_decide_eq_true h153
        refine g_region ?_
        refine g_val rfl rfl rfl (fun _ _ => v_assign rfl) ?_
        refine g_nil ?_
        refine g_n_blk ?_
        refine g_n_then ?_
        refine g_seq ?_
        refine g_region ?_
        refine g_val rfl rfl rfl (fun _ _ => v_move rfl) ?_
        refine g_val rfl rfl rfl (fun _ _ => v_move rfl) ?_
        refine g_val rfl rfl rfl (fun w _ => v_indexAddr1 k (Try.runUnderlying43 w) (Try.sizeOf46 w) rfl rfl rfl (by omega) (hqy.ne (by omega))) ?_
        refine g_val rfl rfl rfl (fun w hh => v_load (Try.isAgg46 w) rfl (hh.int (j := k) 0 rfl (by omega))) ?_
        refine g_val rfl rfl rfl (fun _ _ => v_assign rfl) ?_
        refine g_nil ?_
        refine g_n_then ?_
        refine g_seq ?_
        refine g_region ?_
        refine g_val rfl rfl rfl (fun _ _ => v_move rfl) ?_
        refine g_val rfl rfl rfl (fun _ _ => v_move rfl) ?_
        refine g_val rfl rfl rfl (fun _ _ => v_neq rfl rfl) ?_
        refine g_val rfl rfl rfl (fun _ _ => v_move rfl) ?_
        refine g_set 165 (u := .bool false) rfl (congrArg Value.bool (ndF (by omega))) ?_
        refine g_valG rfl rfl rfl rfl rfl (fun _ _ => v_move rfl) ?_
        refine g_valG rfl rfl rfl rfl rfl (fun _ _ => v_neq rfl rfl) ?_
        refine g_valG rfl rfl rfl rfl rfl (fun _ _ => v_move rfl) ?_
        refine g_set 168 (u := .bool true) rfl (congrArg Value.bool (ndT (by omega))) ?_
        refine g_valG rfl rfl rfl rfl rfl (fun _ _ => v_move rfl) ?_
        refine g_valG rfl rfl rfl rfl rfl (fun _ _ => v_move rfl) ?_
        refine g_valG rfl rfl rfl rfl rfl (fun _ _ => v_neq rfl rfl) ?_
        refine g_valG rfl rfl rfl rfl rfl (fun _ _ => v_pickT rfl rfl) ?_
        refine g_val rfl rfl rfl (fun _ _ => v_pickF rfl rfl) ?_
        refine g_val rfl rfl rfl (fun _ _ => v_move rfl) ?_
        refine g_set 174 (u := .bool false) rfl (congrArg Value.bool (ndF (by omega))) ?_
        refine g_valG rfl rfl rfl rfl rfl (fun _ _ => v_move rfl) ?_
        refine g_valG rfl rfl rfl rfl rfl (fun _ _ => v_eql rfl rfl) ?_
        refine g_valG rfl rfl rfl rfl rfl (fun _ _ => v_move rfl) ?_
        refine g_case 177 rfl (fun h177 => ?_) (fun h177 => ?_)
        · replace h177 := of_decide_eq_true h177
          refine g_valG rfl rfl rfl rfl rfl (fun w hh => v_loadAgg (vs := [_, _, _, _, _]) (Try.isAgg29 w) (Try.sizeOf29 w) rfl (hh.cells 3 rfl rfl)) ?_
          refine g_valG rfl rfl rfl rfl rfl (fun _ _ => v_move rfl) ?_
          refine g_valG rfl rfl rfl rfl rfl (fun _ _ => v_move rfl) ?_
          refine g_valG rfl rfl rfl rfl rfl (fun _ _ => v_move rfl) ?_
          refine g_valG rfl rfl rfl rfl rfl (fun _ _ => v_move rfl) ?_
          refine g_callvG rfl rfl rfl rfl rfl rfl rfl rfl rfl (fun a w => Try.call29 a w) (fun w hh => c_wet g8.1 (lawGates L.S) g8.2 _ _ _ L w (hB.at hh 7 rfl rfl rfl) hG hg8.ne (hh.seg 6 rfl) hday (by omega) (by omega)) ?_
          refine g_valG rfl rfl rfl rfl rfl (fun _ _ => v_pickT rfl rfl) ?_
          refine g_val rfl rfl rfl (fun _ _ => v_pickF rfl rfl) ?_
          refine g_val rfl rfl rfl (fun _ _ => v_move rfl) ?_
          refine g_set 186 (u := .bool false) rfl (congrArg Value.bool (decide_eq_false (by omega))) ?_
          refine g_valG rfl rfl rfl rfl rfl (fun _ _ => v_move rfl) ?_
          refine g_valG rfl rfl rfl rfl rfl (fun _ _ => v_eql rfl rfl) ?_
          refine g_valG rfl rfl rfl rfl rfl (fun _ _ => v_move rfl) ?_
          refine g_case 189 rfl (fun h189 => ?_) (fun h189 => ?_)
          · replace h189 := of_decide_eq_true h189
            refine g_valG rfl rfl rfl rfl rfl (fun w hh => v_loadAgg (vs := [_, _, _, _, _]) (Try.isAgg29 w) (Try.sizeOf29 w) rfl (hh.cells 3 rfl rfl)) ?_
            refine g_valG rfl rfl rfl rfl rfl (fun _ _ => v_move rfl) ?_
            refine g_valG rfl rfl rfl rfl rfl (fun _ _ => v_move rfl) ?_
            refine g_valG rfl rfl rfl rfl rfl (fun _ _ => v_move rfl) ?_
            refine g_valG rfl rfl rfl rfl rfl (fun _ _ => v_move rfl) ?_
            refine g_callvG rfl rfl rfl rfl rfl rfl rfl rfl rfl (fun a w => Try.call29 a w) (fun w hh => c_wet g8.1 (lawGates L.S) g8.2 _ _ _ L w (hB.at hh 7 rfl rfl rfl) hG hg8.ne (hh.seg 6 rfl) hday (by omega) (by omega)) ?_
            refine g_valG rfl rfl rfl rfl rfl (fun _ _ => v_not rfl) ?_
            refine g_valG rfl rfl rfl rfl rfl (fun _ _ => v_pickT rfl rfl) ?_
            refine g_val rfl rfl rfl (fun _ _ => v_pickF rfl rfl) ?_
            refine g_nil ?_
            refine g_n_then ?_
            refine g_condF rfl (nd_p (by omega)) ?_
            refine g_skip ?_
            refine g_n_blk ?_
            refine g_n_then ?_
            refine g_region ?_
            refine g_val rfl rfl rfl (fun _ _ => v_add rfl rfl (wrap_i64 (by omega))) ?_
            refine g_val rfl rfl rfl (fun _ _ => v_move rfl) ?_
            refine g_nil ?_
            refine g_n_then ?_
            exact g_againM (i := k) (k + 1) [0, 1, 2, 3, 4] ((.cons rfl (.cons rfl (.cons rfl (.cons rfl (.cons rfl (.cons rfl (.cons rfl (.cons rfl (.cons rfl .nil)))))))))) (by decide) rfl (by omega) (by omega)
          · replace h189 := of_decide_eq_false h189
            refine g_skipG rfl rfl rfl rfl rfl rfl ?_
            refine g_skipG rfl rfl rfl rfl rfl rfl ?_
            refine g_skipG rfl rfl rfl rfl rfl rfl ?_
            refine g_skipG rfl rfl rfl rfl rfl rfl ?_
            refine g_skipG rfl rfl rfl rfl rfl rfl ?_
            refine g_skipG rfl rfl rfl rfl rfl rfl ?_
            refine g_skipG rfl rfl rfl rfl rfl rfl ?_
            refine g_valG rfl rfl rfl rfl rfl (fun _ _ => v_pickF rfl rfl) ?_
            refine g_val rfl rfl rfl (fun _ _ => v_pickF rfl rfl) ?_
            refine g_nil ?_
            refine g_n_then ?_
            refine g_condF rfl rfl ?_
            refine g_skip ?_
            refine g_n_blk ?_
            refine g_n_then ?_
            refine g_region ?_
            refine g_val rfl rfl rfl (fun _ _ => v_add rfl rfl (wrap_i64 (by omega))) ?_
            refine g_val rfl rfl rfl (fun _ _ => v_move rfl) ?_
            refine g_nil ?_
            refine g_n_then ?_
            exact g_againM (i := k) (k + 1) [0, 1, 2, 3, 4] ((.cons rfl (.cons rfl (.cons rfl (.cons rfl (.cons rfl (.cons rfl (.cons rfl (.cons rfl (.cons rfl .nil)))))))))) (by decide) rfl (by omega) (by omega)
        · replace h177 := of_decide_eq_false h177
          refine g_skipG rfl rfl rfl rfl rfl rfl ?_
          refine g_skipG rfl rfl rfl rfl rfl rfl ?_
          refine g_skipG rfl rfl rfl rfl rfl rfl ?_
          refine g_skipG rfl rfl rfl rfl rfl rfl ?_
          refine g_skipG rfl rfl rfl rfl rfl rfl ?_
          refine g_skipG rfl rfl rfl rfl rfl rfl ?_
          refine g_valG rfl rfl rfl rfl rfl (fun _ _ => v_pickF rfl rfl) ?_
          refine g_val rfl rfl rfl (fun _ _ => v_pickF rfl rfl) ?_
          refine g_val rfl rfl rfl (fun _ _ => v_move rfl) ?_
          refine g_valG rfl rfl rfl rfl rfl (fun _ _ => v_move rfl) ?_
          refine g_valG rfl rfl rfl rfl rfl (fun _ _ => v_eql rfl rfl) ?_
          refine g_valG rfl rfl rfl rfl rfl (fun _ _ => v_move rfl) ?_
          refine g_case 189 rfl (fun h189 => ?_) (fun h189 => ?_)
          · replace h189 := of_decide_eq_true h189
            refine g_valG rfl rfl rfl rfl rfl (fun w hh => v_loadAgg (vs := [_, _, _, _, _]) (Try.isAgg29 w) (Try.sizeOf29 w) rfl (hh.cells 3 rfl rfl)) ?_
            refine g_valG rfl rfl rfl rfl rfl (fun _ _ => v_move rfl) ?_
            refine g_valG rfl rfl rfl rfl rfl (fun _ _ => v_move rfl) ?_
            refine g_valG rfl rfl rfl rfl rfl (fun _ _ => v_move rfl) ?_
            refine g_valG rfl rfl rfl rfl rfl (fun _ _ => v_move rfl) ?_
            refine g_callvG rfl rfl rfl rfl rfl rfl rfl rfl rfl (fun a w => Try.call29 a w) (fun w hh => c_wet g8.1 (lawGates L.S) g8.2 _ _ _ L w (hB.at hh 7 rfl rfl rfl) hG hg8.ne (hh.seg 6 rfl) hday (by omega) (by omega)) ?_
            refine g_valG rfl rfl rfl rfl rfl (fun _ _ => v_not rfl) ?_
            refine g_valG rfl rfl rfl rfl rfl (fun _ _ => v_pickT rfl rfl) ?_
            refine g_val rfl rfl rfl (fun _ _ => v_pickF rfl rfl) ?_
            refine g_nil ?_
            refine g_n_then ?_
            refine g_condF rfl (nd_p (by omega)) ?_
            refine g_skip ?_
            refine g_n_blk ?_
            refine g_n_then ?_
            refine g_region ?_
            refine g_val rfl rfl rfl (fun _ _ => v_add rfl rfl (wrap_i64 (by omega))) ?_
            refine g_val rfl rfl rfl (fun _ _ => v_move rfl) ?_
            refine g_nil ?_
            refine g_n_then ?_
            exact g_againM (i := k) (k + 1) [0, 1, 2, 3, 4] ((.cons rfl (.cons rfl (.cons rfl (.cons rfl (.cons rfl (.cons rfl (.cons rfl (.cons rfl (.cons rfl .nil)))))))))) (by decide) rfl (by omega) (by omega)
          · replace h189 := of_decide_eq_false h189
            refine g_skipG rfl rfl rfl rfl rfl rfl ?_
            refine g_skipG rfl rfl rfl rfl rfl rfl ?_
            refine g_skipG rfl rfl rfl rfl rfl rfl ?_
            refine g_skipG rfl rfl rfl rfl rfl rfl ?_
            refine g_skipG rfl rfl rfl rfl rfl rfl ?_
            refine g_skipG rfl rfl rfl rfl rfl rfl ?_
            refine g_skipG rfl rfl rfl rfl rfl rfl ?_
            refine g_valG rfl rfl rfl rfl rfl (fun _ _ => v_pickF rfl rfl) ?_
            refine g_val rfl rfl rfl (fun _ _ => v_pickF rfl rfl) ?_
            refine g_nil ?_
            refine g_n_then ?_
            refine g_condF rfl rfl ?_
            refine g_skip ?_
            refine g_n_blk ?_
            refine g_n_then ?_
            refine g_region ?_
            refine g_val rfl rfl rfl (fun _ _ => v_add rfl rfl (wrap_i64 (by omega))) ?_
            refine g_val rfl rfl rfl (fun _ _ => v_move rfl) ?_
            refine g_nil ?_
            refine g_n_then ?_
            exact g_againM (i := k) (k + 1) [0, 1, 2, 3, 4] ((.cons rfl (.cons rfl (.cons rfl (.cons rfl (.cons rfl (.cons rfl (.cons rfl (.cons rfl (.cons rfl .nil)))))))))) (by decide) rfl (by omega) (by omega)
      · replace h153 := of_decide_eq_false h153
        refine g_seq ?_
        refine g_region ?_
        refine g_val rfl rfl rfl (fun _ _ => v_move rfl) ?_
        refine g_val rfl rfl rfl (fun _ _ => v_not rfl) ?_
        refine g_val rfl rfl rfl (fun _ _ => v_assign rfl) ?_
        refine g_nil ?_
        refine g_n_then ?_
        refine g_cond rfl (fun h155 => ?_) (fun h155 => ?_)
        · replace h155 := of_ndec_true h155
          refine g_region ?_
          refine g_val rfl rfl rfl (fun _ _ => v_assign rfl) ?_
          refine g_nil ?_
          refine g_n_blk ?_
          refine g_n_then ?_
          refine g_seq ?_
          refine g_region ?_
          refine g_val rfl rfl rfl (fun _ _ => v_move rfl) ?_
          refine g_val rfl rfl rfl (fun _ _ => v_move rfl) ?_
          refine g_val rfl rfl rfl (fun w _ => v_indexAddr1 k (Try.runUnderlying43 w) (Try.sizeOf46 w) rfl rfl rfl (by omega) (hqy.ne (by omega))) ?_
          refine g_val rfl rfl rfl (fun w hh => v_load (Try.isAgg46 w) rfl (hh.int (j := k) 0 rfl (by omega))) ?_
          refine g_val rfl rfl rfl (fun _ _ => v_assign rfl) ?_
          refine g_nil ?_
          refine g_n_then ?_
          refine g_seq ?_
          refine g_region ?_
          refine g_val rfl rfl rfl (fun _ _ => v_move rfl) ?_
          refine g_val rfl rfl rfl (fun _ _ => v_move rfl) ?_
          refine g_val rfl rfl rfl (fun _ _ => v_neq rfl rfl) ?_
          refine g_val rfl rfl rfl (fun _ _ => v_move rfl) ?_
          refine g_set 165 (u := .bool false) rfl (congrArg Value.bool (ndF (by omega))) ?_
          refine g_valG rfl rfl rfl rfl rfl (fun _ _ => v_move rfl) ?_
          refine g_valG rfl rfl rfl rfl rfl (fun _ _ => v_neq rfl rfl) ?_
          refine g_valG rfl rfl rfl rfl rfl (fun _ _ => v_move rfl) ?_
          refine g_set 168 (u := .bool true) rfl (congrArg Value.bool (ndT (by omega))) ?_
          refine g_valG rfl rfl rfl rfl rfl (fun _ _ => v_move rfl) ?_
          refine g_valG rfl rfl rfl rfl rfl (fun _ _ => v_move rfl) ?_
          refine g_valG rfl rfl rfl rfl rfl (fun _ _ => v_neq rfl rfl) ?_
          refine g_valG rfl rfl rfl rfl rfl (fun _ _ => v_pickT rfl rfl) ?_
          refine g_val rfl rfl rfl (fun _ _ => v_pickF rfl rfl) ?_
          refine g_val rfl rfl rfl (fun _ _ => v_move rfl) ?_
          refine g_set 174 (u := .bool false) rfl (congrArg Value.bool (ndF (by omega))) ?_
          refine g_valG rfl rfl rfl rfl rfl (fun _ _ => v_move rfl) ?_
          refine g_valG rfl rfl rfl rfl rfl (fun _ _ => v_eql rfl rfl) ?_
          refine g_valG rfl rfl rfl rfl rfl (fun _ _ => v_move rfl) ?_
          refine g_case 177 rfl (fun h177 => ?_) (fun h177 => ?_)
          · replace h177 := of_decide_eq_true h177
            refine g_valG rfl rfl rfl rfl rfl (fun w hh => v_loadAgg (vs := [_, _, _, _, _]) (Try.isAgg29 w) (Try.sizeOf29 w) rfl (hh.cells 3 rfl rfl)) ?_
            refine g_valG rfl rfl rfl rfl rfl (fun _ _ => v_move rfl) ?_
            refine g_valG rfl rfl rfl rfl rfl (fun _ _ => v_move rfl) ?_
            refine g_valG rfl rfl rfl rfl rfl (fun _ _ => v_move rfl) ?_
            refine g_valG rfl rfl rfl rfl rfl (fun _ _ => v_move rfl) ?_
            refine g_callvG rfl rfl rfl rfl rfl rfl rfl rfl rfl (fun a w => Try.call29 a w) (fun w hh => c_wet g8.1 (lawGates L.S) g8.2 _ _ _ L w (hB.at hh 7 rfl rfl rfl) hG hg8.ne (hh.seg 6 rfl) hday (by omega) (by omega)) ?_
            refine g_valG rfl rfl rfl rfl rfl (fun _ _ => v_pickT rfl rfl) ?_
            refine g_val rfl rfl rfl (fun _ _ => v_pickF rfl rfl) ?_
            refine g_val rfl rfl rfl (fun _ _ => v_move rfl) ?_
            refine g_set 186 (u := .bool false) rfl (congrArg Value.bool (decide_eq_false (by omega))) ?_
            refine g_valG rfl rfl rfl rfl rfl (fun _ _ => v_move rfl) ?_
            refine g_valG rfl rfl rfl rfl rfl (fun _ _ => v_eql rfl rfl) ?_
            refine g_valG rfl rfl rfl rfl rfl (fun _ _ => v_move rfl) ?_
            refine g_case 189 rfl (fun h189 => ?_) (fun h189 => ?_)
            · replace h189 := of_decide_eq_true h189
              refine g_valG rfl rfl rfl rfl rfl (fun w hh => v_loadAgg (vs := [_, _, _, _, _]) (Try.isAgg29 w) (Try.sizeOf29 w) rfl (hh.cells 3 rfl rfl)) ?_
              refine g_valG rfl rfl rfl rfl rfl (fun _ _ => v_move rfl) ?_
              refine g_valG rfl rfl rfl rfl rfl (fun _ _ => v_move rfl) ?_
              refine g_valG rfl rfl rfl rfl rfl (fun _ _ => v_move rfl) ?_
              refine g_valG rfl rfl rfl rfl rfl (fun _ _ => v_move rfl) ?_
              refine g_callvG rfl rfl rfl rfl rfl rfl rfl rfl rfl (fun a w => Try.call29 a w) (fun w hh => c_wet g8.1 (lawGates L.S) g8.2 _ _ _ L w (hB.at hh 7 rfl rfl rfl) hG hg8.ne (hh.seg 6 rfl) hday (by omega) (by omega)) ?_
              refine g_valG rfl rfl rfl rfl rfl (fun _ _ => v_not rfl) ?_
              refine g_valG rfl rfl rfl rfl rfl (fun _ _ => v_pickT rfl rfl) ?_
              refine g_val rfl rfl rfl (fun _ _ => v_pickF rfl rfl) ?_
              refine g_nil ?_
              refine g_n_then ?_
              refine g_condF rfl (nd_p (by omega)) ?_
              refine g_skip ?_
              refine g_n_blk ?_
              refine g_n_then ?_
              refine g_region ?_
              refine g_val rfl rfl rfl (fun _ _ => v_add rfl rfl (wrap_i64 (by omega))) ?_
              refine g_val rfl rfl rfl (fun _ _ => v_move rfl) ?_
              refine g_nil ?_
              refine g_n_then ?_
              exact g_againM (i := k) (k + 1) [0, 1, 2, 3, 4] ((.cons rfl (.cons rfl (.cons rfl (.cons rfl (.cons rfl (.cons rfl (.cons rfl (.cons rfl (.cons rfl .nil)))))))))) (by decide) rfl (by omega) (by omega)
            · replace h189 := of_decide_eq_false h189
              refine g_skipG rfl rfl rfl rfl rfl rfl ?_
              refine g_skipG rfl rfl rfl rfl rfl rfl ?_
              refine g_skipG rfl rfl rfl rfl rfl rfl ?_
              refine g_skipG rfl rfl rfl rfl rfl rfl ?_
              refine g_skipG rfl rfl rfl rfl rfl rfl ?_
              refine g_skipG rfl rfl rfl rfl rfl rfl ?_
              refine g_skipG rfl rfl rfl rfl rfl rfl ?_
              refine g_valG rfl rfl rfl rfl rfl (fun _ _ => v_pickF rfl rfl) ?_
              refine g_val rfl rfl rfl (fun _ _ => v_pickF rfl rfl) ?_
              refine g_nil ?_
              refine g_n_then ?_
              refine g_condF rfl rfl ?_
              refine g_skip ?_
              refine g_n_blk ?_
              refine g_n_then ?_
              refine g_region ?_
              refine g_val rfl rfl rfl (fun _ _ => v_add rfl rfl (wrap_i64 (by omega))) ?_
              refine g_val rfl rfl rfl (fun _ _ => v_move rfl) ?_
              refine g_nil ?_
              refine g_n_then ?_
              exact g_againM (i := k) (k + 1) [0, 1, 2, 3, 4] ((.cons rfl (.cons rfl (.cons rfl (.cons rfl (.cons rfl (.cons rfl (.cons rfl (.cons rfl (.cons rfl .nil)))))))))) (by decide) rfl (by omega) (by omega)
          · replace h177 := of_decide_eq_false h177
            refine g_skipG rfl rfl rfl rfl rfl rfl ?_
            refine g_skipG rfl rfl rfl rfl rfl rfl ?_
            refine g_skipG rfl rfl rfl rfl rfl rfl ?_
            refine g_skipG rfl rfl rfl rfl rfl rfl ?_
            refine g_skipG rfl rfl rfl rfl rfl rfl ?_
            refine g_skipG rfl rfl rfl rfl rfl rfl ?_
            refine g_valG rfl rfl rfl rfl rfl (fun _ _ => v_pickF rfl rfl) ?_
            refine g_val rfl rfl rfl (fun _ _ => v_pickF rfl rfl) ?_
            refine g_val rfl rfl rfl (fun _ _ => v_move rfl) ?_
            refine g_valG rfl rfl rfl rfl rfl (fun _ _ => v_move rfl) ?_
            refine g_valG rfl rfl rfl rfl rfl (fun _ _ => v_eql rfl rfl) ?_
            refine g_valG rfl rfl rfl rfl rfl (fun _ _ => v_move rfl) ?_
            refine g_case 189 rfl (fun h189 => ?_) (fun h189 => ?_)
            · replace h189 := of_decide_eq_true h189
              refine g_valG rfl rfl rfl rfl rfl (fun w hh => v_loadAgg (vs := [_, _, _, _, _]) (Try.isAgg29 w) (Try.sizeOf29 w) rfl (hh.cells 3 rfl rfl)) ?_
              refine g_valG rfl rfl rfl rfl rfl (fun _ _ => v_move rfl) ?_
              refine g_valG rfl rfl rfl rfl rfl (fun _ _ => v_move rfl) ?_
              refine g_valG rfl rfl rfl rfl rfl (fun _ _ => v_move rfl) ?_
              refine g_valG rfl rfl rfl rfl rfl (fun _ _ => v_move rfl) ?_
              refine g_callvG rfl rfl rfl rfl rfl rfl rfl rfl rfl (fun a w => Try.call29 a w) (fun w hh => c_wet g8.1 (lawGates L.S) g8.2 _ _ _ L w (hB.at hh 7 rfl rfl rfl) hG hg8.ne (hh.seg 6 rfl) hday (by omega) (by omega)) ?_
              refine g_valG rfl rfl rfl rfl rfl (fun _ _ => v_not rfl) ?_
              refine g_valG rfl rfl rfl rfl rfl (fun _ _ => v_pickT rfl rfl) ?_
              refine g_val rfl rfl rfl (fun _ _ => v_pickF rfl rfl) ?_
              refine g_nil ?_
              refine g_n_then ?_
              refine g_condF rfl (nd_p (by omega)) ?_
              refine g_skip ?_
              refine g_n_blk ?_
              refine g_n_then ?_
              refine g_region ?_
              refine g_val rfl rfl rfl (fun _ _ => v_add rfl rfl (wrap_i64 (by omega))) ?_
              refine g_val rfl rfl rfl (fun _ _ => v_move rfl) ?_
              refine g_nil ?_
              refine g_n_then ?_
              exact g_againM (i := k) (k + 1) [0, 1, 2, 3, 4] ((.cons rfl (.cons rfl (.cons rfl (.cons rfl (.cons rfl (.cons rfl (.cons rfl (.cons rfl (.cons rfl .nil)))))))))) (by decide) rfl (by omega) (by omega)
            · replace h189 := of_decide_eq_false h189
              refine g_skipG rfl rfl rfl rfl rfl rfl ?_
              refine g_skipG rfl rfl rfl rfl rfl rfl ?_
              refine g_skipG rfl rfl rfl rfl rfl rfl ?_
              refine g_skipG rfl rfl rfl rfl rfl rfl ?_
              refine g_skipG rfl rfl rfl rfl rfl rfl ?_
              refine g_skipG rfl rfl rfl rfl rfl rfl ?_
              refine g_skipG rfl rfl rfl rfl rfl rfl ?_
              refine g_valG rfl rfl rfl rfl rfl (fun _ _ => v_pickF rfl rfl) ?_
              refine g_val rfl rfl rfl (fun _ _ => v_pickF rfl rfl) ?_
              refine g_nil ?_
              refine g_n_then ?_
              refine g_condF rfl rfl ?_
              refine g_skip ?_
              refine g_n_blk ?_
              refine g_n_then ?_
              refine g_region ?_
              refine g_val rfl rfl rfl (fun _ _ => v_add rfl rfl (wrap_i64 (by omega))) ?_
              refine g_val rfl rfl rfl (fun _ _ => v_move rfl) ?_
              refine g_nil ?_
              refine g_n_then ?_
              exact g_againM (i := k) (k + 1) [0, 1, 2, 3, 4] ((.cons rfl (.cons rfl (.cons rfl (.cons rfl (.cons rfl (.cons rfl (.cons rfl (.cons rfl (.cons rfl .nil)))))))))) (by decide) rfl (by omega) (by omega)
        · replace h155 := of_ndec_false h155
          refine g_skip ?_
          refine g_n_blk ?_
          refine g_n_then ?_
          refine g_seq ?_
          refine g_region ?_
          refine g_val rfl rfl rfl (fun _ _ => v_move rfl) ?_
          refine g_val rfl rfl rfl (fun _ _ => v_move rfl) ?_
          refine g_val rfl rfl rfl (fun w _ => v_indexAddr1 k (Try.runUnderlying43 w) (Try.sizeOf46 w) rfl rfl rfl (by omega) (hqy.ne (by omega))) ?_
          refine g_val rfl rfl rfl (fun w hh => v_load (Try.isAgg46 w) rfl (hh.int (j := k) 0 rfl (by omega))) ?_
          refine g_val rfl rfl rfl (fun _ _ => v_assign rfl) ?_
          refine g_nil ?_
          refine g_n_then ?_
          refine g_seq ?_
          refine g_region ?_
          refine g_val rfl rfl rfl (fun _ _ => v_move rfl) ?_
          refine g_val rfl rfl rfl (fun _ _ => v_move rfl) ?_
          refine g_val rfl rfl rfl (fun _ _ => v_neq rfl rfl) ?_
          refine g_val rfl rfl rfl (fun _ _ => v_move rfl) ?_
          refine g_set 165 (u := .bool false) rfl (congrArg Value.bool (ndF (by omega))) ?_
          refine g_valG rfl rfl rfl rfl rfl (fun _ _ => v_move rfl) ?_
          refine g_valG rfl rfl rfl rfl rfl (fun _ _ => v_neq rfl rfl) ?_
          refine g_valG rfl rfl rfl rfl rfl (fun _ _ => v_move rfl) ?_
          refine g_set 168 (u := .bool false) rfl (congrArg Value.bool (ndF (by omega))) ?_
          refine g_skipG rfl rfl rfl rfl rfl rfl ?_
          refine g_skipG rfl rfl rfl rfl rfl rfl ?_
          refine g_skipG rfl rfl rfl rfl rfl rfl ?_
          refine g_valG rfl rfl rfl rfl rfl (fun _ _ => v_pickF rfl rfl) ?_
          refine g_val rfl rfl rfl (fun _ _ => v_pickF rfl rfl) ?_
          refine g_val rfl rfl rfl (fun _ _ => v_move rfl) ?_
          refine g_valG rfl rfl rfl rfl rfl (fun _ _ => v_move rfl) ?_
          refine g_valG rfl rfl rfl rfl rfl (fun _ _ => v_eql rfl rfl) ?_
          refine g_valG rfl rfl rfl rfl rfl (fun _ _ => v_move rfl) ?_
          refine g_case 177 rfl (fun h177 => ?_) (fun h177 => ?_)
          · replace h177 := of_decide_eq_true h177
            refine g_valG rfl rfl rfl rfl rfl (fun w hh => v_loadAgg (vs := [_, _, _, _, _]) (Try.isAgg29 w) (Try.sizeOf29 w) rfl (hh.cells 3 rfl rfl)) ?_
            refine g_valG rfl rfl rfl rfl rfl (fun _ _ => v_move rfl) ?_
            refine g_valG rfl rfl rfl rfl rfl (fun _ _ => v_move rfl) ?_
            refine g_valG rfl rfl rfl rfl rfl (fun _ _ => v_move rfl) ?_
            refine g_valG rfl rfl rfl rfl rfl (fun _ _ => v_move rfl) ?_
            refine g_callvG rfl rfl rfl rfl rfl rfl rfl rfl rfl (fun a w => Try.call29 a w) (fun w hh => c_wet g8.1 (lawGates L.S) g8.2 _ _ _ L w (hB.at hh 7 rfl rfl rfl) hG hg8.ne (hh.seg 6 rfl) hday (by omega) (by omega)) ?_
            refine g_valG rfl rfl rfl rfl rfl (fun _ _ => v_pickT rfl rfl) ?_
            refine g_val rfl rfl rfl (fun _ _ => v_pickF rfl rfl) ?_
            refine g_val rfl rfl rfl (fun _ _ => v_move rfl) ?_
            refine g_set 186 (u := .bool false) rfl (congrArg Value.bool (decide_eq_false (by omega))) ?_
            refine g_valG rfl rfl rfl rfl rfl (fun _ _ => v_move rfl) ?_
            refine g_valG rfl rfl rfl rfl rfl (fun _ _ => v_eql rfl rfl) ?_
            refine g_valG rfl rfl rfl rfl rfl (fun _ _ => v_move rfl) ?_
            refine g_case 189 rfl (fun h189 => ?_) (fun h189 => ?_)
            · replace h189 := of_decide_eq_true h189
              refine g_valG rfl rfl rfl rfl rfl (fun w hh => v_loadAgg (vs := [_, _, _, _, _]) (Try.isAgg29 w) (Try.sizeOf29 w) rfl (hh.cells 3 rfl rfl)) ?_
              refine g_valG rfl rfl rfl rfl rfl (fun _ _ => v_move rfl) ?_
              refine g_valG rfl rfl rfl rfl rfl (fun _ _ => v_move rfl) ?_
              refine g_valG rfl rfl rfl rfl rfl (fun _ _ => v_move rfl) ?_
              refine g_valG rfl rfl rfl rfl rfl (fun _ _ => v_move rfl) ?_
              refine g_callvG rfl rfl rfl rfl rfl rfl rfl rfl rfl (fun a w => Try.call29 a w) (fun w hh => c_wet g8.1 (lawGates L.S) g8.2 _ _ _ L w (hB.at hh 7 rfl rfl rfl) hG hg8.ne (hh.seg 6 rfl) hday (by omega) (by omega)) ?_
              refine g_valG rfl rfl rfl rfl rfl (fun _ _ => v_not rfl) ?_
              refine g_valG rfl rfl rfl rfl rfl (fun _ _ => v_pickT rfl rfl) ?_
              refine g_val rfl rfl rfl (fun _ _ => v_pickF rfl rfl) ?_
              refine g_nil ?_
              refine g_n_then ?_
              refine g_condF rfl (nd_p (by omega)) ?_
              refine g_skip ?_
              refine g_n_blk ?_
              refine g_n_then ?_
              refine g_region ?_
              refine g_val rfl rfl rfl (fun _ _ => v_add rfl rfl (wrap_i64 (by omega))) ?_
              refine g_val rfl rfl rfl (fun _ _ => v_move rfl) ?_
              refine g_nil ?_
              refine g_n_then ?_
              exact g_againM (i := k) (k + 1) [0, 1, 2, 3, 4] ((.cons rfl (.cons rfl (.cons rfl (.cons rfl (.cons rfl (.cons rfl (.cons rfl (.cons rfl (.cons rfl .nil)))))))))) (by decide) rfl (by omega) (by omega)
            · replace h189 := of_decide_eq_false h189
              refine g_skipG rfl rfl rfl rfl rfl rfl ?_
              refine g_skipG rfl rfl rfl rfl rfl rfl ?_
              refine g_skipG rfl rfl rfl rfl rfl rfl ?_
              refine g_skipG rfl rfl rfl rfl rfl rfl ?_
              refine g_skipG rfl rfl rfl rfl rfl rfl ?_
              refine g_skipG rfl rfl rfl rfl rfl rfl ?_
              refine g_skipG rfl rfl rfl rfl rfl rfl ?_
              refine g_valG rfl rfl rfl rfl rfl (fun _ _ => v_pickF rfl rfl) ?_
              refine g_val rfl rfl rfl (fun _ _ => v_pickF rfl rfl) ?_
              refine g_nil ?_
              refine g_n_then ?_
              refine g_condF rfl rfl ?_
              refine g_skip ?_
              refine g_n_blk ?_
              refine g_n_then ?_
              refine g_region ?_
              refine g_val rfl rfl rfl (fun _ _ => v_add rfl rfl (wrap_i64 (by omega))) ?_
              refine g_val rfl rfl rfl (fun _ _ => v_move rfl) ?_
              refine g_nil ?_
              refine g_n_then ?_
              exact g_againM (i := k) (k + 1) [0, 1, 2, 3, 4] ((.cons rfl (.cons rfl (.cons rfl (.cons rfl (.cons rfl (.cons rfl (.cons rfl (.cons rfl (.cons rfl .nil)))))))))) (by decide) rfl (by omega) (by omega)
          · replace h177 := of_decide_eq_false h177
            refine g_skipG rfl rfl rfl rfl rfl rfl ?_
            refine g_skipG rfl rfl rfl rfl rfl rfl ?_
            refine g_skipG rfl rfl rfl rfl rfl rfl ?_
            refine g_skipG rfl rfl rfl rfl rfl rfl ?_
            refine g_skipG rfl rfl rfl rfl rfl rfl ?_
            refine g_skipG rfl rfl rfl rfl rfl rfl ?_
            refine g_valG rfl rfl rfl rfl rfl (fun _ _ => v_pickF rfl rfl) ?_
            refine g_val rfl rfl rfl (fun _ _ => v_pickF rfl rfl) ?_
            refine g_val rfl rfl rfl (fun _ _ => v_move rfl) ?_
            refine g_valG rfl rfl rfl rfl rfl (fun _ _ => v_move rfl) ?_
            refine g_valG rfl rfl rfl rfl rfl (fun _ _ => v_eql rfl rfl) ?_
            refine g_valG rfl rfl rfl rfl rfl (fun _ _ => v_move rfl) ?_
            refine g_case 189 rfl (fun h189 => ?_) (fun h189 => ?_)
            · replace h189 := of_decide_eq_true h189
              refine g_valG rfl rfl rfl rfl rfl (fun w hh => v_loadAgg (vs := [_, _, _, _, _]) (Try.isAgg29 w) (Try.sizeOf29 w) rfl (hh.cells 3 rfl rfl)) ?_
              refine g_valG rfl rfl rfl rfl rfl (fun _ _ => v_move rfl) ?_
              refine g_valG rfl rfl rfl rfl rfl (fun _ _ => v_move rfl) ?_
              refine g_valG rfl rfl rfl rfl rfl (fun _ _ => v_move rfl) ?_
              refine g_valG rfl rfl rfl rfl rfl (fun _ _ => v_move rfl) ?_
              refine g_callvG rfl rfl rfl rfl rfl rfl rfl rfl rfl (fun a w => Try.call29 a w) (fun w hh => c_wet g8.1 (lawGates L.S) g8.2 _ _ _ L w (hB.at hh 7 rfl rfl rfl) hG hg8.ne (hh.seg 6 rfl) hday (by omega) (by omega)) ?_
              refine g_valG rfl rfl rfl rfl rfl (fun _ _ => v_not rfl) ?_
              refine g_valG rfl rfl rfl rfl rfl (fun _ _ => v_pickT rfl rfl) ?_
              refine g_val rfl rfl rfl (fun _ _ => v_pickF rfl rfl) ?_
              refine g_nil ?_
              refine g_n_then ?_
              refine g_condF rfl (nd_p (by omega)) ?_
              refine g_skip ?_
              refine g_n_blk ?_
              refine g_n_then ?_
              refine g_region ?_
              refine g_val rfl rfl rfl (fun _ _ => v_add rfl rfl (wrap_i64 (by omega))) ?_
              refine g_val rfl rfl rfl (fun _ _ => v_move rfl) ?_
              refine g_nil ?_
              refine g_n_then ?_
              exact g_againM (i := k) (k + 1) [0, 1, 2, 3, 4] ((.cons rfl (.cons rfl (.cons rfl (.cons rfl (.cons rfl (.cons rfl (.cons rfl (.cons rfl (.cons rfl .nil)))))))))) (by decide) rfl (by omega) (by omega)
            · replace h189 := of_decide_eq_false h189
              refine g_skipG rfl rfl rfl rfl rfl rfl ?_
              refine g_skipG rfl rfl rfl rfl rfl rfl ?_
              refine g_skipG rfl rfl rfl rfl rfl rfl ?_
              refine g_skipG rfl rfl rfl rfl rfl rfl ?_
              refine g_skipG rfl rfl rfl rfl rfl rfl ?_
              refine g_skipG rfl rfl rfl rfl rfl rfl ?_
              refine g_skipG rfl rfl rfl rfl rfl rfl ?_
              refine g_valG rfl rfl rfl rfl rfl (fun _ _ => v_pickF rfl rfl) ?_
              refine g_val rfl rfl rfl (fun _ _ => v_pickF rfl rfl) ?_
              refine g_nil ?_
              refine g_n_then ?_
              refine g_condF rfl rfl ?_
              refine g_skip ?_
              refine g_n_blk ?_
              refine g_n_then ?_
              refine g_region ?_
              refine g_val rfl rfl rfl (fun _ _ => v_add rfl rfl (wrap_i64 (by omega))) ?_
              refine g_val rfl rfl rfl (fun _ _ => v_move rfl) ?_
              refine g_nil ?_
              refine g_n_then ?_
              exact g_againM (i := k) (k + 1) [0, 1, 2, 3, 4] ((.cons rfl (.cons rfl (.cons rfl (.cons rfl (.cons rfl (.cons rfl (.cons rfl (.cons rfl (.cons rfl .nil)))))))))) (by decide) rfl (by omega) (by omega)
    · replace h133 := of_decide_eq_false h133
      refine g_exit ?_
      refine g_x_then ?_
      refine g_x_then ?_
      refine g_x_blk ?_
      refine g_n_blk ?_
      refine g_n_then ?_
      refine g_region ?_
      refine g_val rfl rfl rfl (fun _ _ => v_move rfl) ?_
      refine g_val rfl rfl rfl (fun _ _ => v_add rfl rfl (wrap_i64 (by omega))) ?_
      refine g_val rfl rfl rfl (fun _ _ => v_assign rfl) ?_
      refine g_nil ?_
      refine g_n_then ?_
      refine g_roDrop 2 rfl ?_
      exact g_againM (i := m) (m + 1) [0, 1, 2, 3, 4] ((.cons rfl (.cons rfl (.cons rfl (.cons rfl (.cons rfl .nil)))))) (by decide) rfl (⟨by omega, by omega⟩) (by omega)
  · replace h94 := of_decide_eq_false h94
    refine g_exit ?_
    refine g_x_then ?_
    refine g_x_then ?_
    refine g_x_blk ?_
    refine g_n_then ?_
    refine g_seq ?_
    refine g_region ?_
    refine g_callv rfl rfl rfl rfl rfl rfl rfl (fun a w => Try.call30 a w) (fun w hh => c_awake w) ?_
    refine g_val rfl rfl rfl (fun _ _ => v_assign rfl) ?_
    refine g_nil ?_
    refine g_n_then ?_
    refine g_ret ?_
    refine g_done rfl (fun w hh => (.tmp rfl .nil)) (fun w hh => ⟨rfl, hh.toExt⟩)

end Go.Proofs
