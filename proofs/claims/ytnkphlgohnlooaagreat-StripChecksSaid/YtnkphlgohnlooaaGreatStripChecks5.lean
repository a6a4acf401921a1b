/- What the functions that the law StripChecks reaches come to, and why it holds: part 5. -/
import Derived.Test.YtnkphlgohnlooaaGreatStripChecks4
namespace Go.Proofs.Ws
set_option maxHeartbeats 4000000
set_option maxRecDepth 100000
open Go Go.Fw Go.Gx Go.Sp
set_option linter.unusedVariables false
structure m_strip_Weigh_R where
  r0 : Scalps
  r1 : Int
def m_strip_Weigh (s0 : Scalps) (tenant1 : Int) (carried2 : Span) : Option m_strip_Weigh_R :=
 (m_strip_Check s0).bind fun t13 =>
 if t13 = 0 then
 ((m_strip_Scalps_tenant s0 tenant1).bind fun t22 =>
 if (!t22) = true then
 (some (⟨(⟨[], []⟩ : Scalps), 1⟩ : m_strip_Weigh_R)) else
 ((m_strip_allowed carried2).bind fun t27 =>
 if (!t27) = true then
 (some (⟨(⟨[], []⟩ : Scalps), 3⟩ : m_strip_Weigh_R)) else
 (if carried2.hi < carried2.lo then
 (some (⟨(⟨[], []⟩ : Scalps), 4⟩ : m_strip_Weigh_R)) else
 ((ix s0.carried tenant1).bind fun t40 =>
 ((m_strip_least t40.hi [carried2.hi]).bind fun t52 =>
 some (⟨(max t40.lo carried2.lo), t52⟩ : Span)).bind fun o =>
 if o.hi < o.lo then
 (some (⟨(⟨[], []⟩ : Scalps), 7⟩ : m_strip_Weigh_R)) else
 (((m_slices_Clone_stripStripstripStrip s0.strips).bind fun t62 =>
 (makec 16 (⟨0, 0⟩ : Span) (s0.carried.length : Int) (s0.carried.length : Int)).bind fun t66 =>
 some (⟨t62, t66⟩ : Scalps)).bind fun o_1 =>
 if (s0.carried.length : Int) ≤ (o_1.carried.length : Int) then ((some (s0.carried ++ o_1.carried.drop s0.carried.length)).bind fun out11_carried =>
 (ix out11_carried tenant1).bind fun t77 =>
 (some (out11_carried.set (Int.toNat tenant1) o)).bind fun out11_carried_1 =>
 some (⟨(⟨o_1.strips, out11_carried_1⟩ : Scalps), 0⟩ : m_strip_Weigh_R)) else none))))) else
 (some (⟨(⟨[], []⟩ : Scalps), t13⟩ : m_strip_Weigh_R))
theorem c_strip_Weigh (s0 : Scalps) (tenant1 : Int) (carried2 : Span) (qa0 : Option Addr) (na0 ca0 : Nat) (qa1 : Option Addr) (na1 ca1 : Nat) (w : World) (hw : HV w (keys [] []) [] [] [(aB qa0, aO qa0, RSt.enc s0.strips), (aB qa1, aO qa1, RSp.enc s0.carried)] w) (hna0 : s0.strips.length = na0) (hqa0 : AOK na0 qa0) (hla0 : na0 ≤ ca0) (hna1 : s0.carried.length = na1) (hqa1 : AOK na1 qa1) (hla1 : na1 ≤ ca1) {res : m_strip_Weigh_R} (hm : m_strip_Weigh s0 tenant1 carried2 = some res) :
    Calls Tryz.prog 20 #[.agg #[.slice qa0 na0 ca0, .slice qa1 na1 ca1], .int .i64 tenant1, .agg #[.int .i64 carried2.lo, .int .i64 carried2.hi]] w (fun en w' => ∃ l : VL × VL, en = .returned (.tuple #[.agg #[slv l.1.q l.1.n l.1.cap, slv l.2.q l.2.n l.2.cap], .int .i64 res.r1]) ∧ (VOK 7 l.1.n l.1.cap (RSt.enc res.r0.strips) l.1.sp l.1.q ∧ VOK 2 l.2.n l.2.cap (RSp.enc res.r0.carried) l.2.sp l.2.q) ∧ HV w (keys [] []) [] [⟨85, RSt.enc res.r0.strips, l.1.sp, l.1.q, []⟩, ⟨32, RSp.enc res.r0.carried, l.2.sp, l.2.q, []⟩] [] w') := by
  unfold m_strip_Weigh at hm
  refine g_en Tryz.func20 rfl Tryz.ntmps20 rfl (e := [(0, _), (1, _), (2, _)]) rfl hw (g_sr ?_)
  refine g_boxV rfl rfl (fun b h3 => ?_)
  refine g_boxV rfl rfl (fun b_1 h4 => ?_)
  refine g_allocV (fun w => Tryz.zeroValue25 w) rfl (fun b_2 h5 => ?_)
  refine g_as rfl rfl (g_nx (g_la [_, _] 2 Tryz.isAgg25 Tryz.sizeOf25 rfl rfl rfl rfl ?_))
  obtain ⟨t13, h6, hm⟩ := bindO hm
  refine g_callH [] [] rfl rfl rfl rfl rfl rfl rfl Tryz.call32 (fun w hh => c_strip_Check s0 qa0 na0 ca0 qa1 na1 ca1 w (HV.callee (S0 := []) (vs0 := []) hh (roR hh 0 rfl (roR hh 1 rfl roN))) hna0 hqa0 hla0 hna1 hqa1 hla1 h6) (fun l h7 => ?_)
  refine g_as rfl rfl (g_nt (g_seq (g_block (g_sr (g_mv rfl rfl (g_val rfl rfl rfl (fun _ _ => v_neq rfl rfl) (g_as rfl rfl ?_)))))))
  refine g_nt ?_
  refine g_cond rfl (fun h8 => ?_) (fun h8 => ?_)
  ·replace hm := ifF (of_ndec_true h8) hm
   refine g_sr (g_val rfl rfl rfl (fun _ _ => v_build (vs := []) (cells := [_, _]) rfl rfl) (g_mv rfl rfl (g_stSA (us := #[_, _]) (cs' := [_, _]) (S' := [_, _, _]) 0 (fun w => Tryz.sizeOf25 w) rfl rfl rfl rfl rfl rfl rfl (g_as rfl rfl (g_nt (g_ret (g_r_blk ?_)))))))
   refine g_r_then (g_vnil 85 (g_vnil 32 ?_))
   obtain rfl := sj hm
   refine g_done rfl (fun w hh => (.cell rfl (loadVar_agg (vs := [_, _]) (Tryz.isAgg25 _) (Tryz.sizeOf25 _) (hh.cells 0 rfl rfl)) (.tmp rfl .nil))) (fun w hh => ⟨(⟨none, 0, 0, []⟩, ⟨none, 0, 0, []⟩), rfl, ⟨VOK.nil, VOK.nil⟩, hh.se [] [1, 0] 2 rfl rfl rfl rfl⟩)
  ·replace hm := ifT (of_ndec_false h8) hm
   refine g_sr (g_la [_, _] 2 Tryz.isAgg25 Tryz.sizeOf25 rfl rfl rfl rfl (g_mv rfl rfl ?_))
   obtain ⟨t22, h9, hm⟩ := bindO hm
   refine g_callH [] [] rfl rfl rfl rfl rfl rfl rfl Tryz.call68 (fun w hh => c_strip_Scalps_tenant s0 tenant1 qa0 na0 ca0 qa1 na1 ca1 w (HV.callee (S0 := []) (vs0 := []) hh (roR hh 0 rfl (roR hh 1 rfl roN))) hna0 hqa0 hla0 hna1 hqa1 hla1 h9) (fun l_1 h10 => ?_)
   refine g_val rfl rfl rfl (fun _ _ => v_not rfl) (g_as rfl rfl (g_nt ?_))
   refine g_cond rfl (fun h11 => ?_) (fun h11 => ?_)
   ·replace hm := ifT (h11) hm
    refine g_sr (g_val rfl rfl rfl (fun _ _ => v_build (vs := []) (cells := [_, _]) rfl rfl) (g_stSA (us := #[_, _]) (cs' := [_, _]) (S' := [_, _, _]) 0 (fun w => Tryz.sizeOf25 w) rfl rfl rfl rfl rfl rfl rfl (g_as rfl rfl (g_nt (g_ret (g_r_blk (g_r_then ?_)))))))
    refine g_vnil 85 (g_vnil 32 ?_)
    obtain rfl := sj hm
    refine g_done rfl (fun w hh => (.cell rfl (loadVar_agg (vs := [_, _]) (Tryz.isAgg25 _) (Tryz.sizeOf25 _) (hh.cells 0 rfl rfl)) (.tmp rfl .nil))) (fun w hh => ⟨(⟨none, 0, 0, []⟩, ⟨none, 0, 0, []⟩), rfl, ⟨VOK.nil, VOK.nil⟩, hh.se [] [1, 0] 2 rfl rfl rfl rfl⟩)
   ·replace hm := ifN h11 hm
    refine g_sr (g_la [_, _] 1 Tryz.isAgg32 Tryz.sizeOf32 rfl rfl rfl rfl ?_)
    obtain ⟨t27, h12, hm⟩ := bindO hm
    refine g_callH [] [] rfl rfl rfl rfl rfl rfl rfl Tryz.call73 (fun w hh => c_strip_allowed carried2 w (HV.callee (S0 := []) (vs0 := []) hh roN)  h12) (fun l_2 h13 => ?_)
    refine g_val rfl rfl rfl (fun _ _ => v_not rfl) (g_as rfl rfl (g_nt ?_))
    refine g_cond rfl (fun h14 => ?_) (fun h14 => ?_)
    ·replace hm := ifT (h14) hm
     refine g_sr (g_val rfl rfl rfl (fun _ _ => v_build (vs := []) (cells := [_, _]) rfl rfl) (g_stSA (us := #[_, _]) (cs' := [_, _]) (S' := [_, _, _]) 0 (fun w => Tryz.sizeOf25 w) rfl rfl rfl rfl rfl rfl rfl (g_as rfl rfl (g_nt (g_ret (g_r_blk (g_r_then ?_)))))))
     refine g_vnil 85 (g_vnil 32 ?_)
     obtain rfl := sj hm
     refine g_done rfl (fun w hh => (.cell rfl (loadVar_agg (vs := [_, _]) (Tryz.isAgg25 _) (Tryz.sizeOf25 _) (hh.cells 0 rfl rfl)) (.tmp rfl .nil))) (fun w hh => ⟨(⟨none, 0, 0, []⟩, ⟨none, 0, 0, []⟩), rfl, ⟨VOK.nil, VOK.nil⟩, hh.se [] [1, 0] 2 rfl rfl rfl rfl⟩)
    ·replace hm := ifN h14 hm
     refine g_sr (g_fa 0 Tryz.runUnderlying32 rfl Tryz.sizeOf3 rfl rfl (g_lc 1 Tryz.isAgg3 rfl rfl rfl rfl (g_fa 1 Tryz.runUnderlying32 rfl Tryz.sizeOf3 rfl rfl (g_lc 1 Tryz.isAgg3 rfl rfl rfl rfl (g_val rfl rfl rfl (fun _ _ => v_gtr rfl rfl) (g_as rfl rfl (g_nt ?_)))))))
     refine g_cond rfl (fun h15 => ?_) (fun h15 => ?_)
     ·replace hm := ifD h15 hm
      refine g_sr (g_val rfl rfl rfl (fun _ _ => v_build (vs := []) (cells := [_, _]) rfl rfl) (g_stSA (us := #[_, _]) (cs' := [_, _]) (S' := [_, _, _]) 0 (fun w => Tryz.sizeOf25 w) rfl rfl rfl rfl rfl rfl rfl (g_as rfl rfl (g_nt (g_ret (g_r_blk (g_r_then ?_)))))))
      refine g_vnil 85 (g_vnil 32 ?_)
      obtain rfl := sj hm
      refine g_done rfl (fun w hh => (.cell rfl (loadVar_agg (vs := [_, _]) (Tryz.isAgg25 _) (Tryz.sizeOf25 _) (hh.cells 0 rfl rfl)) (.tmp rfl .nil))) (fun w hh => ⟨(⟨none, 0, 0, []⟩, ⟨none, 0, 0, []⟩), rfl, ⟨VOK.nil, VOK.nil⟩, hh.se [] [1, 0] 2 rfl rfl rfl rfl⟩)
     ·replace hm := ifE h15 hm
      refine g_skip (g_n_blk (g_n_then (g_sr (g_fa 1 Tryz.runUnderlying25 rfl Tryz.sizeOf23 rfl rfl (g_lc 2 Tryz.isAgg23 rfl rfl rfl rfl (g_mv rfl rfl ?_))))))
      obtain ⟨t40, h16, hm⟩ := bindO hm
      refine g_val rfl rfl rfl (fun w _ => v_ixR h16 (Tryz.runUnderlying23 w) (Tryz.sizeOf32 w) rfl rfl hna1 hqa1) ?_
      refine g_val rfl rfl rfl (fun w hh => v_ldEA RSp 0 [.int .i64 t40.lo, .int .i64 t40.hi] h16 (Tryz.isAgg32 w) (Tryz.sizeOf32 w) rfl (hh.seg 1 rfl) rfl (Nat.add_zero _).symm) ?_
      refine g_allocV (fun w => Tryz.zeroValue32 w) rfl (fun b_3 h17 => ?_)
      refine g_stSA (us := #[_, _]) (cs' := [_, _]) (S' := [_, _, _, _]) 0 (fun w => Tryz.sizeOf32 w) rfl rfl rfl rfl rfl rfl rfl (g_nt (g_seq ?_))
      obtain ⟨o, h18, h19⟩ := bindO hm
      refine g_cut (ι := Nat) (fun l_3 => True) (fun l_3 => [(1, .int .i64 tenant1), (3, ptr b 0), (6, ptr b_2 0), (10, ptr l_3 0)]) (fun l_3 => [(b_3, .cells #[.int .i64 t40.lo, .int .i64 t40.hi] 32 (0, 0)), (b_2, .cells #[slv none 0 0, slv none 0 0] 25 (0, 0)), (b_1, .cells #[.int .i64 carried2.lo, .int .i64 carried2.hi] 32 (0, 0)), (b, .cells #[.slice qa0 na0 ca0, .slice qa1 na1 ca1] 25 (0, 0)), (l_3, .cells #[.int .i64 o.lo, .int .i64 o.hi] 32 (0, 0))]) (fun l_3 => []) ?_ ?_
      ·replace hm := h18
       obtain ⟨t52, h20, hm⟩ := bindO hm
       refine g_draw none (.free 0 (.hoist 1 (.free 2 (.hoist 3 (.free 4 (.free 5 (.hoist 6 (.free 7 (.hoist 8 (.br (.alt 9 (.br (.alt 10 (.free 11 (.one 12 (.one 13 .done))) (.alt 12 (.one 10 (.free 11 (.one 13 .done))) .nil))) (.alt 12 (.one 9 (.one 10 (.free 11 (.one 13 .done)))) .nil)))))))))))) _ rfl (by decide +kernel) (fun w k hh => hh.draw k) (fun w hh => hh) ?_
       refine p_fa 0 Tryz.runUnderlying32 Tryz.sizeOf3 rfl rfl rfl rfl (p_lc 0 Tryz.isAgg3 rfl rfl rfl rfl rfl (p_fa 0 Tryz.runUnderlying32 Tryz.sizeOf3 rfl rfl rfl rfl (p_lc 2 Tryz.isAgg3 rfl rfl rfl rfl rfl (p_free rfl rfl rfl rfl (fun _ _ => v_max rfl rfl) (p_fa 1 Tryz.runUnderlying32 Tryz.sizeOf3 rfl rfl rfl rfl (p_lc 0 Tryz.isAgg3 rfl rfl rfl rfl rfl (p_fa 1 Tryz.runUnderlying32 Tryz.sizeOf3 rfl rfl rfl rfl ?_)))))))
       refine p_lc 2 Tryz.isAgg3 rfl rfl rfl rfl rfl (p_br ?_)
       refine p_alt rfl ?_ ?_
       ·refine g_vlit RI [carried2.hi] (ps := [(0, _)]) (cells := [_]) (fun w => Tryz.runUnderlying26 w) (fun w => Tryz.sizeOf3 w) (fun w => Tryz.zeroValue3 w) rfl rfl rfl rfl rfl rfl rfl rfl (fun L h21 => ?_)
        refine p_next (hsE [0, 1, 2, 3] [] 0 rfl rfl rfl rfl) (p_br ?_)
        refine p_alt rfl ?_ ?_
        ·refine g_callH [] [] rfl rfl rfl rfl rfl rfl rfl Tryz.call74 (fun w hh => c_strip_least t40.hi [carried2.hi] (qA L.q) L.n L.cap w (HV.callee (S0 := []) (vs0 := []) hh (roC (hh.vsepA 0 rfl h21) roN)) (vlen RI h21 rfl) (AOK.q (vne h21)) (h21).hle h20) (fun l_4 h22 => ?_)
         refine p_next (hsE [0, 1, 2, 3] [] 0 rfl rfl rfl rfl) (p_free rfl rfl rfl rfl (fun _ _ => v_build (vs := [(0, _), (1, _)]) (cells := [_, _]) rfl rfl) (p_one rfl ?_))
         refine g_allocV (fun w => Tryz.zeroValue32 w) rfl (fun b_4 h23 => ?_)
         refine p_next (hsE [1, 2, 3, 4] [] 0 rfl rfl rfl rfl) (p_one rfl (g_stSA (us := #[_, _]) (cs' := [_, _]) (S' := [_, _, _, _, _]) 0 (fun w => Tryz.sizeOf32 w) rfl rfl rfl rfl rfl rfl rfl (p_next (hsE [1, 2, 3, 4] [] 0 rfl rfl rfl rfl) (p_done ?_))))
         obtain rfl := sj hm
         exact g_leaf b_4 (trivial) (sE rfl) (hsE [1, 2, 3, 4, 0] [] 0 rfl rfl rfl rfl)
        refine p_alt rfl ?_ ?_
        ·refine g_allocV (fun w => Tryz.zeroValue32 w) rfl (fun b_5 h24 => ?_)
         refine p_next (hsE [1, 2, 3, 4] [] 0 rfl rfl rfl rfl) (p_one rfl ?_)
         refine g_callH [] [] rfl rfl rfl rfl rfl rfl rfl Tryz.call74 (fun w hh => c_strip_least t40.hi [carried2.hi] (qA L.q) L.n L.cap w (HV.callee (S0 := []) (vs0 := []) hh (roC (hh.vsepA 0 rfl h21) roN)) (vlen RI h21 rfl) (AOK.q (vne h21)) (h21).hle h20) (fun l_5 h25 => ?_)
         refine p_next (hsE [1, 2, 3, 4] [] 0 rfl rfl rfl rfl) (p_free rfl rfl rfl rfl (fun _ _ => v_build (vs := [(0, _), (1, _)]) (cells := [_, _]) rfl rfl) (p_one rfl (g_stSA (us := #[_, _]) (cs' := [_, _]) (S' := [_, _, _, _, _]) 0 (fun w => Tryz.sizeOf32 w) rfl rfl rfl rfl rfl rfl rfl (p_next (hsE [1, 2, 3, 4] [] 0 rfl rfl rfl rfl) (p_done ?_)))))
         obtain rfl := sj hm
         exact g_leaf b_5 (trivial) (sE rfl) (hsE [1, 2, 3, 4, 0] [] 0 rfl rfl rfl rfl)
        exact p_nil
       refine p_alt rfl ?_ ?_
       ·refine g_allocV (fun w => Tryz.zeroValue32 w) rfl (fun b_6 h26 => ?_)
        refine p_next (hsE [1, 2, 3, 4] [] 0 rfl rfl rfl rfl) (p_one rfl ?_)
        refine g_vlit RI [carried2.hi] (ps := [(0, _)]) (cells := [_]) (fun w => Tryz.runUnderlying26 w) (fun w => Tryz.sizeOf3 w) (fun w => Tryz.zeroValue3 w) rfl rfl rfl rfl rfl rfl rfl rfl (fun L_1 h27 => ?_)
        refine p_next (hsE [1, 2, 3, 4] [] 0 rfl rfl rfl rfl) (p_one rfl ?_)
        refine g_callH [] [] rfl rfl rfl rfl rfl rfl rfl Tryz.call74 (fun w hh => c_strip_least t40.hi [carried2.hi] (qA L_1.q) L_1.n L_1.cap w (HV.callee (S0 := []) (vs0 := []) hh (roC (hh.vsepA 0 rfl h27) roN)) (vlen RI h27 rfl) (AOK.q (vne h27)) (h27).hle h20) (fun l_6 h28 => ?_)
        refine p_next (hsE [1, 2, 3, 4] [] 0 rfl rfl rfl rfl) (p_free rfl rfl rfl rfl (fun _ _ => v_build (vs := [(0, _), (1, _)]) (cells := [_, _]) rfl rfl) (p_one rfl (g_stSA (us := #[_, _]) (cs' := [_, _]) (S' := [_, _, _, _, _]) 0 (fun w => Tryz.sizeOf32 w) rfl rfl rfl rfl rfl rfl rfl (p_next (hsE [1, 2, 3, 4] [] 0 rfl rfl rfl rfl) (p_done ?_)))))
        obtain rfl := sj hm
        exact g_leaf b_6 (trivial) (sE rfl) (hsE [1, 2, 3, 4, 0] [] 0 rfl rfl rfl rfl)
       exact p_nil
      ·intro l_3 hj
       replace hm := h19
       refine g_n_then (g_seq (g_sr (g_fa 0 Tryz.runUnderlying32 rfl Tryz.sizeOf3 rfl rfl (g_lc 4 Tryz.isAgg3 rfl rfl rfl rfl (g_fa 1 Tryz.runUnderlying32 rfl Tryz.sizeOf3 rfl rfl (g_lc 4 Tryz.isAgg3 rfl rfl rfl rfl (g_val rfl rfl rfl (fun _ _ => v_gtr rfl rfl) ?_)))))))
       refine g_nt ?_
       refine g_cond rfl (fun h29 => ?_) (fun h29 => ?_)
       ·replace hm := ifD h29 hm
        refine g_sr (g_val rfl rfl rfl (fun _ _ => v_build (vs := []) (cells := [_, _]) rfl rfl) (g_stSA (us := #[_, _]) (cs' := [_, _]) (S' := [_, _, _, _, _]) 1 (fun w => Tryz.sizeOf25 w) rfl rfl rfl rfl rfl rfl rfl (g_as rfl rfl (g_nt (g_ret (g_r_then (g_vnil 85 ?_)))))))
        refine g_vnil 32 ?_
        obtain rfl := sj hm
        refine g_done rfl (fun w hh => (.cell rfl (loadVar_agg (vs := [_, _]) (Tryz.isAgg25 _) (Tryz.sizeOf25 _) (hh.cells 1 rfl rfl)) (.tmp rfl .nil))) (fun w hh => ⟨(⟨none, 0, 0, []⟩, ⟨none, 0, 0, []⟩), rfl, ⟨VOK.nil, VOK.nil⟩, hh.se [] [1, 0] 2 rfl rfl rfl rfl⟩)
       ·replace hm := ifE h29 hm
        refine g_skip (g_n_then (g_seq ?_))
        obtain ⟨o_1, h30, h31⟩ := bindO hm
        refine g_cut (ι := Nat × VL × VL) (fun l_7 => VOK 7 l_7.2.1.n l_7.2.1.cap (RSt.enc o_1.strips) l_7.2.1.sp l_7.2.1.q ∧ VOK 2 l_7.2.2.n l_7.2.2.cap (RSp.enc o_1.carried) l_7.2.2.sp l_7.2.2.q) (fun l_7 => [(1, .int .i64 tenant1), (3, ptr b 0), (6, ptr b_2 0), (10, ptr l_3 0), (11, ptr l_7.1 0)]) (fun l_7 => [(b_3, .cells #[.int .i64 t40.lo, .int .i64 t40.hi] 32 (0, 0)), (b_2, .cells #[slv none 0 0, slv none 0 0] 25 (0, 0)), (b_1, .cells #[.int .i64 carried2.lo, .int .i64 carried2.hi] 32 (0, 0)), (b, .cells #[.slice qa0 na0 ca0, .slice qa1 na1 ca1] 25 (0, 0)), (l_3, .cells #[.int .i64 o.lo, .int .i64 o.hi] 32 (0, 0)), (l_7.1, .cells #[slv l_7.2.1.q l_7.2.1.n l_7.2.1.cap, slv l_7.2.2.q l_7.2.2.n l_7.2.2.cap] 25 (0, 0))]) (fun l_7 => [⟨85, RSt.enc o_1.strips, l_7.2.1.sp, l_7.2.1.q, []⟩, ⟨32, RSp.enc o_1.carried, l_7.2.2.sp, l_7.2.2.q, []⟩]) ?_ ?_
        ·replace hm := h30
         obtain ⟨t62, h34, hm⟩ := bindO hm
         obtain ⟨t66, h35, hm⟩ := bindO hm
         refine g_draw none (.free 0 (.hoist 1 (.free 3 (.hoist 4 (.free 5 (.br (.alt 2 (.br (.alt 6 (.free 7 (.one 8 (.one 9 .done))) (.alt 8 (.one 6 (.free 7 (.one 9 .done))) .nil))) (.alt 6 (.br (.alt 2 (.free 7 (.one 8 (.one 9 .done))) (.alt 8 (.one 2 (.free 7 (.one 9 .done))) .nil))) (.alt 8 (.br (.alt 2 (.one 6 (.free 7 (.one 9 .done))) (.alt 6 (.one 2 (.free 7 (.one 9 .done))) .nil))) .nil))))))))) _ rfl (by decide +kernel) (fun w k hh => hh.draw k) (fun w hh => hh) ?_
         refine p_fa 0 Tryz.runUnderlying25 Tryz.sizeOf22 rfl rfl rfl rfl (p_lc 3 Tryz.isAgg22 rfl rfl rfl rfl rfl (p_fa 1 Tryz.runUnderlying25 Tryz.sizeOf23 rfl rfl rfl rfl (p_lc 3 Tryz.isAgg23 rfl rfl rfl rfl rfl (p_free rfl rfl rfl rfl (fun w _ => v_lenR hna1 (Tryz.runUnderlying23 w) rfl) (p_br ?_)))))
         refine p_alt rfl ?_ ?_
         ·refine g_callH [] [] rfl rfl rfl rfl rfl rfl rfl Tryz.call75 (fun w hh => c_slices_Clone_stripStripstripStrip s0.strips qa0 na0 ca0 w (HV.callee (S0 := []) (vs0 := []) hh (roR hh 0 rfl roN)) hna0 hqa0 hla0 h34) (fun l_8 h36 => ?_)
          have h37 := h36
          refine g_se (S' := [_, _, _, _, _]) (vs' := [_]) [0, 1, 2, 3, 4] [0] 0 rfl rfl rfl rfl (p_next (hsE [0, 1, 2, 3, 4] [] 0 rfl rfl rfl rfl) (p_br ?_))
          refine p_alt rfl ?_ ?_
          ·refine g_vmake RSp (⟨0, 0⟩ : Span) h35 Tryz.underlying23 gxinf32 rfl rfl rfl rfl rfl (fun L_2 h38 => ?_)
           refine p_next (hsE [0, 1, 2, 3, 4] [] 0 rfl rfl rfl rfl) (p_free rfl rfl rfl rfl (fun _ _ => v_build (vs := [(0, _), (1, _)]) (cells := [_, _]) rfl rfl) (p_one rfl ?_))
           refine g_allocV (fun w => Tryz.zeroValue25 w) rfl (fun b_7 h39 => ?_)
           refine p_next (hsE [1, 2, 3, 4, 5] [] 0 rfl rfl rfl rfl) (p_one rfl (g_stSA (us := #[_, _]) (cs' := [_, _]) (S' := [_, _, _, _, _, _]) 0 (fun w => Tryz.sizeOf25 w) rfl rfl rfl rfl rfl rfl rfl (p_next (hsE [1, 2, 3, 4, 5] [] 0 rfl rfl rfl rfl) (p_done ?_))))
           obtain rfl := sj hm
           exact g_leaf (b_7, l_8, L_2) (⟨h37, h38⟩) (sE rfl) (hsE [1, 2, 3, 4, 5, 0] [1, 0] 0 rfl rfl rfl rfl)
          refine p_alt rfl ?_ ?_
          ·refine g_allocV (fun w => Tryz.zeroValue25 w) rfl (fun b_8 h40 => ?_)
           refine p_next (hsE [1, 2, 3, 4, 5] [] 0 rfl rfl rfl rfl) (p_one rfl ?_)
           refine g_vmake RSp (⟨0, 0⟩ : Span) h35 Tryz.underlying23 gxinf32 rfl rfl rfl rfl rfl (fun L_3 h41 => ?_)
           refine p_next (hsE [1, 2, 3, 4, 5] [] 0 rfl rfl rfl rfl) (p_free rfl rfl rfl rfl (fun _ _ => v_build (vs := [(0, _), (1, _)]) (cells := [_, _]) rfl rfl) (p_one rfl (g_stSA (us := #[_, _]) (cs' := [_, _]) (S' := [_, _, _, _, _, _]) 0 (fun w => Tryz.sizeOf25 w) rfl rfl rfl rfl rfl rfl rfl (p_next (hsE [1, 2, 3, 4, 5] [] 0 rfl rfl rfl rfl) (p_done ?_)))))
           obtain rfl := sj hm
           exact g_leaf (b_8, l_8, L_3) (⟨h37, h41⟩) (sE rfl) (hsE [1, 2, 3, 4, 5, 0] [1, 0] 0 rfl rfl rfl rfl)
          exact p_nil
         refine p_alt rfl ?_ ?_
         ·refine g_vmake RSp (⟨0, 0⟩ : Span) h35 Tryz.underlying23 gxinf32 rfl rfl rfl rfl rfl (fun L_4 h42 => ?_)
          refine p_next (hsE [0, 1, 2, 3, 4] [] 0 rfl rfl rfl rfl) (p_br ?_)
          refine p_alt rfl ?_ ?_
          ·refine g_callH [] [] rfl rfl rfl rfl rfl rfl rfl Tryz.call75 (fun w hh => c_slices_Clone_stripStripstripStrip s0.strips qa0 na0 ca0 w (HV.callee (S0 := []) (vs0 := []) hh (roR hh 0 rfl roN)) hna0 hqa0 hla0 h34) (fun l_9 h43 => ?_)
           have h44 := h43
           refine g_se (S' := [_, _, _, _, _]) (vs' := [_, _]) [0, 1, 2, 3, 4] [0, 1] 0 rfl rfl rfl rfl (p_next (hsE [0, 1, 2, 3, 4] [] 0 rfl rfl rfl rfl) (p_free rfl rfl rfl rfl (fun _ _ => v_build (vs := [(0, _), (1, _)]) (cells := [_, _]) rfl rfl) (p_one rfl ?_)))
           refine g_allocV (fun w => Tryz.zeroValue25 w) rfl (fun b_9 h45 => ?_)
           refine p_next (hsE [1, 2, 3, 4, 5] [] 0 rfl rfl rfl rfl) (p_one rfl (g_stSA (us := #[_, _]) (cs' := [_, _]) (S' := [_, _, _, _, _, _]) 0 (fun w => Tryz.sizeOf25 w) rfl rfl rfl rfl rfl rfl rfl (p_next (hsE [1, 2, 3, 4, 5] [] 0 rfl rfl rfl rfl) (p_done ?_))))
           obtain rfl := sj hm
           exact g_leaf (b_9, l_9, L_4) (⟨h44, h42⟩) (sE rfl) (hsE [1, 2, 3, 4, 5, 0] [0, 1] 0 rfl rfl rfl rfl)
          refine p_alt rfl ?_ ?_
          ·refine g_allocV (fun w => Tryz.zeroValue25 w) rfl (fun b_10 h46 => ?_)
           refine p_next (hsE [1, 2, 3, 4, 5] [] 0 rfl rfl rfl rfl) (p_one rfl ?_)
           refine g_callH [] [] rfl rfl rfl rfl rfl rfl rfl Tryz.call75 (fun w hh => c_slices_Clone_stripStripstripStrip s0.strips qa0 na0 ca0 w (HV.callee (S0 := []) (vs0 := []) hh (roR hh 0 rfl roN)) hna0 hqa0 hla0 h34) (fun l_10 h47 => ?_)
           have h48 := h47
           refine g_se (S' := [_, _, _, _, _, _]) (vs' := [_, _]) [0, 1, 2, 3, 4, 5] [0, 1] 0 rfl rfl rfl rfl (p_next (hsE [1, 2, 3, 4, 5] [] 0 rfl rfl rfl rfl) (p_free rfl rfl rfl rfl (fun _ _ => v_build (vs := [(0, _), (1, _)]) (cells := [_, _]) rfl rfl) (p_one rfl (g_stSA (us := #[_, _]) (cs' := [_, _]) (S' := [_, _, _, _, _, _]) 0 (fun w => Tryz.sizeOf25 w) rfl rfl rfl rfl rfl rfl rfl (p_next (hsE [1, 2, 3, 4, 5] [] 0 rfl rfl rfl rfl) (p_done ?_))))))
           obtain rfl := sj hm
           exact g_leaf (b_10, l_10, L_4) (⟨h48, h42⟩) (sE rfl) (hsE [1, 2, 3, 4, 5, 0] [0, 1] 0 rfl rfl rfl rfl)
          exact p_nil
         refine p_alt rfl ?_ ?_
         ·refine g_allocV (fun w => Tryz.zeroValue25 w) rfl (fun b_11 h49 => ?_)
          refine p_next (hsE [1, 2, 3, 4, 5] [] 0 rfl rfl rfl rfl) (p_br ?_)
          refine p_alt rfl ?_ ?_
          ·refine g_callH [] [] rfl rfl rfl rfl rfl rfl rfl Tryz.call75 (fun w hh => c_slices_Clone_stripStripstripStrip s0.strips qa0 na0 ca0 w (HV.callee (S0 := []) (vs0 := []) hh (roR hh 0 rfl roN)) hna0 hqa0 hla0 h34) (fun l_11 h50 => ?_)
           have h51 := h50
           refine g_se (S' := [_, _, _, _, _, _]) (vs' := [_]) [0, 1, 2, 3, 4, 5] [0] 0 rfl rfl rfl rfl (p_next (hsE [1, 2, 3, 4, 5] [] 0 rfl rfl rfl rfl) (p_one rfl ?_))
           refine g_vmake RSp (⟨0, 0⟩ : Span) h35 Tryz.underlying23 gxinf32 rfl rfl rfl rfl rfl (fun L_5 h52 => ?_)
           refine p_next (hsE [1, 2, 3, 4, 5] [] 0 rfl rfl rfl rfl) (p_free rfl rfl rfl rfl (fun _ _ => v_build (vs := [(0, _), (1, _)]) (cells := [_, _]) rfl rfl) (p_one rfl (g_stSA (us := #[_, _]) (cs' := [_, _]) (S' := [_, _, _, _, _, _]) 0 (fun w => Tryz.sizeOf25 w) rfl rfl rfl rfl rfl rfl rfl (p_next (hsE [1, 2, 3, 4, 5] [] 0 rfl rfl rfl rfl) (p_done ?_)))))
           obtain rfl := sj hm
           exact g_leaf (b_11, l_11, L_5) (⟨h51, h52⟩) (sE rfl) (hsE [1, 2, 3, 4, 5, 0] [1, 0] 0 rfl rfl rfl rfl)
          refine p_alt rfl ?_ ?_
          ·refine g_vmake RSp (⟨0, 0⟩ : Span) h35 Tryz.underlying23 gxinf32 rfl rfl rfl rfl rfl (fun L_6 h53 => ?_)
           refine p_next (hsE [1, 2, 3, 4, 5] [] 0 rfl rfl rfl rfl) (p_one rfl ?_)
           refine g_callH [] [] rfl rfl rfl rfl rfl rfl rfl Tryz.call75 (fun w hh => c_slices_Clone_stripStripstripStrip s0.strips qa0 na0 ca0 w (HV.callee (S0 := []) (vs0 := []) hh (roR hh 0 rfl roN)) hna0 hqa0 hla0 h34) (fun l_12 h54 => ?_)
           have h55 := h54
           refine g_se (S' := [_, _, _, _, _, _]) (vs' := [_, _]) [0, 1, 2, 3, 4, 5] [0, 1] 0 rfl rfl rfl rfl (p_next (hsE [1, 2, 3, 4, 5] [] 0 rfl rfl rfl rfl) (p_free rfl rfl rfl rfl (fun _ _ => v_build (vs := [(0, _), (1, _)]) (cells := [_, _]) rfl rfl) (p_one rfl (g_stSA (us := #[_, _]) (cs' := [_, _]) (S' := [_, _, _, _, _, _]) 0 (fun w => Tryz.sizeOf25 w) rfl rfl rfl rfl rfl rfl rfl (p_next (hsE [1, 2, 3, 4, 5] [] 0 rfl rfl rfl rfl) (p_done ?_))))))
           obtain rfl := sj hm
           exact g_leaf (b_11, l_12, L_6) (⟨h55, h53⟩) (sE rfl) (hsE [1, 2, 3, 4, 5, 0] [0, 1] 0 rfl rfl rfl rfl)
          exact p_nil
         exact p_nil
        ·intro l_7 hj
         obtain ⟨h32, h33⟩ := hj
         replace hm := h31
         refine g_n_then (g_sr (g_fa 1 Tryz.runUnderlying25 rfl Tryz.sizeOf23 rfl rfl (g_lc 5 Tryz.isAgg23 rfl rfl rfl rfl (g_fa 1 Tryz.runUnderlying25 rfl Tryz.sizeOf23 rfl rfl (g_lc 3 Tryz.isAgg23 rfl rfl rfl rfl ?_)))))
         obtain ⟨h56, hm⟩ := ifO hm
         obtain ⟨out11_carried, hout11_carried, hm⟩ := bindO hm
         refine g_vcopy RSp 1 Tryz.underlying23 gxsz32 rfl rfl rfl rfl rfl h33 hna1 hqa1 (fun w hh => (hh.seg 1 rfl)) (Int.ofNat_le.1 h56) (Option.some.inj hout11_carried) rfl (fun h57 => ?_)
         refine g_se (S' := [_, _, _, _, _, _]) (vs' := [_, _]) [0, 1, 2, 3, 4, 5] [0, 1] 0 rfl rfl rfl rfl (g_nx (g_fa 1 Tryz.runUnderlying25 rfl Tryz.sizeOf23 rfl rfl (g_lc 5 Tryz.isAgg23 rfl rfl rfl rfl (g_mv rfl rfl (g_la [_, _] 4 Tryz.isAgg32 Tryz.sizeOf32 rfl rfl rfl rfl ?_)))))
         obtain ⟨t77, h58, hm⟩ := bindO hm
         refine g_val rfl rfl rfl (fun w _ => v_ixA h58 (Tryz.runUnderlying23 w) (Tryz.sizeOf32 w) rfl rfl (vlen RSp h57 rfl) (vne h57)) ?_
         obtain ⟨out11_carried_1, hout11_carried_1, hm⟩ := bindO hm
         refine g_vstA (us := #[_, _]) RSp 1 o (fun w => Tryz.sizeOf32 w) rfl rfl rfl h57 rfl rfl rfl rfl h58 rfl (Option.some.inj hout11_carried_1) (fun h59 => ?_)
         refine g_se (S' := [_, _, _, _, _, _]) (vs' := [_, _]) [0, 1, 2, 3, 4, 5] [0, 1] 0 rfl rfl rfl rfl (g_nx (g_la [_, _] 5 Tryz.isAgg25 Tryz.sizeOf25 rfl rfl rfl rfl (g_stSA (us := #[_, _]) (cs' := [_, _]) (S' := [_, _, _, _, _, _]) 1 (fun w => Tryz.sizeOf25 w) rfl rfl rfl rfl rfl rfl rfl (g_as rfl rfl (g_nt (g_ret ?_))))))
         obtain rfl := sj hm
         refine g_done rfl (fun w hh => (.cell rfl (loadVar_agg (vs := [_, _]) (Tryz.isAgg25 _) (Tryz.sizeOf25 _) (hh.cells 1 rfl rfl)) (.tmp rfl .nil))) (fun w hh => ⟨(l_7.2.1, l_7.2.2), rfl, ⟨h32, h59⟩, hh.se [] [0, 1] 2 rfl rfl rfl rfl⟩)
def m_laurellaw09_awake  : Option Bool :=
 (m_laurellaw09_Three 22 25).bind fun t15 =>
 (m_strip_Least t15).bind fun t16 =>
 (m_laurellaw09_Three 22 25).bind fun t21 =>
 (m_strip_Most t21).bind fun t22 =>
 (m_laurellaw09_Three 22 25).bind fun t27 =>
 (m_strip_Verdicts t27).bind fun t28 =>
 (m_laurellaw09_Three 22 25).bind fun t32 =>
 (m_strip_Proves t32 (⟨[-1, 0, -1], [1, 0]⟩ : Marks)).bind fun t36 =>
 (if t16.r2 = 0 then
 (if t22.r2 = 0 then
 (if t28.r1 = 0 then
 (if t36.r1 = 0 then
 (if t16.r1 = 2 then
 (if t22.r1 = 9 then
 (if t36.r0 = 2 then
 ((m_laurelkit_Eq_stripVerdict t28.r0 [2, 0]).bind fun t68 =>
 some (!t68)) else
 (some true)) else
 (some true)) else
 (some true)) else
 (some true)) else
 (some true)) else
 (some true)) else
 (some true)).bind fun o =>
 if o = true then
 (some false) else
 ((m_laurellaw09_Three 10 15).bind fun t72 =>
 (m_strip_Shows t72 (⟨false, [0, 1, 2]⟩ : Lack)).bind fun t75 =>
 (m_laurellaw09_Three 10 15).bind fun t79 =>
 (m_strip_Shows t79 (⟨false, [0, 2]⟩ : Lack)).bind fun t82 =>
 (m_laurellaw09_Three 10 15).bind fun t86 =>
 (m_strip_Shares t86).bind fun t87 =>
 (m_laurellaw09_Three 22 25).bind fun t91 =>
 (m_strip_Weigh t91 0 (⟨24, 30⟩ : Span)).bind fun t93 =>
 (if t75.r1 = 0 then
 (if t82.r1 = 0 then
 (if t87.r1 = 7 then
 (if t93.r1 = 0 then
 (if t75.r0 = 6 then
 (if t82.r0 = 2 then
 (if (t93.r0.carried.length : Int) = 2 then
 ((ix t93.r0.carried 0).bind fun t127 =>
 some (decide (t127 = (⟨24, 25⟩ : Span)))) else
 (some false)) else
 (some false)) else
 (some false)) else
 (some false)) else
 (some false)) else
 (some false)) else
 (some false)).bind fun o_1 =>
 some o_1)
theorem c_laurellaw09_awake   (w : World) (hw : HV w (keys [] []) [] [] [] w)  {res : Bool} (hm : m_laurellaw09_awake  = some res) :
    Calls Tryz.prog 8 #[] w (fun en w' => ∃ l : Unit, en = .returned (.bool res) ∧ (True) ∧ HV w (keys [] []) [] [] [] w') := by
  unfold m_laurellaw09_awake at hm
  refine g_en Tryz.func8 rfl Tryz.ntmps8 rfl (e := []) rfl hw (g_sr (g_as rfl rfl (g_nx ?_)))
  obtain ⟨t15, h1, hm⟩ := bindO hm
  refine g_callH [] [] rfl rfl rfl rfl rfl rfl rfl Tryz.call46 (fun w hh => c_laurellaw09_Three 22 25 w (HV.callee (S0 := []) (vs0 := []) hh roN)  h1) (fun l h2 => ?_)
  obtain ⟨h3, h4⟩ := h2
  refine g_se (S' := []) (vs' := [_, _]) [] [0, 1] 0 rfl rfl rfl rfl ?_
  obtain ⟨t16, h5, hm⟩ := bindO hm
  refine g_callH [] [] rfl rfl rfl rfl rfl rfl rfl Tryz.call45 (fun w hh => c_strip_Least t15 (qA l.1.q) l.1.n l.1.cap (qA l.2.q) l.2.n l.2.cap w (HV.callee (S0 := []) (vs0 := []) hh (roC (hh.vsepA 0 rfl h3) (roC (hh.vsepA 1 rfl h4) roN))) (vlen RSt h3 rfl) (AOK.q (vne h3)) (h3).hle (vlen RSp h4 rfl) (AOK.q (vne h4)) (h4).hle h5) (fun l_1 h6 => ?_)
  obtain ⟨h7, h8⟩ := h6
  refine g_se (S' := []) (vs' := [_, _, _]) [] [0, 1, 2] 0 rfl rfl rfl rfl (g_mv rfl rfl (g_xt rfl rfl rfl (g_xt rfl rfl rfl (g_xt rfl rfl rfl (g_as rfl rfl (g_as rfl rfl (g_as rfl rfl ?_)))))))
  refine g_nx ?_
  obtain ⟨t21, h9, hm⟩ := bindO hm
  refine g_callH [] [] rfl rfl rfl rfl rfl rfl rfl Tryz.call46 (fun w hh => c_laurellaw09_Three 22 25 w (HV.callee (S0 := []) (vs0 := []) hh roN)  h9) (fun l_2 h10 => ?_)
  obtain ⟨h11, h12⟩ := h10
  refine g_se (S' := []) (vs' := [_, _, _, _, _]) [] [0, 1, 2, 3, 4] 0 rfl rfl rfl rfl ?_
  obtain ⟨t22, h13, hm⟩ := bindO hm
  refine g_callH [] [] rfl rfl rfl rfl rfl rfl rfl Tryz.call47 (fun w hh => c_strip_Most t21 (qA l_2.1.q) l_2.1.n l_2.1.cap (qA l_2.2.q) l_2.2.n l_2.2.cap w (HV.callee (S0 := []) (vs0 := []) hh (roC (hh.vsepA 0 rfl h11) (roC (hh.vsepA 1 rfl h12) roN))) (vlen RSt h11 rfl) (AOK.q (vne h11)) (h11).hle (vlen RSp h12 rfl) (AOK.q (vne h12)) (h12).hle h13) (fun l_3 h14 => ?_)
  obtain ⟨h15, h16⟩ := h14
  refine g_se (S' := []) (vs' := [_, _, _, _, _, _]) [] [0, 1, 2, 3, 4, 5] 0 rfl rfl rfl rfl (g_mv rfl rfl (g_xt rfl rfl rfl (g_xt rfl rfl rfl (g_xt rfl rfl rfl (g_as rfl rfl (g_as rfl rfl (g_as rfl rfl ?_)))))))
  refine g_nx ?_
  obtain ⟨t27, h17, hm⟩ := bindO hm
  refine g_callH [] [] rfl rfl rfl rfl rfl rfl rfl Tryz.call46 (fun w hh => c_laurellaw09_Three 22 25 w (HV.callee (S0 := []) (vs0 := []) hh roN)  h17) (fun l_4 h18 => ?_)
  obtain ⟨h19, h20⟩ := h18
  refine g_se (S' := []) (vs' := [_, _, _, _, _, _, _, _]) [] [0, 1, 2, 3, 4, 5, 6, 7] 0 rfl rfl rfl rfl ?_
  obtain ⟨t28, h21, hm⟩ := bindO hm
  refine g_callH [] [] rfl rfl rfl rfl rfl rfl rfl Tryz.call28 (fun w hh => c_strip_Verdicts t27 (qA l_4.1.q) l_4.1.n l_4.1.cap (qA l_4.2.q) l_4.2.n l_4.2.cap w (HV.callee (S0 := []) (vs0 := []) hh (roC (hh.vsepA 0 rfl h19) (roC (hh.vsepA 1 rfl h20) roN))) (vlen RSt h19 rfl) (AOK.q (vne h19)) (h19).hle (vlen RSp h20 rfl) (AOK.q (vne h20)) (h20).hle h21) (fun l_5 h22 => ?_)
  have h23 := h22
  refine g_se (S' := []) (vs' := [_, _, _, _, _, _, _, _, _]) [] [0, 1, 2, 3, 4, 5, 6, 7, 8] 0 rfl rfl rfl rfl (g_mv rfl rfl (g_xt rfl rfl rfl (g_xt rfl rfl rfl (g_as rfl rfl (g_as rfl rfl (g_nx ?_))))))
  obtain ⟨t32, h24, hm⟩ := bindO hm
  refine g_callH [] [] rfl rfl rfl rfl rfl rfl rfl Tryz.call46 (fun w hh => c_laurellaw09_Three 22 25 w (HV.callee (S0 := []) (vs0 := []) hh roN)  h24) (fun l_6 h25 => ?_)
  obtain ⟨h26, h27⟩ := h25
  refine g_se (S' := []) (vs' := [_, _, _, _, _, _, _, _, _, _, _]) [] [0, 1, 2, 3, 4, 5, 6, 7, 8, 9, 10] 0 rfl rfl rfl rfl ?_
  refine g_vlit RI [-1, 0, -1] (ps := [(0, _), (1, _), (2, _)]) (cells := [_, _, _]) (fun w => Tryz.runUnderlying26 w) (fun w => Tryz.sizeOf3 w) (fun w => Tryz.zeroValue3 w) rfl rfl rfl rfl rfl rfl rfl rfl (fun L h28 => ?_)
  refine g_vlit RI [1, 0] (ps := [(0, _), (1, _)]) (cells := [_, _]) (fun w => Tryz.runUnderlying26 w) (fun w => Tryz.sizeOf3 w) (fun w => Tryz.zeroValue3 w) rfl rfl rfl rfl rfl rfl rfl rfl (fun L_1 h29 => ?_)
  refine g_val rfl rfl rfl (fun _ _ => v_build (vs := [(0, _), (1, _)]) (cells := [_, _]) rfl rfl) ?_
  obtain ⟨t36, h30, hm⟩ := bindO hm
  refine g_callH [] [] rfl rfl rfl rfl rfl rfl rfl Tryz.call18 (fun w hh => c_strip_Proves t32 (⟨[-1, 0, -1], [1, 0]⟩ : Marks) (qA l_6.1.q) l_6.1.n l_6.1.cap (qA l_6.2.q) l_6.2.n l_6.2.cap (qA L.q) L.n L.cap (qA L_1.q) L_1.n L_1.cap w (HV.callee (S0 := []) (vs0 := []) hh (roC (hh.vsepA 2 rfl h26) (roC (hh.vsepA 3 rfl h27) (roC (hh.vsepA 1 rfl h28) (roC (hh.vsepA 0 rfl h29) roN))))) (vlen RSt h26 rfl) (AOK.q (vne h26)) (h26).hle (vlen RSp h27 rfl) (AOK.q (vne h27)) (h27).hle (vlen RI h28 rfl) (AOK.q (vne h28)) (h28).hle (vlen RI h29 rfl) (AOK.q (vne h29)) (h29).hle h30) (fun l_7 h31 => ?_)
  refine g_mv rfl rfl (g_xt rfl rfl rfl (g_xt rfl rfl rfl (g_as rfl rfl (g_as rfl rfl (g_nt (g_seq (g_seq ?_)))))))
  obtain ⟨o, h32, h33⟩ := bindO hm
  refine g_cut (ι := Unit) (fun l_8 => True) (fun l_8 => [(70, .bool o)]) (fun l_8 => []) (fun l_8 => []) ?_ ?_
  ·replace hm := h32
   refine g_region (g_mv rfl rfl (g_val rfl rfl rfl (fun _ _ => v_neq rfl rfl) (g_mv rfl rfl ?_)))
   refine g_case 41 rfl (fun h34 => ?_) (fun h34 => ?_)
   ·replace hm := ifF (of_ndec_true h34) hm
    refine g_k rfl rfl rfl rfl (g_k rfl rfl rfl rfl (g_pt rfl rfl rfl (g_mv rfl rfl (g_k rfl rfl rfl rfl (g_k rfl rfl rfl rfl (g_pt rfl rfl rfl (g_mv rfl rfl ?_)))))))
    refine g_k rfl rfl rfl rfl (g_k rfl rfl rfl rfl (g_pt rfl rfl rfl (g_mv rfl rfl (g_k rfl rfl rfl rfl (g_k rfl rfl rfl rfl (g_pt rfl rfl rfl (g_mv rfl rfl ?_)))))))
    refine g_k rfl rfl rfl rfl (g_k rfl rfl rfl rfl (g_pt rfl rfl rfl (g_mv rfl rfl (g_k rfl rfl rfl rfl (g_k rfl rfl rfl rfl (g_pt rfl rfl rfl (g_mv rfl rfl ?_)))))))
    refine g_k rfl rfl rfl rfl (g_k rfl rfl rfl rfl (g_k rfl rfl rfl rfl (g_k rfl rfl rfl rfl (g_pt rfl rfl rfl (g_nil ?_)))))
    obtain rfl := sj hm
    exact g_leaf () (trivial) (sE rfl) (hsE [] [] 0 rfl rfl rfl rfl)
   ·replace hm := ifT (of_ndec_false h34) hm
    refine v_unguard rfl rfl (g_mv rfl rfl (v_unguard rfl rfl (g_val rfl rfl rfl (fun _ _ => v_neq rfl rfl) (g_pf rfl rfl rfl (g_mv rfl rfl ?_)))))
    refine g_case 45 rfl (fun h35 => ?_) (fun h35 => ?_)
    ·replace hm := ifF (of_ndec_true h35) hm
     refine g_k rfl rfl rfl rfl (g_k rfl rfl rfl rfl (g_pt rfl rfl rfl (g_mv rfl rfl (g_k rfl rfl rfl rfl (g_k rfl rfl rfl rfl (g_pt rfl rfl rfl (g_mv rfl rfl ?_)))))))
     refine g_k rfl rfl rfl rfl (g_k rfl rfl rfl rfl (g_pt rfl rfl rfl (g_mv rfl rfl (g_k rfl rfl rfl rfl (g_k rfl rfl rfl rfl (g_pt rfl rfl rfl (g_mv rfl rfl ?_)))))))
     refine g_k rfl rfl rfl rfl (g_k rfl rfl rfl rfl (g_pt rfl rfl rfl (g_mv rfl rfl (g_k rfl rfl rfl rfl (g_k rfl rfl rfl rfl (g_k rfl rfl rfl rfl (g_k rfl rfl rfl rfl ?_)))))))
     refine g_pt rfl rfl rfl (g_nil ?_)
     obtain rfl := sj hm
     exact g_leaf () (trivial) (sE rfl) (hsE [] [] 0 rfl rfl rfl rfl)
    ·replace hm := ifT (of_ndec_false h35) hm
     refine v_unguard rfl rfl (g_mv rfl rfl (v_unguard rfl rfl (g_val rfl rfl rfl (fun _ _ => v_neq rfl rfl) (g_pf rfl rfl rfl (g_mv rfl rfl ?_)))))
     refine g_case 49 rfl (fun h36 => ?_) (fun h36 => ?_)
     ·replace hm := ifF (of_ndec_true h36) hm
      refine g_k rfl rfl rfl rfl (g_k rfl rfl rfl rfl (g_pt rfl rfl rfl (g_mv rfl rfl (g_k rfl rfl rfl rfl (g_k rfl rfl rfl rfl (g_pt rfl rfl rfl (g_mv rfl rfl ?_)))))))
      refine g_k rfl rfl rfl rfl (g_k rfl rfl rfl rfl (g_pt rfl rfl rfl (g_mv rfl rfl (g_k rfl rfl rfl rfl (g_k rfl rfl rfl rfl (g_pt rfl rfl rfl (g_mv rfl rfl ?_)))))))
      refine g_k rfl rfl rfl rfl (g_k rfl rfl rfl rfl (g_k rfl rfl rfl rfl (g_k rfl rfl rfl rfl (g_pt rfl rfl rfl (g_nil ?_)))))
      obtain rfl := sj hm
      exact g_leaf () (trivial) (sE rfl) (hsE [] [] 0 rfl rfl rfl rfl)
     ·replace hm := ifT (of_ndec_false h36) hm
      refine v_unguard rfl rfl (g_mv rfl rfl (v_unguard rfl rfl (g_val rfl rfl rfl (fun _ _ => v_neq rfl rfl) (g_pf rfl rfl rfl (g_mv rfl rfl ?_)))))
      refine g_case 53 rfl (fun h37 => ?_) (fun h37 => ?_)
      ·replace hm := ifF (of_ndec_true h37) hm
       refine g_k rfl rfl rfl rfl (g_k rfl rfl rfl rfl (g_pt rfl rfl rfl (g_mv rfl rfl (g_k rfl rfl rfl rfl (g_k rfl rfl rfl rfl (g_pt rfl rfl rfl (g_mv rfl rfl ?_)))))))
       refine g_k rfl rfl rfl rfl (g_k rfl rfl rfl rfl (g_pt rfl rfl rfl (g_mv rfl rfl (g_k rfl rfl rfl rfl (g_k rfl rfl rfl rfl (g_k rfl rfl rfl rfl (g_k rfl rfl rfl rfl ?_)))))))
       refine g_pt rfl rfl rfl (g_nil ?_)
       obtain rfl := sj hm
       exact g_leaf () (trivial) (sE rfl) (hsE [] [] 0 rfl rfl rfl rfl)
      ·replace hm := ifT (of_ndec_false h37) hm
       refine v_unguard rfl rfl (g_mv rfl rfl (v_unguard rfl rfl (g_val rfl rfl rfl (fun _ _ => v_neq rfl rfl) (g_pf rfl rfl rfl (g_mv rfl rfl ?_)))))
       refine g_case 57 rfl (fun h38 => ?_) (fun h38 => ?_)
       ·replace hm := ifF (of_ndec_true h38) hm
        refine g_k rfl rfl rfl rfl (g_k rfl rfl rfl rfl (g_pt rfl rfl rfl (g_mv rfl rfl (g_k rfl rfl rfl rfl (g_k rfl rfl rfl rfl (g_pt rfl rfl rfl (g_mv rfl rfl ?_)))))))
        refine g_k rfl rfl rfl rfl (g_k rfl rfl rfl rfl (g_k rfl rfl rfl rfl (g_k rfl rfl rfl rfl (g_pt rfl rfl rfl (g_nil ?_)))))
        obtain rfl := sj hm
        exact g_leaf () (trivial) (sE rfl) (hsE [] [] 0 rfl rfl rfl rfl)
       ·replace hm := ifT (of_ndec_false h38) hm
        refine v_unguard rfl rfl (g_mv rfl rfl (v_unguard rfl rfl (g_val rfl rfl rfl (fun _ _ => v_neq rfl rfl) (g_pf rfl rfl rfl (g_mv rfl rfl ?_)))))
        refine g_case 61 rfl (fun h39 => ?_) (fun h39 => ?_)
        ·replace hm := ifF (of_ndec_true h39) hm
         refine g_k rfl rfl rfl rfl (g_k rfl rfl rfl rfl (g_pt rfl rfl rfl (g_mv rfl rfl (g_k rfl rfl rfl rfl (g_k rfl rfl rfl rfl (g_k rfl rfl rfl rfl (g_k rfl rfl rfl rfl ?_)))))))
         refine g_pt rfl rfl rfl (g_nil ?_)
         obtain rfl := sj hm
         exact g_leaf () (trivial) (sE rfl) (hsE [] [] 0 rfl rfl rfl rfl)
        ·replace hm := ifT (of_ndec_false h39) hm
         refine v_unguard rfl rfl (g_mv rfl rfl (v_unguard rfl rfl (g_val rfl rfl rfl (fun _ _ => v_neq rfl rfl) (g_pf rfl rfl rfl (g_mv rfl rfl ?_)))))
         refine g_case 65 rfl (fun h40 => ?_) (fun h40 => ?_)
         ·replace hm := ifF (of_ndec_true h40) hm
          refine g_k rfl rfl rfl rfl (g_k rfl rfl rfl rfl (g_k rfl rfl rfl rfl (g_k rfl rfl rfl rfl (g_pt rfl rfl rfl (g_nil ?_)))))
          obtain rfl := sj hm
          exact g_leaf () (trivial) (sE rfl) (hsE [] [] 0 rfl rfl rfl rfl)
         ·replace hm := ifT (of_ndec_false h40) hm
          refine v_unguard rfl rfl (g_mv rfl rfl (v_unguard rfl rfl ?_))
          refine g_vlit RI [2, 0] (ps := [(0, _), (1, _)]) (cells := [_, _]) (fun w => Tryz.runUnderlying60 w) (fun w => Tryz.sizeOf62 w) (fun w => Tryz.zeroValue62 w) rfl rfl rfl rfl rfl rfl rfl rfl (fun L_2 h41 => ?_)
          refine v_unguard rfl rfl ?_
          obtain ⟨t68, h42, hm⟩ := bindO hm
          refine g_callH [] [] rfl rfl rfl rfl rfl rfl rfl Tryz.call29 (fun w hh => c_laurelkit_Eq_stripVerdict t28.r0 [2, 0] (qA l_5.q) l_5.n l_5.cap (qA L_2.q) L_2.n L_2.cap w (HV.callee (S0 := []) (vs0 := []) hh (roC (hh.vsepA 5 rfl h23) (roC (hh.vsepA 0 rfl h41) roN))) (vlen RI h23 rfl) (AOK.q (vne h23)) (h23).hle (vlen RI h41 rfl) (AOK.q (vne h41)) (h41).hle h42) (fun l_9 h43 => ?_)
          refine v_unguard rfl rfl (g_val rfl rfl rfl (fun _ _ => v_not rfl) (g_pf rfl rfl rfl (g_nil ?_)))
          obtain rfl := sj hm
          exact g_leaf () (trivial) (sE rfl) (hsE [] [] 0 rfl rfl rfl rfl)
  ·intro l_8 hj
   replace hm := h33
   refine g_n_then ?_
   refine g_cond rfl (fun h44 => ?_) (fun h44 => ?_)
   ·replace hm := ifT (h44) hm
    refine g_sr (g_as rfl rfl (g_nt (g_ret (g_r_then ?_))))
    obtain rfl := sj hm
    refine g_done rfl (fun w hh => (.tmp rfl .nil)) (fun w hh => ⟨(), rfl, trivial, hh⟩)
   ·replace hm := ifN h44 hm
    refine g_skip (g_n_then (g_sr ?_))
    obtain ⟨t72, h45, hm⟩ := bindO hm
    refine g_callH [] [] rfl rfl rfl rfl rfl rfl rfl Tryz.call46 (fun w hh => c_laurellaw09_Three 10 15 w (HV.callee (S0 := []) (vs0 := []) hh roN)  h45) (fun l_10 h46 => ?_)
    obtain ⟨h47, h48⟩ := h46
    refine g_se (S' := []) (vs' := [_, _]) [] [0, 1] 0 rfl rfl rfl rfl ?_
    refine g_vlit RI [0, 1, 2] (ps := [(0, _), (1, _), (2, _)]) (cells := [_, _, _]) (fun w => Tryz.runUnderlying26 w) (fun w => Tryz.sizeOf3 w) (fun w => Tryz.zeroValue3 w) rfl rfl rfl rfl rfl rfl rfl rfl (fun L_3 h49 => ?_)
    refine g_val rfl rfl rfl (fun _ _ => v_build (vs := [(1, _)]) (cells := [_, _]) rfl rfl) ?_
    obtain ⟨t75, h50, hm⟩ := bindO hm
    refine g_callH [] [] rfl rfl rfl rfl rfl rfl rfl Tryz.call19 (fun w hh => c_strip_Shows t72 (⟨false, [0, 1, 2]⟩ : Lack) (qA l_10.1.q) l_10.1.n l_10.1.cap (qA l_10.2.q) l_10.2.n l_10.2.cap (qA L_3.q) L_3.n L_3.cap w (HV.callee (S0 := []) (vs0 := []) hh (roC (hh.vsepA 1 rfl h47) (roC (hh.vsepA 2 rfl h48) (roC (hh.vsepA 0 rfl h49) roN)))) (vlen RSt h47 rfl) (AOK.q (vne h47)) (h47).hle (vlen RSp h48 rfl) (AOK.q (vne h48)) (h48).hle (vlen RI h49 rfl) (AOK.q (vne h49)) (h49).hle h50) (fun l_11 h51 => ?_)
    refine g_mv rfl rfl (g_xt rfl rfl rfl (g_xt rfl rfl rfl (g_as rfl rfl (g_as rfl rfl (g_nx ?_)))))
    obtain ⟨t79, h52, hm⟩ := bindO hm
    refine g_callH [] [] rfl rfl rfl rfl rfl rfl rfl Tryz.call46 (fun w hh => c_laurellaw09_Three 10 15 w (HV.callee (S0 := []) (vs0 := []) hh roN)  h52) (fun l_12 h53 => ?_)
    obtain ⟨h54, h55⟩ := h53
    refine g_se (S' := []) (vs' := [_, _, _, _, _]) [] [0, 1, 2, 3, 4] 0 rfl rfl rfl rfl ?_
    refine g_vlit RI [0, 2] (ps := [(0, _), (1, _)]) (cells := [_, _]) (fun w => Tryz.runUnderlying26 w) (fun w => Tryz.sizeOf3 w) (fun w => Tryz.zeroValue3 w) rfl rfl rfl rfl rfl rfl rfl rfl (fun L_4 h56 => ?_)
    refine g_val rfl rfl rfl (fun _ _ => v_build (vs := [(1, _)]) (cells := [_, _]) rfl rfl) ?_
    obtain ⟨t82, h57, hm⟩ := bindO hm
    refine g_callH [] [] rfl rfl rfl rfl rfl rfl rfl Tryz.call19 (fun w hh => c_strip_Shows t79 (⟨false, [0, 2]⟩ : Lack) (qA l_12.1.q) l_12.1.n l_12.1.cap (qA l_12.2.q) l_12.2.n l_12.2.cap (qA L_4.q) L_4.n L_4.cap w (HV.callee (S0 := []) (vs0 := []) hh (roC (hh.vsepA 1 rfl h54) (roC (hh.vsepA 2 rfl h55) (roC (hh.vsepA 0 rfl h56) roN)))) (vlen RSt h54 rfl) (AOK.q (vne h54)) (h54).hle (vlen RSp h55 rfl) (AOK.q (vne h55)) (h55).hle (vlen RI h56 rfl) (AOK.q (vne h56)) (h56).hle h57) (fun l_13 h58 => ?_)
    refine g_mv rfl rfl (g_xt rfl rfl rfl (g_xt rfl rfl rfl (g_as rfl rfl (g_as rfl rfl (g_nx ?_)))))
    obtain ⟨t86, h59, hm⟩ := bindO hm
    refine g_callH [] [] rfl rfl rfl rfl rfl rfl rfl Tryz.call46 (fun w hh => c_laurellaw09_Three 10 15 w (HV.callee (S0 := []) (vs0 := []) hh roN)  h59) (fun l_14 h60 => ?_)
    obtain ⟨h61, h62⟩ := h60
    refine g_se (S' := []) (vs' := [_, _, _, _, _, _, _, _]) [] [0, 1, 2, 3, 4, 5, 6, 7] 0 rfl rfl rfl rfl ?_
    obtain ⟨t87, h63, hm⟩ := bindO hm
    refine g_callH [] [] rfl rfl rfl rfl rfl rfl rfl Tryz.call42 (fun w hh => c_strip_Shares t86 (qA l_14.1.q) l_14.1.n l_14.1.cap (qA l_14.2.q) l_14.2.n l_14.2.cap w (HV.callee (S0 := []) (vs0 := []) hh (roC (hh.vsepA 0 rfl h61) (roC (hh.vsepA 1 rfl h62) roN))) (vlen RSt h61 rfl) (AOK.q (vne h61)) (h61).hle (vlen RSp h62 rfl) (AOK.q (vne h62)) (h62).hle h63) (fun l_15 h64 => ?_)
    obtain ⟨h65, h66⟩ := h64
    refine g_se (S' := []) (vs' := [_, _, _, _, _, _, _, _, _]) [] [0, 1, 2, 3, 4, 5, 6, 7, 8] 0 rfl rfl rfl rfl (g_mv rfl rfl (g_xt rfl rfl rfl (g_xt rfl rfl rfl (g_as rfl rfl (g_nx ?_)))))
    obtain ⟨t91, h67, hm⟩ := bindO hm
    refine g_callH [] [] rfl rfl rfl rfl rfl rfl rfl Tryz.call46 (fun w hh => c_laurellaw09_Three 22 25 w (HV.callee (S0 := []) (vs0 := []) hh roN)  h67) (fun l_16 h68 => ?_)
    obtain ⟨h69, h70⟩ := h68
    refine g_se (S' := []) (vs' := [_, _, _, _, _, _, _, _, _, _, _]) [] [0, 1, 2, 3, 4, 5, 6, 7, 8, 9, 10] 0 rfl rfl rfl rfl (g_val rfl rfl rfl (fun _ _ => v_build (vs := [(0, _), (1, _)]) (cells := [_, _]) rfl rfl) ?_)
    obtain ⟨t93, h71, hm⟩ := bindO hm
    refine g_callH [] [] rfl rfl rfl rfl rfl rfl rfl Tryz.call20 (fun w hh => c_strip_Weigh t91 0 (⟨24, 30⟩ : Span) (qA l_16.1.q) l_16.1.n l_16.1.cap (qA l_16.2.q) l_16.2.n l_16.2.cap w (HV.callee (S0 := []) (vs0 := []) hh (roC (hh.vsepA 0 rfl h69) (roC (hh.vsepA 1 rfl h70) roN))) (vlen RSt h69 rfl) (AOK.q (vne h69)) (h69).hle (vlen RSp h70 rfl) (AOK.q (vne h70)) (h70).hle h71) (fun l_17 h72 => ?_)
    obtain ⟨h73, h74⟩ := h72
    refine g_se (S' := []) (vs' := [_, _, _, _, _, _, _, _, _, _, _, _, _]) [] [0, 1, 2, 3, 4, 5, 6, 7, 8, 9, 10, 11, 12] 0 rfl rfl rfl rfl (g_mv rfl rfl (g_xt rfl rfl rfl (g_xt rfl rfl rfl ?_)))
    refine g_allocV (fun w => Tryz.zeroValue25 w) rfl (fun b h75 => ?_)
    refine g_stSA (us := #[_, _]) (cs' := [_, _]) (S' := [_]) 0 (fun w => Tryz.sizeOf25 w) rfl rfl rfl rfl rfl rfl rfl (g_as rfl rfl (g_nt (g_seq ?_)))
    obtain ⟨o_1, h76, h77⟩ := bindO hm
    refine g_cut (ι := Unit) (fun l_18 => True) (fun l_18 => [(0, .bool o_1)]) (fun l_18 => [(b, .cells #[slv l_17.1.q l_17.1.n l_17.1.cap, slv l_17.2.q l_17.2.n l_17.2.cap] 25 (0, 0))]) (fun l_18 => [⟨85, RSt.enc t93.r0.strips, l_17.1.sp, l_17.1.q, []⟩, ⟨32, RSp.enc t93.r0.carried, l_17.2.sp, l_17.2.q, []⟩]) ?_ ?_
    ·replace hm := h76
     refine g_region (g_mv rfl rfl (g_val rfl rfl rfl (fun _ _ => v_eql rfl rfl) (g_mv rfl rfl ?_)))
     refine g_case 98 rfl (fun h78 => ?_) (fun h78 => ?_)
     ·replace hm := ifD h78 hm
      refine v_unguard rfl rfl (g_mv rfl rfl (v_unguard rfl rfl (g_val rfl rfl rfl (fun _ _ => v_eql rfl rfl) (g_pt rfl rfl rfl (g_mv rfl rfl ?_)))))
      refine g_case 102 rfl (fun h79 => ?_) (fun h79 => ?_)
      ·replace hm := ifD h79 hm
       refine v_unguard rfl rfl (g_mv rfl rfl (v_unguard rfl rfl (g_val rfl rfl rfl (fun _ _ => v_eql rfl rfl) (g_pt rfl rfl rfl (g_mv rfl rfl ?_)))))
       refine g_case 106 rfl (fun h80 => ?_) (fun h80 => ?_)
       ·replace hm := ifD h80 hm
        refine v_unguard rfl rfl (g_mv rfl rfl (v_unguard rfl rfl (g_val rfl rfl rfl (fun _ _ => v_eql rfl rfl) (g_pt rfl rfl rfl (g_mv rfl rfl ?_)))))
        refine g_case 110 rfl (fun h81 => ?_) (fun h81 => ?_)
        ·replace hm := ifD h81 hm
         refine v_unguard rfl rfl (g_mv rfl rfl (v_unguard rfl rfl (g_val rfl rfl rfl (fun _ _ => v_eql rfl rfl) (g_pt rfl rfl rfl (g_mv rfl rfl ?_)))))
         refine g_case 114 rfl (fun h82 => ?_) (fun h82 => ?_)
         ·replace hm := ifD h82 hm
          refine v_unguard rfl rfl (g_mv rfl rfl (v_unguard rfl rfl (g_val rfl rfl rfl (fun _ _ => v_eql rfl rfl) (g_pt rfl rfl rfl (g_mv rfl rfl ?_)))))
          refine g_case 118 rfl (fun h83 => ?_) (fun h83 => ?_)
          ·replace hm := ifD h83 hm
           refine v_unguard rfl rfl (g_fa 1 Tryz.runUnderlying25 rfl Tryz.sizeOf23 rfl rfl (v_unguard rfl rfl (g_lc 0 Tryz.isAgg23 rfl rfl rfl rfl (v_unguard rfl rfl (g_val rfl rfl rfl (fun w _ => v_lenN (vlen RSp h74 rfl) (Tryz.runUnderlying23 w) rfl) (v_unguard rfl rfl (g_val rfl rfl rfl (fun _ _ => v_eql rfl rfl) ?_)))))))
           refine g_pt rfl rfl rfl (g_mv rfl rfl ?_)
           refine g_case 124 rfl (fun h84 => ?_) (fun h84 => ?_)
           ·replace hm := ifD h84 hm
            refine v_unguard rfl rfl (g_fa 1 Tryz.runUnderlying25 rfl Tryz.sizeOf23 rfl rfl (v_unguard rfl rfl (g_lc 0 Tryz.isAgg23 rfl rfl rfl rfl (v_unguard rfl rfl ?_))))
            obtain ⟨t127, h85, hm⟩ := bindO hm
            refine g_val rfl rfl rfl (fun w _ => v_ixA h85 (Tryz.runUnderlying23 w) (Tryz.sizeOf32 w) rfl rfl (vlen RSp h74 rfl) (vne h74)) (v_unguard rfl rfl ?_)
            refine g_val rfl rfl rfl (fun w hh => v_ldEA RSp 0 [.int .i64 t127.lo, .int .i64 t127.hi] h85 (Tryz.isAgg32 w) (Tryz.sizeOf32 w) rfl (hh.vseg 1 rfl h74) rfl (Nat.add_zero _).symm) ?_
            refine v_unguard rfl rfl (g_val rfl rfl rfl (fun _ _ => v_build (vs := [(0, _), (1, _)]) (cells := [_, _]) rfl rfl) (v_unguard rfl rfl (g_val rfl rfl rfl (fun w _ => v_eqlAgg (gxeq32 t127 (⟨24, 25⟩ : Span) w) gxeqg32 rfl rfl) (g_pt rfl rfl rfl (g_as rfl rfl (g_nil ?_))))))
            obtain rfl := sj hm
            exact g_leaf () (trivial) (sE rfl) (hsE [0] [0, 1] 0 rfl rfl rfl rfl)
           ·replace hm := ifE h84 hm
            refine g_k rfl rfl rfl rfl (g_k rfl rfl rfl rfl (g_k rfl rfl rfl rfl (g_k rfl rfl rfl rfl (g_k rfl rfl rfl rfl (g_k rfl rfl rfl rfl (g_pf rfl rfl rfl (g_as rfl rfl ?_)))))))
            refine g_nil ?_
            obtain rfl := sj hm
            exact g_leaf () (trivial) (sE rfl) (hsE [0] [0, 1] 0 rfl rfl rfl rfl)
          ·replace hm := ifE h83 hm
           refine g_k rfl rfl rfl rfl (g_k rfl rfl rfl rfl (g_k rfl rfl rfl rfl (g_k rfl rfl rfl rfl (g_pf rfl rfl rfl (g_mv rfl rfl (g_k rfl rfl rfl rfl (g_k rfl rfl rfl rfl ?_)))))))
           refine g_k rfl rfl rfl rfl (g_k rfl rfl rfl rfl (g_k rfl rfl rfl rfl (g_k rfl rfl rfl rfl (g_pf rfl rfl rfl (g_as rfl rfl (g_nil ?_))))))
           obtain rfl := sj hm
           exact g_leaf () (trivial) (sE rfl) (hsE [0] [0, 1] 0 rfl rfl rfl rfl)
         ·replace hm := ifE h82 hm
          refine g_k rfl rfl rfl rfl (g_k rfl rfl rfl rfl (g_pf rfl rfl rfl (g_mv rfl rfl (g_k rfl rfl rfl rfl (g_k rfl rfl rfl rfl (g_k rfl rfl rfl rfl (g_k rfl rfl rfl rfl ?_)))))))
          refine g_pf rfl rfl rfl (g_mv rfl rfl (g_k rfl rfl rfl rfl (g_k rfl rfl rfl rfl (g_k rfl rfl rfl rfl (g_k rfl rfl rfl rfl (g_k rfl rfl rfl rfl (g_k rfl rfl rfl rfl ?_)))))))
          refine g_pf rfl rfl rfl (g_as rfl rfl (g_nil ?_))
          obtain rfl := sj hm
          exact g_leaf () (trivial) (sE rfl) (hsE [0] [0, 1] 0 rfl rfl rfl rfl)
        ·replace hm := ifE h81 hm
         refine g_k rfl rfl rfl rfl (g_k rfl rfl rfl rfl (g_pf rfl rfl rfl (g_mv rfl rfl (g_k rfl rfl rfl rfl (g_k rfl rfl rfl rfl (g_pf rfl rfl rfl (g_mv rfl rfl ?_)))))))
         refine g_k rfl rfl rfl rfl (g_k rfl rfl rfl rfl (g_k rfl rfl rfl rfl (g_k rfl rfl rfl rfl (g_pf rfl rfl rfl (g_mv rfl rfl (g_k rfl rfl rfl rfl (g_k rfl rfl rfl rfl ?_)))))))
         refine g_k rfl rfl rfl rfl (g_k rfl rfl rfl rfl (g_k rfl rfl rfl rfl (g_k rfl rfl rfl rfl (g_pf rfl rfl rfl (g_as rfl rfl (g_nil ?_))))))
         obtain rfl := sj hm
         exact g_leaf () (trivial) (sE rfl) (hsE [0] [0, 1] 0 rfl rfl rfl rfl)
       ·replace hm := ifE h80 hm
        refine g_k rfl rfl rfl rfl (g_k rfl rfl rfl rfl (g_pf rfl rfl rfl (g_mv rfl rfl (g_k rfl rfl rfl rfl (g_k rfl rfl rfl rfl (g_pf rfl rfl rfl (g_mv rfl rfl ?_)))))))
        refine g_k rfl rfl rfl rfl (g_k rfl rfl rfl rfl (g_pf rfl rfl rfl (g_mv rfl rfl (g_k rfl rfl rfl rfl (g_k rfl rfl rfl rfl (g_k rfl rfl rfl rfl (g_k rfl rfl rfl rfl ?_)))))))
        refine g_pf rfl rfl rfl (g_mv rfl rfl (g_k rfl rfl rfl rfl (g_k rfl rfl rfl rfl (g_k rfl rfl rfl rfl (g_k rfl rfl rfl rfl (g_k rfl rfl rfl rfl (g_k rfl rfl rfl rfl ?_)))))))
        refine g_pf rfl rfl rfl (g_as rfl rfl (g_nil ?_))
        obtain rfl := sj hm
        exact g_leaf () (trivial) (sE rfl) (hsE [0] [0, 1] 0 rfl rfl rfl rfl)
      ·replace hm := ifE h79 hm
       refine g_k rfl rfl rfl rfl (g_k rfl rfl rfl rfl (g_pf rfl rfl rfl (g_mv rfl rfl (g_k rfl rfl rfl rfl (g_k rfl rfl rfl rfl (g_pf rfl rfl rfl (g_mv rfl rfl ?_)))))))
       refine g_k rfl rfl rfl rfl (g_k rfl rfl rfl rfl (g_pf rfl rfl rfl (g_mv rfl rfl (g_k rfl rfl rfl rfl (g_k rfl rfl rfl rfl (g_pf rfl rfl rfl (g_mv rfl rfl ?_)))))))
       refine g_k rfl rfl rfl rfl (g_k rfl rfl rfl rfl (g_k rfl rfl rfl rfl (g_k rfl rfl rfl rfl (g_pf rfl rfl rfl (g_mv rfl rfl (g_k rfl rfl rfl rfl (g_k rfl rfl rfl rfl ?_)))))))
       refine g_k rfl rfl rfl rfl (g_k rfl rfl rfl rfl (g_k rfl rfl rfl rfl (g_k rfl rfl rfl rfl (g_pf rfl rfl rfl (g_as rfl rfl (g_nil ?_))))))
       obtain rfl := sj hm
       exact g_leaf () (trivial) (sE rfl) (hsE [0] [0, 1] 0 rfl rfl rfl rfl)
     ·replace hm := ifE h78 hm
      refine g_k rfl rfl rfl rfl (g_k rfl rfl rfl rfl (g_pf rfl rfl rfl (g_mv rfl rfl (g_k rfl rfl rfl rfl (g_k rfl rfl rfl rfl (g_pf rfl rfl rfl (g_mv rfl rfl ?_)))))))
      refine g_k rfl rfl rfl rfl (g_k rfl rfl rfl rfl (g_pf rfl rfl rfl (g_mv rfl rfl (g_k rfl rfl rfl rfl (g_k rfl rfl rfl rfl (g_pf rfl rfl rfl (g_mv rfl rfl ?_)))))))
      refine g_k rfl rfl rfl rfl (g_k rfl rfl rfl rfl (g_pf rfl rfl rfl (g_mv rfl rfl (g_k rfl rfl rfl rfl (g_k rfl rfl rfl rfl (g_k rfl rfl rfl rfl (g_k rfl rfl rfl rfl ?_)))))))
      refine g_pf rfl rfl rfl (g_mv rfl rfl (g_k rfl rfl rfl rfl (g_k rfl rfl rfl rfl (g_k rfl rfl rfl rfl (g_k rfl rfl rfl rfl (g_k rfl rfl rfl rfl (g_k rfl rfl rfl rfl ?_)))))))
      refine g_pf rfl rfl rfl (g_as rfl rfl (g_nil ?_))
      obtain rfl := sj hm
      exact g_leaf () (trivial) (sE rfl) (hsE [0] [0, 1] 0 rfl rfl rfl rfl)
    ·intro l_18 hj
     replace hm := h77
     refine g_n_then (g_ret ?_)
     obtain rfl := sj hm
     refine g_done rfl (fun w hh => (.tmp rfl .nil)) (fun w hh => ⟨(), rfl, trivial, hh.se [] [] 0 rfl rfl rfl rfl⟩)
end Go.Proofs.Ws

namespace Go.Sp
def sumI {α : Type} (f : α → Int) : List α → Int
  | [] => 0
  | x :: l => f x + sumI f l
def base (w : Wy) : Wy := { w with goes := 0 }
def Same (l l' : List Wy) : Prop := l.map base = l'.map base
theorem Same.refl (l : List Wy) : Same l l := rfl
theorem Same.symm {l l' : List Wy} (h : Same l l') : Same l' l := Eq.symm h
theorem Same.trans {a b c : List Wy} (h : Same a b) (k : Same b c) : Same a c := Eq.trans h k
theorem Same.len {l l' : List Wy} (h : Same l l') : l.length = l'.length := by have := congrArg List.length h; simpa using this
theorem Same.cons {w w' : Wy} {l l' : List Wy} (h : Same (w :: l) (w' :: l')) : base w = base w' ∧ Same l l' := by
  have : base w :: l.map base = base w' :: l'.map base := h
  injection this with h1 h2
  exact ⟨h1, h2⟩
theorem base_eq {w w' : Wy} (h : base w = base w') : w.fr = w'.fr ∧ w.dst = w'.dst ∧ w.lo = w'.lo ∧ w.hi = w'.hi ∧ w.cost = w'.cost := by
  cases w; cases w'
  simp only [base, Wy.mk.injEq] at h
  exact ⟨h.1, h.2.1, h.2.2.1, h.2.2.2.1, h.2.2.2.2.1⟩
def bal (φ : Int → Int) (l : List Wy) : Int := sumI (fun w => (φ w.dst - φ w.fr) * w.goes) l
def costs (l : List Wy) : Int := sumI (fun w => w.cost * w.goes) l
def Round (l : List Wy) : Prop := ∀ φ, bal φ l = 0
def Within (l : List Wy) : Prop := ∀ w, w ∈ l → w.lo ≤ w.goes ∧ w.goes ≤ w.hi
def Pot (π : Int → Int) (l : List Wy) : Prop := ∀ w, w ∈ l → (w.goes < w.hi → π w.dst ≤ π w.fr + w.cost) ∧ (min w.lo w.goes < w.goes → π w.fr ≤ π w.dst - w.cost)
theorem Pot.cheap {π : Int → Int} : ∀ {l l' : List Wy}, Same l l' → Pot π l → Within l' → costs l - bal π l ≤ costs l' - bal π l'
  | [], [], _, _, _ => by simp [costs, bal, sumI]
  | [], w' :: l', h, _, _ => by have := Same.len h; simp at this
  | w :: l, [], h, _, _ => by have := Same.len h; simp at this
  | w :: l, w' :: l', h, hp, hw => by
    obtain ⟨hb, hs⟩ := h.cons
    obtain ⟨e1, e2, e3, e4, e5⟩ := base_eq hb
    have ih := Pot.cheap hs (fun x hx => hp x (by simp [hx])) (fun x hx => hw x (by simp [hx]))
    obtain ⟨p1, p2⟩ := hp w (by simp)
    obtain ⟨w1, w2⟩ := hw w' (by simp)
    unfold costs bal at ih ⊢
    simp only [sumI]
    have key : w.cost * w.goes - (π w.dst - π w.fr) * w.goes ≤ w'.cost * w'.goes - (π w'.dst - π w'.fr) * w'.goes := by
      rw [← e5, ← e1, ← e2, ← Int.sub_mul, ← Int.sub_mul]
      have h0 : 0 ≤ (w.cost - (π w.dst - π w.fr)) * (w'.goes - w.goes) := by
        by_cases h1 : w.goes < w'.goes
        · have := p1 (by omega)
          exact Int.mul_nonneg (by omega) (by omega)
        · by_cases h2 : w'.goes < w.goes
          · have := p2 (by omega)
            have h3 := Int.mul_nonneg (a := -(w.cost - (π w.dst - π w.fr))) (b := -(w'.goes - w.goes)) (by omega) (by omega)
            rwa [Int.neg_mul_neg] at h3
          · have : w'.goes - w.goes = 0 := by omega
            rw [this, Int.mul_zero]; omega
      rw [Int.mul_sub] at h0
      omega
    omega
theorem Pot.least {π : Int → Int} {l l' : List Wy} (h : Same l l') (hp : Pot π l) (hr : Round l) (hw : Within l') (hr' : Round l') : costs l ≤ costs l' := by
  have := Pot.cheap h hp hw
  rw [hr π, hr' π] at this
  omega
end Go.Sp

namespace Go.Sp
section
variable (A B C : Change → Int)
structure BF where
  far : Int → Int
  pre : Int → Change
  last : Int
def upd {α : Type} (f : Int → α) (b : Int) (v : α) : Int → α := fun x => if x = b then v else f x
theorem upd_same {α : Type} {f : Int → α} {b : Int} {v : α} : upd f b v b = v := by simp [upd]
theorem upd_ne {α : Type} {f : Int → α} {b x : Int} {v : α} (h : x ≠ b) : upd f b v x = f x := by simp [upd, h]
def relax (s : BF) (c : Change) : BF := if s.far (A c) + C c < s.far (B c) then ⟨upd s.far (B c) (s.far (A c) + C c), upd s.pre (B c) c, B c⟩ else s
def pred (s : BF) (x : Int) : Int := A (s.pre x)
def iterP (p : Int → Int) : Nat → Int → Int
  | 0, x => x
  | k + 1, x => iterP p k (p x)
theorem iterP_succ (p : Int → Int) : ∀ (k : Nat) (x : Int), iterP p (k + 1) x = p (iterP p k x)
  | 0, x => rfl
  | k + 1, x => by
    show iterP p (k + 1) (p x) = p (iterP p k (p x))
    exact iterP_succ p k (p x)
structure Inv (cs : List Change) (r : Nat) (todo : List Change) (rel : Int → Nat) (N : Nat) (s : BF) : Prop where
  lo : ∀ x, - (N : Int) ≤ s.far x
  hi : ∀ x, s.far x ≤ 0
  le : ∀ x, rel x ≤ r
  pc : ∀ x, 1 ≤ rel x → s.pre x ∈ cs ∧ B (s.pre x) = x ∧ s.far (A (s.pre x)) + C (s.pre x) ≤ s.far x ∧ rel x ≤ rel (A (s.pre x)) + 1
  done : ∀ c, c ∈ cs → c ∈ todo ∨ s.far (B c) ≤ s.far (A c) + C c ∨ r ≤ rel (A c)
  left : ∀ c, c ∈ cs → s.far (B c) ≤ s.far (A c) + C c ∨ r ≤ rel (A c) + 1
  strict : ∀ y k, 0 < k → (∀ i, i < k → 1 ≤ rel (iterP (pred A s) i y)) → iterP (pred A s) k y = y → ∃ i, i < k ∧ s.far (iterP (pred A s) (i + 1) y) + C (s.pre (iterP (pred A s) i y)) < s.far (iterP (pred A s) i y)
  lst : 1 ≤ r → (∀ x, rel x = r → 0 ≤ s.last) ∧ (0 ≤ s.last → rel s.last = r)
variable {A B C}
theorem Inv.step {cs : List Change} (hne : ∀ c, c ∈ cs → A c ≠ B c) (hB : ∀ c, c ∈ cs → 0 ≤ B c) (hC : ∀ c, c ∈ cs → -1 ≤ C c) {r : Nat} (hr : 1 ≤ r) {c : Change} {todo : List Change} {rel : Int → Nat} {N : Nat} {s : BF} (hc : c ∈ cs) (h : Inv A B C cs r (c :: todo) rel N s) :
    ∃ rel', Inv A B C cs r todo rel' (N + 1) (relax A B C s c) ∧ ∀ x, rel x ≤ rel' x := by
  unfold relax
  by_cases hlt : s.far (A c) + C c < s.far (B c)
  · rw [if_pos hlt]
    have hlo := h.lo (A c)
    have hhi := h.hi (B c)
    have hcc := hC c hc
    have hne' := hne c hc
    have hleft : r ≤ rel (A c) + 1 := by rcases h.left c hc with h1 | h1; · omega
                                         · exact h1
    refine ⟨fun x => if x = B c then r else rel x, ?_, fun x => ?_⟩
    rotate_left
    · have := h.le x
      simp only; split <;> omega
    have hrel : ∀ x, (if x = B c then r else rel x) = if x = B c then r else rel x := fun _ => rfl
    have hfarle : ∀ x, upd s.far (B c) (s.far (A c) + C c) x ≤ s.far x := fun x => by
      unfold upd; split
      · rename_i e; subst e; omega
      · omega
    -- the predecessor of a node
    have hpred : ∀ x, pred A ⟨upd s.far (B c) (s.far (A c) + C c), upd s.pre (B c) c, B c⟩ x = if x = B c then A c else pred A s x := fun x => by
      unfold pred upd; simp only; split <;> rfl
    refine ⟨fun x => ?_, fun x => ?_, fun x => ?_, fun x hx => ?_, fun d hd => ?_, fun d hd => ?_, fun y k hk hall hcyc => ?_, fun _ => ⟨fun x _ => hB c hc, fun _ => by simp⟩⟩
    · have := h.lo x
      simp only [upd]; split <;> omega
    · have := h.hi x; have := hfarle x; simp only at *; omega
    · have := h.le x
      show (if x = B c then r else rel x) ≤ r
      split <;> omega
    · simp only at hx ⊢
      by_cases hxb : x = B c
      · subst hxb
        rw [upd_same, upd_same, upd_ne hne', if_pos rfl, if_neg hne']
        exact ⟨hc, rfl, Int.le_refl _, hleft⟩
      · rw [if_neg hxb] at hx
        rw [upd_ne hxb, upd_ne hxb, if_neg hxb]
        obtain ⟨h1, h2, h3, h4⟩ := h.pc x hx
        refine ⟨h1, h2, ?_, ?_⟩
        · have := hfarle (A (s.pre x)); omega
        · have := h.le x
          split
          · omega
          · exact h4
    · simp only
      by_cases hda : A d = B c
      · right; right; rw [if_pos hda]; exact Nat.le_refl _
      · rw [if_neg hda, upd_ne hda]
        by_cases hdc : d = c
        · subst hdc
          right; left
          rw [upd_same]; exact Int.le_refl _
        · rcases h.done d hd with h1 | h1 | h1
          · rcases List.mem_cons.1 h1 with h1 | h1
            · exact absurd h1 hdc
            · exact .inl h1
          · right; left; have := hfarle (B d); omega
          · exact .inr (.inr h1)
    · simp only
      by_cases hda : A d = B c
      · right; rw [if_pos hda]; omega
      · rw [if_neg hda, upd_ne hda]
        rcases h.left d hd with h1 | h1
        · left; have := hfarle (B d); omega
        · exact .inr h1
    · -- what goes round
      generalize hp' : pred A ⟨upd s.far (B c) (s.far (A c) + C c), upd s.pre (B c) c, B c⟩ = p' at hall hcyc hpred ⊢
      by_cases hb : ∃ m, m < k ∧ iterP p' m y = B c
      · -- it leads over the node that turned: the one behind it is slack
        obtain ⟨m, hm, hmb⟩ := hb
        have key : ∃ i, i < k ∧ iterP p' (i + 1) y = B c := by
          cases m with
          | zero => exact ⟨k - 1, by omega, by rw [show k - 1 + 1 = k by omega, hcyc]; exact hmb⟩
          | succ m => exact ⟨m, by omega, hmb⟩
        obtain ⟨i, hi, hib⟩ := key
        refine ⟨i, hi, ?_⟩
        have hz : p' (iterP p' i y) = B c := (iterP_succ p' i y).symm.trans hib
        rw [hib]
        have hri := hall i hi
        generalize iterP p' i y = z at hri hz ⊢
        by_cases hzb : z = B c
        · subst hzb
          rw [hpred, if_pos rfl] at hz
          exact absurd hz hne'
        · simp only [upd_ne hzb, upd_same, hzb, if_false] at hri ⊢
          rw [hpred, if_neg hzb] at hz
          obtain ⟨h1, h2, h3, h4⟩ := h.pc z hri
          unfold pred at hz
          rw [hz] at h3
          omega
      · have hno : ∀ m, m < k → iterP p' m y ≠ B c := fun m hm e => hb ⟨m, hm, e⟩
        have heq : ∀ m, m ≤ k → iterP p' m y = iterP (pred A s) m y := by
          intro m
          induction m with
          | zero => intro _; rfl
          | succ m ih =>
            intro hm
            rw [iterP_succ, iterP_succ, ih (by omega), hpred, if_neg (by rw [← ih (by omega)]; exact hno m (by omega))]
        obtain ⟨i, hi, h1⟩ := h.strict y k hk (fun i hi => by
          have := hall i hi
          simp only [hno i hi, if_false] at this
          rwa [heq i (by omega)] at this) (by rw [← heq k (Nat.le_refl _)]; exact hcyc)
        refine ⟨i, hi, ?_⟩
        have e1 : iterP p' (i + 1) y ≠ B c := by
          by_cases hik : i + 1 = k
          · rw [hik, hcyc]; have := hno 0 hk; exact this
          · exact hno (i + 1) (by omega)
        show upd s.far (B c) (s.far (A c) + C c) (iterP p' (i + 1) y) + C (upd s.pre (B c) c (iterP p' i y)) < upd s.far (B c) (s.far (A c) + C c) (iterP p' i y)
        rw [upd_ne e1, upd_ne (hno i hi), upd_ne (hno i hi), heq i (by omega), heq (i + 1) (by omega)]
        exact h1
  · rw [if_neg hlt]
    refine ⟨rel, ⟨fun x => by have := h.lo x; omega, h.hi, h.le, h.pc, fun d hd => ?_, h.left, h.strict, h.lst⟩, fun x => Nat.le_refl _⟩
    rcases h.done d hd with h1 | h1
    · rcases List.mem_cons.1 h1 with h1 | h1
      · subst h1; right; left; omega
      · exact .inl h1
    · exact .inr h1
end
end Go.Sp

namespace Go.Sp
def sumTo (f : Nat → Int) : Nat → Int
  | 0 => 0
  | k + 1 => sumTo f k + f k
theorem sumTo_le {f g : Nat → Int} : ∀ {k : Nat}, (∀ j, j < k → f j ≤ g j) → sumTo f k ≤ sumTo g k
  | 0, _ => Int.le_refl _
  | k + 1, h => by have h1 := sumTo_le (k := k) (fun j hj => h j (by omega)); have := h k (by omega); simp only [sumTo]; omega
section
variable {A B C : Change → Int}
theorem Inv.next {cs : List Change} {r : Nat} {rel : Int → Nat} {N : Nat} {s : BF} (h : Inv A B C cs r [] rel N s) : Inv A B C cs (r + 1) cs rel N { s with last := -1 } :=
  ⟨h.lo, h.hi, fun x => by have := h.le x; omega, h.pc, fun _ hc => .inl hc, fun c hc => by
    rcases h.done c hc with h1 | h1 | h1
    · cases h1
    · exact .inl h1
    · right; omega, h.strict, fun _ => ⟨fun x hx => by have := h.le x; omega, fun h0 => by simp at h0⟩⟩
theorem Inv.start {cs : List Change} (pre : Int → Change) : Inv A B C cs 0 [] (fun _ => 0) 0 ⟨fun _ => 0, pre, -1⟩ :=
  ⟨fun _ => by simp, fun _ => by simp, fun _ => Nat.le_refl _, fun _ h => by omega, fun _ _ => .inr (.inr (Nat.zero_le _)), fun _ _ => .inr (Nat.zero_le _),
   fun y k hk h _ => by have := h 0 hk; omega, fun h => by omega⟩
def round (A B C : Change → Int) (cs : List Change) (s : BF) : BF := cs.foldl (relax A B C) { s with last := -1 }
end
end Go.Sp

namespace Go.Sp
structure BS where
  met : Int → Bool
  pre : Int → Change
section
variable (A B : Change → Int)
def visit (s : BS) (c : Change) : BS := if s.met (A c) = true ∧ s.met (B c) = false then ⟨upd s.met (B c) true, upd s.pre (B c) c⟩ else s
structure BInv (cs : List Change) (src : Int) (d : Int → Nat) (N : Nat) (s : BS) : Prop where
  srcm : s.met src = true
  dle : ∀ x, d x ≤ N
  pc : ∀ x, s.met x = true → x ≠ src → s.pre x ∈ cs ∧ B (s.pre x) = x ∧ s.met (A (s.pre x)) = true ∧ d (A (s.pre x)) < d x
variable {A B}
theorem BInv.step {cs : List Change} {src : Int} {d : Int → Nat} {N : Nat} {s : BS} (h : BInv A B cs src d N s) {c : Change} (hc : c ∈ cs) : ∃ d', BInv A B cs src d' (N + 1) (visit A B s c) := by
  unfold visit
  split
  · rename_i hif
    obtain ⟨h1, h2⟩ := hif
    have hsrc : src ≠ B c := fun e => by rw [← e, h.srcm] at h2; cases h2
    have hAB : A c ≠ B c := fun e => by rw [e, h2] at h1; cases h1
    refine ⟨fun x => if x = B c then d (A c) + 1 else d x, (by show upd s.met (B c) true src = true; rw [upd_ne hsrc]; exact h.srcm), fun x => ?_, fun x hx hxs => ?_⟩
    · have := h.dle (A c); have := h.dle x
      show (if x = B c then d (A c) + 1 else d x) ≤ N + 1
      split <;> omega
    · simp only at hx ⊢
      by_cases hxb : x = B c
      · subst hxb
        rw [upd_same, upd_ne hAB, if_neg hAB, if_pos rfl]
        exact ⟨hc, rfl, h1, Nat.lt_succ_self _⟩
      · rw [upd_ne hxb] at hx ⊢
        rw [if_neg hxb]
        obtain ⟨g1, g2, g3, g4⟩ := h.pc x hx hxs
        have hne : A (s.pre x) ≠ B c := fun e => by rw [e, h2] at g3; cases g3
        rw [upd_ne hne, if_neg hne]
        exact ⟨g1, g2, g3, g4⟩
  · exact ⟨d, h.srcm, fun x => by have := h.dle x; omega, h.pc⟩
theorem BInv.back {cs : List Change} {src : Int} {d : Int → Nat} {N : Nat} {s : BS} (h : BInv A B cs src d N s) {to : Int} (ht : s.met to = true) :
    let p := fun x => A (s.pre x)
    ∃ k, k ≤ N ∧ iterP p k to = src ∧ (∀ j, j < k → iterP p j to ≠ src ∧ s.pre (iterP p j to) ∈ cs ∧ B (s.pre (iterP p j to)) = iterP p j to) ∧ (∀ i j, i < j → j ≤ k → d (iterP p j to) < d (iterP p i to)) := by
  intro p
  have key2 : ∀ n, ∀ x, d x ≤ n → s.met x = true → ∃ k, k ≤ d x ∧ iterP p k x = src ∧ (∀ j, j < k → iterP p j x ≠ src ∧ s.pre (iterP p j x) ∈ cs ∧ B (s.pre (iterP p j x)) = iterP p j x) ∧ (∀ i j, i < j → j ≤ k → d (iterP p j x) < d (iterP p i x)) := by
    intro n
    induction n with
    | zero =>
      intro x hx hm
      by_cases hxs : x = src
      · exact ⟨0, Nat.zero_le _, hxs, fun j hj => by omega, fun i j hij hj => by omega⟩
      · obtain ⟨_, _, _, h4⟩ := h.pc x hm hxs
        omega
    | succ n ih =>
      intro x hx hm
      by_cases hxs : x = src
      · exact ⟨0, Nat.zero_le _, hxs, fun j hj => by omega, fun i j hij hj => by omega⟩
      · obtain ⟨h1, h2, h3, h4⟩ := h.pc x hm hxs
        obtain ⟨k, g1, g2, g3, g4⟩ := ih (p x) (by show d (A (s.pre x)) ≤ n; omega) h3
        refine ⟨k + 1, by have : d (p x) = d (A (s.pre x)) := rfl; omega, g2, fun j hj => ?_, fun i j hij hj => ?_⟩
        · cases j with
          | zero => exact ⟨hxs, h1, h2⟩
          | succ j => exact g3 j (by omega)
        · cases j with
          | zero => omega
          | succ j =>
            cases i with
            | zero =>
              show d (iterP p j (p x)) < d x
              cases j with
              | zero => exact h4
              | succ j =>
                have := g4 0 (j + 1) (by omega) (by omega)
                have e : d (iterP p 0 (p x)) = d (A (s.pre x)) := rfl
                omega
            | succ i => exact g4 i j (by omega) (by omega)
  obtain ⟨k, h1, h2, h3, h4⟩ := key2 (d to) to (Nat.le_refl _) ht
  exact ⟨k, Nat.le_trans h1 (h.dle to), h2, h3, h4⟩
end
end Go.Sp

namespace Go.Sp
def wy (l : List Wy) (c : Change) : Wy := l.getD c.way.toNat default
def rm (l : List Wy) (c : Change) : Int := if c.more = true then (wy l c).hi - (wy l c).goes else (wy l c).goes - min (wy l c).lo (wy l c).goes
def res (l : List Wy) : List Change := (List.range l.length).flatMap fun i : Nat => ([⟨(i : Int), true⟩, ⟨(i : Int), false⟩] : List Change).filter fun c => decide (0 < rm l c)
section same
variable {l l' : List Wy}
end same
end Go.Sp

namespace Go.Gx
theorem addc_eq {a b : Int} (h : -9223372036854775808 ≤ a + b ∧ a + b ≤ 9223372036854775807) : addc a b = some (a + b) := if_pos h
theorem subc_eq {a b : Int} (h : -9223372036854775808 ≤ a - b ∧ a - b ≤ 9223372036854775807) : subc a b = some (a - b) := if_pos h
theorem negc_eq {a : Int} (h : -9223372036854775808 ≤ -a ∧ -a ≤ 9223372036854775807) : negc a = some (-a) := if_pos h
theorem ix_eq {α : Type} {l : List α} {i : Int} (d : α) (h0 : 0 ≤ i) (h1 : i < l.length) : ix l i = some (l.getD i.toNat d) := by
  unfold ix
  rw [if_neg (by omega), List.getD_eq_getElem?_getD]
  have : i.toNat < l.length := by omega
  simp [this]
theorem ix_nat {α : Type} {l : List α} {k : Nat} (d : α) (h1 : k < l.length) : ix l (k : Int) = some (l.getD k d) := by
  have := ix_eq (l := l) (i := (k : Int)) d (by omega) (by omega)
  simpa using this
theorem appc_eq {α : Type} {b : Nat} {l m : List α} (h : (l.length + m.length) * b ≤ 140737488355328) : appc b l m = some (l ++ m) := if_pos h
theorem makec_eq {α : Type} {b : Nat} {z : α} {n c : Int} (h : 0 ≤ n ∧ n ≤ c ∧ (b : Int) * c ≤ 140737488355328 ∧ c ≤ 140737488355328) : makec b z n c = some (List.replicate n.toNat z) := if_pos h
@[simp] theorem oc_inl {α β γ : Type} (a : α) (f : α → γ) (g : β → γ) : oc (.inl a) f g = f a := rfl
@[simp] theorem oc_inr {α β γ : Type} (b : β) (f : α → γ) (g : β → γ) : oc (.inr b) f g = g b := rfl

theorem iterM_step {σ β : Type} {f : σ → Option (σ ⊕ β)} {s s' : σ} {N : Nat} (h : f s = some (.inl s')) : iterM (N + 1) f s = iterM N f s' := by simp [iterM, h]
theorem iterM_done {σ β : Type} {f : σ → Option (σ ⊕ β)} {s : σ} {b : β} {N : Nat} (h : f s = some (.inr b)) : iterM (N + 1) f s = some b := by simp [iterM, h]
theorem iterM_inv {σ β : Type} {f : σ → Option (σ ⊕ β)} (Inv : σ → Prop) (μ : σ → Nat) (Q : β → Prop)
    (h : ∀ s, Inv s → (∃ s', f s = some (.inl s') ∧ Inv s' ∧ μ s' < μ s) ∨ ∃ b, f s = some (.inr b) ∧ Q b) : ∀ (N : Nat) (s : σ), μ s < N → Inv s → ∃ b, iterM N f s = some b ∧ Q b
  | 0, _, hN, _ => absurd hN (Nat.not_lt_zero _)
  | N + 1, s, hN, hI => by
    rcases h s hI with ⟨s', h1, h2, h3⟩ | ⟨b, h1, h2⟩
    · rw [iterM_step h1]
      exact iterM_inv Inv μ Q h N s' (by omega) h2
    · exact ⟨b, iterM_done h1, h2⟩
theorem iterM_run {σ β : Type} {f : σ → Option (σ ⊕ β)} (I : Nat → σ) (n : Nat) {b : β} (hs : ∀ k, k < n → f (I k) = some (.inl (I (k + 1)))) (he : f (I n) = some (.inr b)) : ∀ (N : Nat), n < N → iterM N f (I 0) = some b := by
  have key : ∀ (m k N : Nat), k + m = n → m < N → iterM N f (I k) = some b := by
    intro m
    induction m with
    | zero =>
      intro k N hk hN
      obtain ⟨N, rfl⟩ : ∃ N', N = N' + 1 := ⟨N - 1, by omega⟩
      have : k = n := by omega
      subst this
      exact iterM_done he
    | succ m ih =>
      intro k N hk hN
      obtain ⟨N, rfl⟩ : ∃ N', N = N' + 1 := ⟨N - 1, by omega⟩
      rw [iterM_step (hs k (by omega))]
      exact ih (k + 1) N (by omega) (by omega)
  intro N hN
  exact key n 0 N (by omega) hN
theorem iterM_any {ρ : Type} {f : Int → Option (Int ⊕ (Unit ⊕ ρ))} (i0 : Int) (n : Nat) (bad : Nat → Bool) (e : Nat → ρ) (h1 : ∀ k, k < n → f (i0 + (k : Int)) = some (if bad k then .inr (.inr (e k)) else .inl (i0 + (k : Int) + 1))) (h2 : f (i0 + (n : Int)) = some (.inr (.inl ()))) {N : Nat} (hN : n < N) :
    iterM N f i0 = some (match (List.range n).find? bad with | some k => .inr (e k) | none => .inl ()) := by
  have key : ∀ (m k N : Nat), k + m = n → m < N → (∀ j, j < k → bad j = false) → iterM N f (i0 + (k : Int)) = some (match (List.range n).find? bad with | some k => .inr (e k) | none => .inl ()) := by
    intro m
    induction m with
    | zero =>
      intro k N hk hN hb
      obtain ⟨N, rfl⟩ : ∃ N', N = N' + 1 := ⟨N - 1, by omega⟩
      have : k = n := by omega
      subst this
      rw [iterM_done h2]
      have : (List.range k).find? bad = none := by
        rw [List.find?_eq_none]
        intro x hx
        simp [hb x (by simpa using hx)]
      rw [this]
    | succ m ih =>
      intro k N hk hN hb
      obtain ⟨N, rfl⟩ : ∃ N', N = N' + 1 := ⟨N - 1, by omega⟩
      have hk2 := h1 k (by omega)
      cases hbk : bad k with
      | true =>
        rw [hbk] at hk2
        simp only [if_true] at hk2
        rw [iterM_done hk2]
        have : (List.range n).find? bad = some k := by
          rw [List.find?_range_eq_some]
          exact ⟨hbk, by simp; omega, fun j hj => by simp [hb j hj]⟩
        rw [this]
      | false =>
        rw [hbk] at hk2
        simp only [Bool.false_eq_true, if_false] at hk2
        rw [iterM_step hk2]
        have := ih (k + 1) N (by omega) (by omega) (fun j hj => by
          by_cases hjk : j = k
          · subst hjk; exact hbk
          · exact hb j (by omega))
        rw [show i0 + (k : Int) + 1 = i0 + ((k + 1 : Nat) : Int) by push_cast; omega]
        exact this
  have := key n 0 N (by omega) hN (fun j hj => absurd hj (by omega))
  simpa using this
theorem iterM_any0 {ρ : Type} {f : Int → Option (Int ⊕ (Unit ⊕ ρ))} (n : Nat) (bad : Nat → Bool) (e : ρ) (h1 : ∀ k : Nat, k < n → f (k : Int) = some (if bad k then .inr (.inr e) else .inl ((k : Int) + 1))) (h2 : f (n : Int) = some (.inr (.inl ()))) {N : Nat} (hN : n < N) :
    iterM N f 0 = some (if (List.range n).any bad then .inr e else .inl ()) := by
  have := iterM_any 0 n bad (fun _ => e) (fun k hk => by simpa using h1 k hk) (by simpa using h2) hN
  rw [this]
  cases hf : (List.range n).find? bad with
  | none =>
    have : (List.range n).any bad = false := by
      rw [List.any_eq_false]; intro x hx; simpa using List.find?_eq_none.1 hf x hx
    simp [this]
  | some k =>
    have : (List.range n).any bad = true := List.any_eq_true.2 ⟨k, List.mem_of_find?_eq_some hf, List.find?_some hf⟩
    simp [this]
theorem FU_lt {n : Nat} (h : n < 1000000000000) : n < FU := by unfold FU; omega
end Go.Gx

namespace Go.Gx
open Go
theorem contains_loop {α : Type} {f : Int → Option (Int ⊕ (Unit ⊕ Int))} (l : List α) (d : α) (bad : α → Bool) (hl : l.length < 1000000000000)
    (h : ∀ k : Nat, k < l.length → f (k : Int) = some (if bad (l.getD k d) = true then .inr (.inr (k : Int)) else .inl ((k : Int) + 1))) (he : f (l.length : Int) = some (.inr (.inl ()))) :
    (((iterM FU f 0).bind fun o => oc o (fun _ => (some (-1) : Option Int)) (fun r => some r)).bind fun t => some (decide (0 ≤ t))) = some (l.any bad) := by
  have key := iterM_any (f := f) 0 l.length (fun k => bad (l.getD k d)) (fun k => (k : Int)) (fun k hk => by
    have := h k hk
    rw [Int.zero_add]
    exact this) (by rw [Int.zero_add]; exact he) (N := FU) (FU_lt hl)
  rw [key]
  cases hf : (List.range l.length).find? (fun k => bad (l.getD k d)) with
  | none =>
    have : l.any bad = false := by
      rw [List.any_eq_false]
      intro x hx
      obtain ⟨i, hi, rfl⟩ := List.getElem_of_mem hx
      have h2 := List.find?_eq_none.1 hf i (by simpa using hi)
      simpa [List.getD_eq_getElem?_getD, hi] using h2
    rw [this]
    rfl
  | some k =>
    have h1 := List.find?_some hf
    have h2 : k < l.length := by simpa using List.mem_of_find?_eq_some hf
    have : l.any bad = true := by
      rw [List.any_eq_true]
      refine ⟨l[k], List.getElem_mem h2, ?_⟩
      simpa [List.getD_eq_getElem?_getD, h2] using h1
    rw [this, Option.bind_some, oc_inr, Option.bind_some, decide_eq_true (show (0 : Int) ≤ (k : Int) by omega)]
theorem not_any_not {α : Type} {l : List α} {p : α → Bool} : (!l.any fun x => !p x) = l.all p := by rw [List.not_any_eq_all_not]; simp
end Go.Gx
namespace Go.Gx
theorem iterM_find {σ β : Type} {f : σ → Option (σ ⊕ β)} (I : Nat → σ) (n : Nat) (bad : Nat → Bool) (e : Nat → β) (e0 : β) (h1 : ∀ k, k < n → (∀ j, j < k → bad j = false) → f (I k) = some (if bad k = true then .inr (e k) else .inl (I (k + 1)))) (h2 : f (I n) = some (.inr e0)) {N : Nat} (hN : n < N) :
    iterM N f (I 0) = some (match (List.range n).find? bad with | some k => e k | none => e0) := by
  have key : ∀ (m k N : Nat), k + m = n → m < N → (∀ j, j < k → bad j = false) → iterM N f (I k) = some (match (List.range n).find? bad with | some k => e k | none => e0) := by
    intro m
    induction m with
    | zero =>
      intro k N hk hN hb
      obtain ⟨N, rfl⟩ : ∃ N', N = N' + 1 := ⟨N - 1, by omega⟩
      have : k = n := by omega
      subst this
      rw [iterM_done h2]
      have : (List.range k).find? bad = none := by
        rw [List.find?_eq_none]
        intro x hx
        simp [hb x (by simpa using hx)]
      rw [this]
    | succ m ih =>
      intro k N hk hN hb
      obtain ⟨N, rfl⟩ : ∃ N', N = N' + 1 := ⟨N - 1, by omega⟩
      have hk2 := h1 k (by omega) hb
      cases hbk : bad k with
      | true =>
        rw [hbk] at hk2
        simp only [if_true] at hk2
        rw [iterM_done hk2]
        have : (List.range n).find? bad = some k := by
          rw [List.find?_range_eq_some]
          exact ⟨hbk, by simp; omega, fun j hj => by simp [hb j hj]⟩
        rw [this]
      | false =>
        rw [hbk] at hk2
        simp only [Bool.false_eq_true, if_false] at hk2
        rw [iterM_step hk2]
        exact ih (k + 1) N (by omega) (by omega) (fun j hj => by
          by_cases hjk : j = k
          · subst hjk; exact hbk
          · exact hb j (by omega))
  exact key n 0 N (by omega) hN (fun j hj => absurd hj (by omega))
def filtL (p : Nat → Bool) (k : Nat) : List Int := ((List.range k).filter p).map fun i : Nat => (i : Int)
theorem filtL_succ {p : Nat → Bool} {k : Nat} : filtL p (k + 1) = if p k = true then filtL p k ++ [(k : Int)] else filtL p k := by
  unfold filtL
  rw [List.range_succ, List.filter_append, List.map_append]
  cases h : p k with
  | true => simp [h]
  | false => simp [h]
theorem filtL_len {p : Nat → Bool} {k : Nat} : (filtL p k).length ≤ k := by
  unfold filtL
  rw [List.length_map]
  exact Nat.le_trans (List.length_filter_le _ _) (by simp)
end Go.Gx

namespace Go.Gx
open Go
theorem range_set {α : Type} {f : Nat → α} {n i : Nat} {v : α} : ((List.range n).map f).set i v = (List.range n).map fun t => if t = i then v else f t := by
  apply List.ext_getElem
  · simp
  · intro j h1 h2
    simp only [List.length_set, List.length_map, List.length_range] at h1
    rw [List.getElem_set]
    simp only [List.getElem_map, List.getElem_range]
    by_cases h : i = j
    · subst h; simp
    · rw [if_neg h, if_neg (fun e => h e.symm)]
theorem range_ix {α : Type} {f : Nat → α} {n i : Nat} (h : i < n) : ix ((List.range n).map f) (i : Int) = some (f i) := by
  unfold ix
  rw [if_neg (by omega), Int.toNat_natCast]
  simp [h]
end Go.Gx

namespace Go.Proofs.Ws
open Go Go.Fw Go.Gx Go.Sp
def gI {α : Type} (d : α) (l : List α) (x : Int) : α := if 0 ≤ x then l.getD x.toNat d else d
end Go.Proofs.Ws

namespace Go.Proofs.Ws
open Go Go.Fw Go.Gx Go.Sp
structure FL where
  far : List Int
  by_ : List Change
  last : Int
structure F12 (K : Nat) (s : FL) : Prop where
  far : s.far.length = 12
  by_ : s.by_.length = 12
  lo : ∀ x, -(K : Int) ≤ gI 0 s.far x ∧ gI 0 s.far x ≤ 0
theorem F12.mono {K K' : Nat} {s : FL} (h : F12 K s) (hk : K ≤ K') : F12 K' s := ⟨h.far, h.by_, fun x => by have := h.lo x; omega⟩
end Go.Proofs.Ws

namespace Go.Proofs.Ws
open Go Go.Fw Go.Gx Go.Sp
def goneP (x : Strip) : Span := ⟨max 0 (x.lay.lo + x.seeded.lo - x.left.hi), x.lay.hi + x.seeded.hi - x.left.lo⟩
def In30 (x : Span) : Prop := 0 ≤ x.lo ∧ x.lo ≤ 30 ∧ 0 ≤ x.hi ∧ x.hi ≤ 30
theorem m_gone_eq {x : Strip} (h1 : In30 x.lay) (h2 : In30 x.seeded) (h3 : In30 x.left) : m_strip_Strip_gone x = some (goneP x) := by
  unfold m_strip_Strip_gone goneP
  unfold In30 at *
  rw [addc_eq (by omega), Option.bind_some, subc_eq (by omega), Option.bind_some, addc_eq (by omega), Option.bind_some, subc_eq (by omega), Option.bind_some]
structure NetS (st : List Strip) (ca : List Span) : Prop where
  s6 : st.length ≤ 6
  c5 : ca.length ≤ 5
  sp : ∀ x, x ∈ st → In30 x.lay ∧ In30 x.seeded ∧ In30 x.left ∧ (goneP x).lo ≤ (goneP x).hi
  cp : ∀ x, x ∈ ca → In30 x ∧ x.lo ≤ x.hi
def gOf (st : List Strip) (k : Nat) : Span := goneP (st.getD k default)
def hOf (ca : List Span) (t : Nat) : Span := ca.getD t default
def rOf (mp : List (Pair × Bool)) (t k : Nat) : Bool := (aget mp ⟨(t : Int), (k : Int)⟩).getD false
def CfOK (st : List Strip) (ca : List Span) (cf : Pair → Option Int) : Prop := ∀ t k : Nat, t < ca.length → k < st.length → ∃ c : Int, cf ⟨(t : Int), (k : Int)⟩ = some c ∧ -1 ≤ c ∧ c ≤ 1
theorem reachL_map (n : Nat) (mp : List (Pair × Bool)) (t : Nat) : reachL n mp (t : Int) = ((List.range n).filter (rOf mp t)).map fun k : Nat => (k : Int) := by
  unfold reachL
  rw [List.filter_map]
  rfl
theorem hOf_ok {st : List Strip} {ca : List Span} (hS : NetS st ca) {t : Nat} (ht : t < ca.length) : 0 ≤ (hOf ca t).lo ∧ (hOf ca t).lo ≤ (hOf ca t).hi ∧ (hOf ca t).hi ≤ 30 := by
  have hx : ca.getD t default = ca[t] := by simp [List.getD_eq_getElem?_getD, ht]
  obtain ⟨b1, b2⟩ := hS.cp _ (List.getElem_mem ht)
  unfold hOf
  rw [hx]
  unfold In30 at *
  omega
end Go.Proofs.Ws

namespace Go.Proofs.Ws
open Go Go.Fw Go.Gx Go.Sp
theorem sumTo_zero : ∀ k, sumTo (fun _ => 0) k = 0
  | 0 => rfl
  | k + 1 => by simp only [sumTo]; rw [sumTo_zero k]; rfl
theorem sumTo_nonneg {f : Nat → Int} {n : Nat} (h : ∀ j, j < n → 0 ≤ f j) : 0 ≤ sumTo f n := by
  have := sumTo_le (f := fun _ => 0) (g := f) (k := n) h
  rwa [sumTo_zero] at this
theorem sumTo_mem_le {f : Nat → Int} : ∀ {n j : Nat}, (∀ j, j < n → 0 ≤ f j) → j < n → f j ≤ sumTo f n
  | 0, j, _, hj => by omega
  | n + 1, j, h, hj => by
    simp only [sumTo]
    by_cases hjn : j = n
    · subst hjn
      have := sumTo_nonneg (f := f) (n := j) (fun i hi => h i (by omega)); omega
    · have := sumTo_mem_le (f := f) (n := n) (j := j) (fun i hi => h i (by omega)) (by omega)
      have := h n (by omega); omega
end Go.Proofs.Ws

namespace Go.Gx
open Go
theorem any_loop {α : Type} (l : List α) (d : α) (p : α → Option Bool) (hp : α → Bool) (hl : l.length < 1000000000000) (h : ∀ x, x ∈ l → p x = some (hp x)) {f : Int → Option (Int ⊕ (Unit ⊕ Int))}
    (hf : ∀ s, f s = if s < (l.length : Int) then ((ix l s).bind fun x => (p x).bind fun b => if b = true then (some (.inr (.inr s))) else ((addc s 1).bind fun k => some (.inl k))) else some (.inr (.inl ()))) :
    (((iterM FU f 0).bind fun o => oc o (fun _ => (some (-1) : Option Int)) (fun r => some r)).bind fun t => some (decide (0 ≤ t))) = some (l.any hp) := by
  refine contains_loop (f := f) l d hp hl (fun k hk => ?_) ?_
  · rw [hf, if_pos (by omega), ix_nat d hk, Option.bind_some, h _ (by simp [List.getD_eq_getElem?_getD, hk]), Option.bind_some, addc_eq (by omega), Option.bind_some]
    split <;> rfl
  · rw [hf, if_neg (by omega)]
end Go.Gx
namespace Go.Proofs.Ws
open Go Go.Fw Go.Gx Go.Sp
def inb (n lo hi : Int) : Bool := decide (lo ≤ n) && decide (n ≤ hi)
theorem m_in_eq (n lo hi : Int) : m_strip_in n lo hi = some (inb n lo hi) := by
  unfold m_strip_in inb
  by_cases h : lo ≤ n
  · simp [h]
  · simp [h]
theorem inb_iff {n lo hi : Int} : inb n lo hi = true ↔ lo ≤ n ∧ n ≤ hi := by simp [inb]
def okSp (x : Span) : Bool := inb x.lo 0 30 && inb x.hi 0 30
theorem okSp_iff {x : Span} : okSp x = true ↔ In30 x := by
  unfold okSp In30
  rw [Bool.and_eq_true, inb_iff, inb_iff]
  constructor
  · rintro ⟨⟨a, b⟩, c, d⟩; exact ⟨a, b, c, d⟩
  · rintro ⟨a, b, c, d⟩; exact ⟨⟨a, b⟩, c, d⟩
theorem m_allowed_eq (x : Span) : m_strip_allowed x = some (okSp x) := by
  unfold m_strip_allowed okSp
  rw [m_in_eq, Option.bind_some]
  by_cases h : inb x.lo 0 30 = true
  · rw [if_pos h, m_in_eq, h]; rfl
  · rw [if_neg h]
    have : inb x.lo 0 30 = false := by simpa using h
    rw [this]; rfl
def spansOf (s : Scalps) : List Span := s.carried ++ s.strips.flatMap fun x => [x.lay, x.seeded, x.left]
theorem flat3_len {l : List Strip} : (l.flatMap fun x => [x.lay, x.seeded, x.left]).length = 3 * l.length := by
  induction l with
  | nil => rfl
  | cons x l ih => rw [List.flatMap_cons, List.length_append, ih]; simp; omega
theorem m_spans_eq {s : Scalps} (h6 : s.strips.length ≤ 6) (h1 : 1 ≤ s.carried.length) (h5 : s.carried.length ≤ 5) : m_strip_Scalps_spans s = some (spansOf s) := by
  unfold m_strip_Scalps_spans m_slices_Clone_apiSpanapiSpan
  rw [if_pos (by omega), appc_eq (by simp; omega), Option.bind_some, Option.bind_some]
  have key := iterM_run (f := m_strip_Scalps_spans_L0 s) (fun j => ⟨(j : Int), s.carried ++ (s.strips.take j).flatMap fun x => [x.lay, x.seeded, x.left]⟩) s.strips.length (b := spansOf s) (fun j hj => ?_) ?_ FU (FU_lt (by omega))
  · simp only [List.take_zero, List.flatMap_nil, List.append_nil] at key
    rw [List.nil_append]
    rw [show (0 : Int) = ((0 : Nat) : Int) from rfl, key, Option.bind_some]
  · unfold m_strip_Scalps_spans_L0
    have hlt : (j : Int) < (s.strips.length : Int) := by omega
    simp only [hlt, if_true]
    have hx : s.strips.getD j default = s.strips[j] := by simp [List.getD_eq_getElem?_getD, hj]
    rw [ix_nat default hj, Option.bind_some, hx, appc_eq (by
      have := flat3_len (l := s.strips.take j)
      rw [List.length_take] at this
      simp only [List.length_append, List.length_cons, List.length_nil]; omega), Option.bind_some, addc_eq (by omega), Option.bind_some]
    have e : s.strips.take (j + 1) = s.strips.take j ++ [s.strips[j]] := by rw [List.take_append_getElem]
    rw [e, List.flatMap_append, List.append_assoc]
    rfl
  · unfold m_strip_Scalps_spans_L0
    simp [spansOf]
theorem spans_len {s : Scalps} : (spansOf s).length = s.carried.length + 3 * s.strips.length := by unfold spansOf; rw [List.length_append, flat3_len]
theorem m_every_allowed {l : List Span} (hl : l.length < 1000) : m_strip_every_apiSpan l = some (l.all okSp) := by
  have := any_loop l default m_strip_every_api_Span_1 (fun x => !okSp x) (by omega) (fun x _ => by unfold m_strip_every_api_Span_1; rw [m_allowed_eq]; rfl) (f := m_slices_IndexFunc_apiSpanapiSpan_L0 l) (fun s => rfl)
  unfold m_strip_every_apiSpan m_slices_ContainsFunc_apiSpanapiSpan m_slices_IndexFunc_apiSpanapiSpan
  rw [this, Option.bind_some, not_any_not]
theorem m_every_turned {l : List Span} (hl : l.length < 1000) : m_strip_every_apiSpan_1 l = some (l.all fun x => decide (x.lo ≤ x.hi)) := by
  have := any_loop l default m_strip_every_api_Span_1_1 (fun x => !decide (x.lo ≤ x.hi)) (by omega) (fun x _ => by unfold m_strip_every_api_Span_1_1 m_strip_Check_2; rfl) (f := m_slices_IndexFunc_apiSpanapiSpan_1_L0 l) (fun s => rfl)
  unfold m_strip_every_apiSpan_1 m_slices_ContainsFunc_apiSpanapiSpan_1 m_slices_IndexFunc_apiSpanapiSpan_1
  rw [this, Option.bind_some, not_any_not]
theorem m_tenant_eq {s : Scalps} (h : s.carried.length < 1000) (n : Int) : m_strip_Scalps_tenant s n = some (inb n 0 ((s.carried.length : Int) - 1)) := by
  unfold m_strip_Scalps_tenant
  rw [subc_eq (by omega), Option.bind_some, m_in_eq]; rfl
theorem m_strip_eq {s : Scalps} (h : s.strips.length < 1000) (n : Int) : m_strip_Scalps_strip s n = some (inb n 0 ((s.strips.length : Int) - 1)) := by
  unfold m_strip_Scalps_strip
  rw [subc_eq (by omega), Option.bind_some, m_in_eq]; rfl
theorem m_every_tenant {l : List Strip} {s : Scalps} (h : s.carried.length < 1000) (hl : l.length < 1000) : m_strip_every_stripStrip l s = some (l.all fun x => inb x.tenant 0 ((s.carried.length : Int) - 1)) := by
  have := any_loop l default (fun x => m_strip_every_strip_Strip_1 x s) (fun x => !inb x.tenant 0 ((s.carried.length : Int) - 1)) (by omega) (fun x _ => by unfold m_strip_every_strip_Strip_1 m_strip_Check_1; rw [m_tenant_eq h]; rfl) (f := m_slices_IndexFunc_stripStripstripStrip_L0 l s) (fun s => rfl)
  unfold m_strip_every_stripStrip m_slices_ContainsFunc_stripStripstripStrip m_slices_IndexFunc_stripStripstripStrip
  rw [this, Option.bind_some, not_any_not]
theorem m_every_gone {l : List Strip} (hl : l.length < 1000) (h : ∀ x, x ∈ l → In30 x.lay ∧ In30 x.seeded ∧ In30 x.left) : m_strip_every_stripStrip_1 l = some (l.all fun x => decide (0 ≤ (goneP x).hi)) := by
  have := any_loop l default m_strip_every_strip_Strip_1_1 (fun x => !decide (0 ≤ (goneP x).hi)) (by omega) (fun x hx => by
    obtain ⟨a, b, c⟩ := h x hx
    unfold m_strip_every_strip_Strip_1_1 m_strip_Check_3; rw [m_gone_eq a b c]; rfl) (f := m_slices_IndexFunc_stripStripstripStrip_1_L0 l) (fun s => rfl)
  unfold m_strip_every_stripStrip_1 m_slices_ContainsFunc_stripStripstripStrip_1 m_slices_IndexFunc_stripStripstripStrip_1
  rw [this, Option.bind_some, not_any_not]
def chk (s : Scalps) : Int :=
  if inb (s.strips.length : Int) 1 6 = true ∧ inb (s.carried.length : Int) 1 5 = true then
    if (spansOf s).all okSp = true then
      if (s.strips.all fun x => inb x.tenant 0 ((s.carried.length : Int) - 1)) = true then
        if ((spansOf s).all fun x => decide (x.lo ≤ x.hi)) = true then
          if (s.strips.all fun x => decide (0 ≤ (goneP x).hi)) = true then 0 else 8
        else 4
      else 1
    else 3
  else 2
theorem not_true_if {α : Type} (b : Bool) (x y : α) : (if (!b) = true then x else y) = if b = true then y else x := by cases b <;> rfl
theorem spans_mem {s : Scalps} {x : Strip} (hx : x ∈ s.strips) : x.lay ∈ spansOf s ∧ x.seeded ∈ spansOf s ∧ x.left ∈ spansOf s := by
  unfold spansOf
  refine ⟨List.mem_append_right _ (List.mem_flatMap.2 ⟨x, hx, by simp⟩), List.mem_append_right _ (List.mem_flatMap.2 ⟨x, hx, by simp⟩), List.mem_append_right _ (List.mem_flatMap.2 ⟨x, hx, by simp⟩)⟩
theorem m_Check_eq (s : Scalps) : m_strip_Check s = some (chk s) := by
  unfold m_strip_Check chk
  rw [m_in_eq, Option.bind_some, m_in_eq]
  simp only [not_true_if, Option.bind_some]
  by_cases h1 : inb (s.strips.length : Int) 1 6 = true
  · by_cases h2 : inb (s.carried.length : Int) 1 5 = true
    · rw [if_pos h1, if_pos ⟨h1, h2⟩, h2, Option.bind_some]
      have h1' := inb_iff.1 h1
      have h2' := inb_iff.1 h2
      have hsl := spans_len (s := s)
      simp only [Bool.not_true, Bool.false_eq_true, if_false]
      rw [m_spans_eq (by omega) (by omega) (by omega), Option.bind_some, m_every_allowed (by omega), Option.bind_some]
      by_cases h3 : (spansOf s).all okSp = true
      · rw [if_pos h3, if_pos h3, m_every_tenant (by omega) (by omega), Option.bind_some]
        split
        · rw [Option.bind_some, m_every_turned (by omega), Option.bind_some]
          split
          · rw [m_every_gone (by omega) (fun x hx => ?_), Option.bind_some]
            · split <;> rfl
            · obtain ⟨a, b, c⟩ := spans_mem hx
              have := List.all_eq_true.1 h3
              exact ⟨okSp_iff.1 (this _ a), okSp_iff.1 (this _ b), okSp_iff.1 (this _ c)⟩
          · rfl
        · rfl
      · rw [if_neg h3, if_neg h3]
    · rw [if_pos h1, if_neg (fun h => h2 h.2)]
      have : inb (s.carried.length : Int) 1 5 = false := by simpa using h2
      rw [this]; rfl
  · rw [if_neg h1, if_neg (fun h => h1 h.1)]; rfl
structure Right (s : Scalps) : Prop where
  net : NetS s.strips s.carried
  s1 : 1 ≤ s.strips.length
  c1 : 1 ≤ s.carried.length
  ten : ∀ x, x ∈ s.strips → 0 ≤ x.tenant ∧ x.tenant < s.carried.length
  ord : ∀ x, x ∈ s.strips → x.lay.lo ≤ x.lay.hi ∧ x.seeded.lo ≤ x.seeded.hi ∧ x.left.lo ≤ x.left.hi
theorem right_of {s : Scalps} (h : chk s = 0) : Right s := by
  unfold chk at h
  split at h
  · rename_i h1
    split at h
    · rename_i h2
      split at h
      · rename_i h3
        split at h
        · rename_i h4
          split at h
          · rename_i h5
            have e1 := inb_iff.1 h1.1
            have e2 := inb_iff.1 h1.2
            have g2 := List.all_eq_true.1 h2
            have g3 := List.all_eq_true.1 h3
            have g4 := List.all_eq_true.1 h4
            have g5 := List.all_eq_true.1 h5
            have ord : ∀ x, x ∈ s.strips → x.lay.lo ≤ x.lay.hi ∧ x.seeded.lo ≤ x.seeded.hi ∧ x.left.lo ≤ x.left.hi := fun x hx => by
              obtain ⟨a, b, c⟩ := spans_mem hx
              exact ⟨of_decide_eq_true (g4 _ a), of_decide_eq_true (g4 _ b), of_decide_eq_true (g4 _ c)⟩
            refine ⟨⟨by omega, by omega, fun x hx => ?_, fun x hx => ?_⟩, by omega, by omega, fun x hx => ?_, ord⟩
            · obtain ⟨a, b, c⟩ := spans_mem hx
              refine ⟨okSp_iff.1 (g2 _ a), okSp_iff.1 (g2 _ b), okSp_iff.1 (g2 _ c), ?_⟩
              have o := ord x hx
              have := of_decide_eq_true (g5 _ hx)
              unfold goneP at *
              simp only at this ⊢
              omega
            · have hm : x ∈ spansOf s := List.mem_append_left _ hx
              exact ⟨okSp_iff.1 (g2 _ hm), of_decide_eq_true (g4 _ hm)⟩
            · have := inb_iff.1 (g3 _ hx); omega
          · cases h
        · cases h
      · cases h
    · cases h
  · cases h
theorem of_right {s : Scalps} (h : Right s) : chk s = 0 := by
  have hm : ∀ x, x ∈ spansOf s → In30 x ∧ x.lo ≤ x.hi := fun x hx => by
    unfold spansOf at hx
    rcases List.mem_append.1 hx with hx | hx
    · exact h.net.cp x hx
    · obtain ⟨y, hy, hx⟩ := List.mem_flatMap.1 hx
      obtain ⟨a, b, c, _⟩ := h.net.sp y hy
      obtain ⟨d, e, f⟩ := h.ord y hy
      simp only [List.mem_cons, List.not_mem_nil, or_false] at hx
      rcases hx with rfl | rfl | rfl
      · exact ⟨a, d⟩
      · exact ⟨b, e⟩
      · exact ⟨c, f⟩
  have := h.net.s6; have := h.net.c5; have := h.s1; have := h.c1
  unfold chk
  rw [if_pos ⟨inb_iff.2 (by omega), inb_iff.2 (by omega)⟩, if_pos (List.all_eq_true.2 fun x hx => okSp_iff.2 (hm x hx).1), if_pos (List.all_eq_true.2 fun x hx => inb_iff.2 (by have := h.ten x hx; omega)), if_pos (List.all_eq_true.2 fun x hx => decide_eq_true (hm x hx).2), if_pos (List.all_eq_true.2 fun x hx => decide_eq_true (by
    have := (h.net.sp x hx).2.2.2
    unfold goneP at *
    simp only at this ⊢
    omega))]
end Go.Proofs.Ws

namespace Go.Gx
open Go
theorem afind_none {α β : Type} [DecidableEq α] : ∀ {l : List (α × β)} {k : α} {i : Nat}, afind l k i = none ↔ ∀ p, p ∈ l → p.1 ≠ k
  | [], k, i => by simp [afind]
  | (k', v') :: r, k, i => by
    unfold afind
    by_cases h : k = k'
    · rw [if_pos h]
      constructor
      · intro h2; cases h2
      · intro h2; exact absurd h.symm (h2 (k', v') (by simp))
    · rw [if_neg h, afind_none]
      constructor
      · intro h2 p hp
        rcases List.mem_cons.1 hp with rfl | hp
        · exact fun e => h e.symm
        · exact h2 p hp
      · intro h2 p hp; exact h2 p (List.mem_cons_of_mem _ hp)
theorem aget_val {α β : Type} [DecidableEq α] : ∀ {l : List (α × β)} {k : α} {i : Nat}, (afind l k i).map (·.2) = (l.find? fun p => decide (p.1 = k)).map (·.2)
  | [], k, i => rfl
  | (k', v') :: r, k, i => by
    unfold afind
    by_cases h : k = k'
    · rw [if_pos h, List.find?_cons, decide_eq_true h.symm]; rfl
    · rw [if_neg h, aget_val (i := i + 1), List.find?_cons, decide_eq_false (fun e => h e.symm)]
theorem find_modify {α β : Type} [DecidableEq α] (v : β) (k x : α) : ∀ {l : List (α × β)} {i j : Nat} {v0 : β}, afind l k j = some (i, v0) → ((l.modify (i - j) (fun p => (p.1, v))).find? fun p => decide (p.1 = x)).map (·.2) = if x = k then some v else (l.find? fun p => decide (p.1 = x)).map (·.2)
  | [], i, j, v0, h => by cases h
  | (k', v') :: r, i, j, v0, h => by
    unfold afind at h
    by_cases hk : k = k'
    · rw [if_pos hk] at h
      cases h
      rw [Nat.sub_self, List.modify_zero_cons, List.find?_cons, List.find?_cons]
      subst hk
      by_cases hx : k = x
      · rw [decide_eq_true hx, if_pos hx.symm]; rfl
      · rw [decide_eq_false hx, if_neg (fun e => hx e.symm)]
    · rw [if_neg hk] at h
      have hle := (afind_some h).1
      have e : i - j = (i - (j + 1)) + 1 := by omega
      rw [e, List.modify_succ_cons, List.find?_cons, List.find?_cons]
      have ih := find_modify v k x h
      by_cases hx : k' = x
      · rw [decide_eq_true hx, if_neg (fun e => hk (by rw [← e, hx]))]
      · rw [decide_eq_false hx]; exact ih
theorem aget_aset {α β : Type} [DecidableEq α] (l : List (α × β)) (k x : α) (v : β) : aget (aset l k v) x = if x = k then some v else aget l x := by
  unfold aget aset
  rw [aget_val, aget_val]
  cases h : afind l k 0 with
  | none =>
    simp only
    rw [List.find?_append]
    by_cases hx : x = k
    · subst hx
      have : (l.find? fun p => decide (p.1 = x)) = none := by
        rw [List.find?_eq_none]
        intro p hp
        simpa using afind_none.1 h p hp
      rw [this, if_pos rfl]
      simp
    · rw [if_neg hx]
      have : (List.find? (fun p : α × β => decide (p.1 = x)) [(k, v)]) = none := by
        rw [List.find?_cons, decide_eq_false (fun e => hx e.symm)]; rfl
      rw [this, Option.or_none]
  | some p =>
    obtain ⟨i, v0⟩ := p
    exact find_modify v k x h
end Go.Gx
namespace Go.Proofs.Ws
open Go Go.Fw Go.Gx Go.Sp
def Near (st : List Strip) (t k j : Int) : Prop := 0 ≤ k ∧ k < st.length ∧ j - 1 ≤ k ∧ k ≤ j + 1 ∧ 0 ≤ j ∧ j < st.length ∧ (st.getD j.toNat default).tenant = t
def MapOK (st : List Strip) (mp : List (Pair × Bool)) : Prop := ∀ t k : Int, ((aget mp ⟨t, k⟩).getD false = true ↔ ∃ j, Near st t k j)
theorem m_opened_loop {s : Scalps} (h6 : s.strips.length ≤ 6) : ∃ mp, iterM FU (m_strip_opened_L0 s) ⟨0, []⟩ = some mp ∧ MapOK s.strips mp := by
  refine iterM_inv (f := m_strip_opened_L0 s) (fun x => 0 ≤ x.t21 ∧ x.t21 ≤ s.strips.length ∧ ∀ t k : Int, ((aget x.t15 ⟨t, k⟩).getD false = true ↔ ∃ j, Near s.strips t k j ∧ j < x.t21)) (fun x => s.strips.length - x.t21.toNat) (MapOK s.strips) (fun x hx => ?_) FU _ (FU_lt (by simp only; omega)) ⟨by simp, by simp, fun t k => ?_⟩
  · obtain ⟨h0, h1, hI⟩ := hx
    unfold m_strip_opened_L0
    by_cases hlt : x.t21 < (s.strips.length : Int)
    · left
      simp only [hlt, if_true]
      rw [ix_eq default h0 hlt, Option.bind_some, subc_eq (by omega), Option.bind_some]
      generalize hy : s.strips.getD x.t21.toNat default = y
      have key : ∃ mp, iterM FU (m_strip_opened_L1 x s y) ⟨x.t21 - 1, x.t15⟩ = some mp ∧ ∀ t k : Int, ((aget mp ⟨t, k⟩).getD false = true ↔ ∃ j, Near s.strips t k j ∧ j < x.t21 + 1) := by
        refine iterM_inv (f := m_strip_opened_L1 x s y) (fun z => x.t21 - 1 ≤ z.k8 ∧ z.k8 ≤ x.t21 + 2 ∧ ∀ t k : Int, ((aget z.t15 ⟨t, k⟩).getD false = true ↔ (∃ j, Near s.strips t k j ∧ j < x.t21) ∨ (k < z.k8 ∧ Near s.strips t k x.t21))) (fun z => (x.t21 + 2 - z.k8).toNat) _ (fun z hz => ?_) FU _ (FU_lt (by simp only; omega)) ⟨by simp, by simp only; omega, fun t k => ?_⟩
        · obtain ⟨g0, g1, gI⟩ := hz
          unfold m_strip_opened_L1
          rw [addc_eq (by omega), Option.bind_some]
          by_cases hz2 : z.k8 ≤ x.t21 + 1
          · left
            rw [if_pos hz2, m_strip_eq (by omega), Option.bind_some]
            by_cases hk : inb z.k8 0 ((s.strips.length : Int) - 1) = true
            · have hk' := inb_iff.1 hk
              rw [if_pos hk, Option.bind_some, Option.bind_some, addc_eq (by omega), Option.bind_some]
              refine ⟨_, rfl, ⟨by simp only; omega, by simp only; omega, fun t k => ?_⟩, by simp only; omega⟩
              simp only
              rw [aget_aset]
              by_cases he : (⟨t, k⟩ : Pair) = ⟨y.tenant, z.k8⟩
              · rw [if_pos he]
                simp only [Pair.mk.injEq] at he
                simp only [Option.getD_some, true_iff]
                refine .inr ⟨by omega, by omega, by omega, by omega, by omega, h0, hlt, ?_⟩
                rw [hy]; exact he.1.symm
              · rw [if_neg he, gI]
                constructor
                · rintro (h | ⟨h, h'⟩)
                  · exact .inl h
                  · exact .inr ⟨by omega, h'⟩
                · rintro (h | ⟨h, h'⟩)
                  · exact .inl h
                  · by_cases hkz : k = z.k8
                    · exfalso
                      apply he
                      have := h'.2.2.2.2.2.2
                      rw [hy] at this
                      rw [hkz, this]
                    · exact .inr ⟨by omega, h'⟩
            · rw [if_neg hk, Option.bind_some, addc_eq (by omega), Option.bind_some]
              refine ⟨_, rfl, ⟨by simp only; omega, by simp only; omega, fun t k => ?_⟩, by simp only; omega⟩
              simp only
              rw [gI]
              constructor
              · rintro (h | ⟨h, h'⟩)
                · exact .inl h
                · exact .inr ⟨by omega, h'⟩
              · rintro (h | ⟨h, h'⟩)
                · exact .inl h
                · by_cases hkz : k = z.k8
                  · exfalso
                    exact hk (inb_iff.2 ⟨by have := h'.1; omega, by have := h'.2.1; omega⟩)
                  · exact .inr ⟨by omega, h'⟩
          · right
            rw [if_neg hz2]
            refine ⟨_, rfl, fun t k => ?_⟩
            rw [gI]
            constructor
            · rintro (⟨j, h, h'⟩ | ⟨h, h'⟩)
              · exact ⟨j, h, by omega⟩
              · exact ⟨x.t21, h', by omega⟩
            · rintro ⟨j, h, h'⟩
              by_cases hj : j = x.t21
              · subst hj
                exact .inr ⟨by have := h.2.2.2.1; omega, h⟩
              · exact .inl ⟨j, h, by omega⟩
        · simp only
          rw [hI]
          constructor
          · exact .inl
          · rintro (h | ⟨h, h'⟩)
            · exact h
            · have := h'.2.2.1; omega
      obtain ⟨mp, hmp, hI2⟩ := key
      rw [hmp, Option.bind_some, addc_eq (by omega), Option.bind_some]
      exact ⟨_, rfl, ⟨by simp only; omega, by simp only; omega, hI2⟩, by simp only; omega⟩
    · right
      simp only [hlt, if_false]
      refine ⟨_, rfl, fun t k => ?_⟩
      rw [hI]
      constructor
      · rintro ⟨j, h, _⟩; exact ⟨j, h⟩
      · rintro ⟨j, h⟩; exact ⟨j, h, by have := h.2.2.2.2.2.1; omega⟩
  · simp only
    constructor
    · intro h; cases h
    · rintro ⟨j, h, h'⟩; have := h.2.2.2.2.1; omega
theorem m_opened_right {s : Scalps} (h : Right s) : ∃ mp, m_strip_opened s = some (.inr mp) ∧ MapOK s.strips mp := by
  obtain ⟨mp, h1, h2⟩ := m_opened_loop h.net.s6
  refine ⟨mp, ?_, h2⟩
  unfold m_strip_opened
  rw [m_Check_eq, Option.bind_some, of_right h, if_pos rfl, h1]; rfl
theorem m_opened_wrong {s : Scalps} (h : chk s ≠ 0) : m_strip_opened s = some (.inl (chk s)) := by
  unfold m_strip_opened
  rw [m_Check_eq, Option.bind_some, if_neg h, if_pos h]
def reachB (st : List Strip) (t k : Nat) : Bool := (List.range st.length).any fun j => decide (j ≤ k + 1 ∧ k ≤ j + 1 ∧ (st.getD j default).tenant = (t : Int))
theorem rOf_reach {st : List Strip} {mp : List (Pair × Bool)} (h : MapOK st mp) {t k : Nat} (hk : k < st.length) : rOf mp t k = reachB st t k := by
  unfold rOf reachB
  rw [Bool.eq_iff_iff, h, List.any_eq_true]
  constructor
  · rintro ⟨j, a, b, c, d, e, f, g⟩
    refine ⟨j.toNat, List.mem_range.2 (by omega), decide_eq_true ⟨by omega, by omega, g⟩⟩
  · rintro ⟨j, a, b⟩
    have a' := List.mem_range.1 a
    obtain ⟨b1, b2, b3⟩ := of_decide_eq_true b
    exact ⟨(j : Int), by omega, by omega, by omega, by omega, by omega, by omega, b3⟩
end Go.Proofs.Ws

namespace Go.Proofs.Ws
open Go Go.Fw Go.Gx Go.Sp
def CfIs (s : Scalps) (cf : Pair → Option Int) (c : Nat → Nat → Int) : Prop := ∀ t k : Nat, t < s.carried.length → k < s.strips.length → cf ⟨(t : Int), (k : Int)⟩ = some (c t k) ∧ -1 ≤ c t k ∧ c t k ≤ 1
theorem CfIs.ok {s : Scalps} {cf : Pair → Option Int} {c : Nat → Nat → Int} (h : CfIs s cf c) : CfOK s.strips s.carried cf := fun t k ht hk => ⟨c t k, h t k ht hk⟩
theorem CfIs.neg {s : Scalps} {cf cf' : Pair → Option Int} {c : Nat → Nat → Int} (h : CfIs s cf c) (h' : ∀ p, cf' p = (cf p).bind fun t => (negc t).bind fun x => some x) : CfIs s cf' fun t k => - c t k := fun t k ht hk => by
  obtain ⟨a, b, d⟩ := h t k ht hk
  refine ⟨?_, (by omega : -1 ≤ - c t k), (by omega : - c t k ≤ 1)⟩
  rw [h', a, Option.bind_some, negc_eq (by omega)]; rfl
end Go.Proofs.Ws

namespace Go.Proofs.Ws
open Go Go.Fw Go.Gx Go.Sp
def gtI (l : List Int) (j : Nat) : Int := l.getD j 0
theorem sumTo_bound {f : Nat → Int} {b : Int} : ∀ {n : Nat}, (∀ j, j < n → 0 ≤ f j ∧ f j ≤ b) → 0 ≤ sumTo f n ∧ sumTo f n ≤ b * (n : Int)
  | 0, _ => by simp [sumTo]
  | n + 1, h => by
    have ih := sumTo_bound (n := n) (fun j hj => h j (by omega))
    have := h n (by omega)
    simp only [sumTo]
    rw [show ((n + 1 : Nat) : Int) = (n : Int) + 1 by omega, Int.mul_add, Int.mul_one]
    omega
end Go.Proofs.Ws

namespace Go.Proofs.Ws
set_option maxHeartbeats 4000000
set_option maxRecDepth 100000
open Go Go.Fw Go.Gx Go.Sp
set_option linter.unusedVariables false
theorem gxinf98 : (Tryz.prog.info? 98).map (fun i => (i.zero, i.size, i.bytes)) = some (some (.agg #[.int .i64 0, .int .i64 0, .int .i64 0, .int .i64 0, .int .i64 0, .int .i64 0, .int .i64 0]), 7, 56) := by kernel_rfl
theorem gxsths32 : Tryz.prog.stoodInHeld 32 = false := by decide +kernel
theorem gxeqg85 : Tryz.prog.eqGuardType Tryz.prog.depth 85 = false := by decide +kernel
theorem gxsth85 : Tryz.prog.stoodInHeld 85 = false := by decide +kernel
theorem gxeq85 (x y : Strip) (w : World) : (Op.equalIn 10000 85 (.agg (RSt.cells x).toArray) (.agg (RSt.cells y).toArray)).run Tryz.prog w = .ok (decide (x = y)) w := by
  have h := equal_structG (xs := (RSt.cells x).toArray) (ys := (RSt.cells y).toArray) Tryz.underlying85 gxsth85 (.int rfl (fun w => Tryz.isAgg3 w) ⟨_, Tryz.underlying3⟩ rfl rfl (.sub (us := [_, _]) (vs := [_, _]) rfl (fun w => Tryz.isAgg32 w) (fun w => Tryz.sizeOf32 w) rfl rfl rfl rfl Tryz.underlying32 gxsths32 (.int rfl (fun w => Tryz.isAgg3 w) ⟨_, Tryz.underlying3⟩ rfl rfl (.int rfl (fun w => Tryz.isAgg3 w) ⟨_, Tryz.underlying3⟩ rfl rfl .nil)) (.sub (us := [_, _]) (vs := [_, _]) rfl (fun w => Tryz.isAgg32 w) (fun w => Tryz.sizeOf32 w) rfl rfl rfl rfl Tryz.underlying32 gxsths32 (.int rfl (fun w => Tryz.isAgg3 w) ⟨_, Tryz.underlying3⟩ rfl rfl (.int rfl (fun w => Tryz.isAgg3 w) ⟨_, Tryz.underlying3⟩ rfl rfl .nil)) (.sub (us := [_, _]) (vs := [_, _]) rfl (fun w => Tryz.isAgg32 w) (fun w => Tryz.sizeOf32 w) rfl rfl rfl rfl Tryz.underlying32 gxsths32 (.int rfl (fun w => Tryz.isAgg3 w) ⟨_, Tryz.underlying3⟩ rfl rfl (.int rfl (fun w => Tryz.isAgg3 w) ⟨_, Tryz.underlying3⟩ rfl rfl .nil)) .nil)))) w
  rw [h]
  congr 1
  obtain ⟨x0, ⟨x1_0, x1_1⟩, ⟨x2_0, x2_1⟩, ⟨x3_0, x3_1⟩⟩ := x
  obtain ⟨y0, ⟨y1_0, y1_1⟩, ⟨y2_0, y2_1⟩, ⟨y3_0, y3_1⟩⟩ := y
  rw [Bool.eq_iff_iff]
  simp only [Bool.and_eq_true, decide_eq_true_eq, Strip.mk.injEq, Span.mk.injEq, and_true]
def m_laurellaw09_great (s0 : Scalps) : Option Bool :=
 (if 12 < (s0.strips.length : Int) then
 (some true) else
 (some (decide (10 < (s0.carried.length : Int))))).bind fun o =>
 some o
theorem c_laurellaw09_great (s0 : Scalps) (qa0 : Option Addr) (na0 ca0 : Nat) (qa1 : Option Addr) (na1 ca1 : Nat) (w : World) (hw : HV w (keys [] []) [] [] [(aB qa0, aO qa0, RSt.enc s0.strips), (aB qa1, aO qa1, RSp.enc s0.carried)] w) (hna0 : s0.strips.length = na0) (hqa0 : AOK na0 qa0) (hla0 : na0 ≤ ca0) (hna1 : s0.carried.length = na1) (hqa1 : AOK na1 qa1) (hla1 : na1 ≤ ca1) {res : Bool} (hm : m_laurellaw09_great s0 = some res) :
    Calls Tryz.prog 30 #[.agg #[.slice qa0 na0 ca0, .slice qa1 na1 ca1]] w (fun en w' => ∃ l : Unit, en = .returned (.bool res) ∧ (True) ∧ HV w (keys [] []) [] [] [] w') := by
  unfold m_laurellaw09_great at hm
  refine g_en Tryz.func30 rfl Tryz.ntmps30 rfl (e := [(0, _)]) rfl hw (g_sr ?_)
  refine g_boxV rfl rfl (fun b h1 => ?_)
  refine g_as rfl rfl (g_nt (g_seq ?_))
  obtain ⟨o, h2, h3⟩ := bindO hm
  refine g_cut (ι := Unit) (fun l => True) (fun l => [(2, .bool o)]) (fun l => [(b, .cells #[.slice qa0 na0 ca0, .slice qa1 na1 ca1] 25 (0, 0))]) (fun l => []) ?_ ?_
  ·replace hm := h2
   refine g_region (g_fa 0 Tryz.runUnderlying25 rfl Tryz.sizeOf22 rfl rfl (g_lc 0 Tryz.isAgg22 rfl rfl rfl rfl (g_val rfl rfl rfl (fun w _ => v_lenR hna0 (Tryz.runUnderlying22 w) rfl) (g_val rfl rfl rfl (fun _ _ => v_gtr rfl rfl) (g_mv rfl rfl ?_)))))
   refine g_case 7 rfl (fun h4 => ?_) (fun h4 => ?_)
   ·replace hm := ifD h4 hm
    refine g_k rfl rfl rfl rfl (g_k rfl rfl rfl rfl (g_k rfl rfl rfl rfl (g_k rfl rfl rfl rfl (g_pt rfl rfl rfl (g_as rfl rfl (g_nil ?_))))))
    obtain rfl := sj hm
    exact g_leaf () (trivial) (sE rfl) (fun w hh => hh)
   ·replace hm := ifE h4 hm
    refine v_unguard rfl rfl (g_fa 1 Tryz.runUnderlying25 rfl Tryz.sizeOf23 rfl rfl (v_unguard rfl rfl (g_lc 0 Tryz.isAgg23 rfl rfl rfl rfl (v_unguard rfl rfl (g_val rfl rfl rfl (fun w _ => v_lenR hna1 (Tryz.runUnderlying23 w) rfl) (v_unguard rfl rfl (g_val rfl rfl rfl (fun _ _ => v_gtr rfl rfl) ?_)))))))
    refine g_pf rfl rfl rfl (g_as rfl rfl (g_nil ?_))
    obtain rfl := sj hm
    exact g_leaf () (trivial) (sE rfl) (fun w hh => hh)
  ·intro l hj
   replace hm := h3
   refine g_n_then (g_ret ?_)
   obtain rfl := sj hm
   refine g_done rfl (fun w hh => (.tmp rfl .nil)) (fun w hh => ⟨(), rfl, trivial, hh.se [] [] 2 rfl rfl rfl rfl⟩)
def m_laurelkit_Dup_stripStrip (l0 : (List Strip)) : Option (List Strip) :=
 (makec 56 (⟨0, (⟨0, 0⟩ : Span), (⟨0, 0⟩ : Span), (⟨0, 0⟩ : Span)⟩ : Strip) 0 (l0.length : Int)).bind fun t5 =>
 (appc 56 t5 l0).bind fun t7 =>
 some t7
theorem c_laurelkit_Dup_stripStrip (l0 : (List Strip)) (qa0 : Option Addr) (na0 ca0 : Nat) (w : World) (hw : HV w (keys [] []) [] [] [(aB qa0, aO qa0, RSt.enc l0)] w) (hna0 : l0.length = na0) (hqa0 : AOK na0 qa0) (hla0 : na0 ≤ ca0) {res : (List Strip)} (hm : m_laurelkit_Dup_stripStrip l0 = some res) :
    Calls Tryz.prog 48 #[.slice qa0 na0 ca0] w (fun en w' => ∃ l : VL, en = .returned (slv l.q l.n l.cap) ∧ (VOK 7 l.n l.cap (RSt.enc res) l.sp l.q) ∧ HV w (keys [] []) [] [⟨85, RSt.enc res, l.sp, l.q, []⟩] [] w') := by
  unfold m_laurelkit_Dup_stripStrip at hm
  refine g_en Tryz.func48 rfl Tryz.ntmps48 rfl (e := [(0, _)]) rfl hw (g_sr (g_val rfl rfl rfl (fun _ _ => v_nilS rfl) (g_nx (g_mv rfl rfl (g_val rfl rfl rfl (fun w _ => v_lenR hna0 (Tryz.runUnderlying22 w) rfl) ?_)))))
  obtain ⟨t5, h2, hm⟩ := bindO hm
  refine g_vmake RSt (⟨0, (⟨0, 0⟩ : Span), (⟨0, 0⟩ : Span), (⟨0, 0⟩ : Span)⟩ : Strip) h2 Tryz.underlying22 gxinf85 rfl rfl rfl rfl rfl (fun L h3 => ?_)
  refine g_mv rfl rfl ?_
  obtain ⟨t7, h4, hm⟩ := bindO hm
  refine g_vapp RSt 0 h4 Tryz.underlying22 gxinf85 rfl rfl rfl rfl rfl h3 rfl rfl hna0 hqa0 (fun w hh => (hh.seg 0 rfl)) rfl (fun L_1 h5 h5n => ?_)
  refine g_se (S' := []) (vs' := [_]) [] [0] 0 rfl rfl rfl rfl (g_as rfl rfl (g_nt (g_ret ?_)))
  obtain rfl := sj hm
  refine g_done rfl (fun w hh => (.tmp rfl .nil)) (fun w hh => ⟨L_1, rfl, h5, hh.se [] [0] 1 rfl rfl rfl rfl⟩)
def m_laurelkit_Dup_apiSpan (l0 : (List Span)) : Option (List Span) :=
 (makec 16 (⟨0, 0⟩ : Span) 0 (l0.length : Int)).bind fun t5 =>
 (appc 16 t5 l0).bind fun t7 =>
 some t7
theorem c_laurelkit_Dup_apiSpan (l0 : (List Span)) (qa0 : Option Addr) (na0 ca0 : Nat) (w : World) (hw : HV w (keys [] []) [] [] [(aB qa0, aO qa0, RSp.enc l0)] w) (hna0 : l0.length = na0) (hqa0 : AOK na0 qa0) (hla0 : na0 ≤ ca0) {res : (List Span)} (hm : m_laurelkit_Dup_apiSpan l0 = some res) :
    Calls Tryz.prog 49 #[.slice qa0 na0 ca0] w (fun en w' => ∃ l : VL, en = .returned (slv l.q l.n l.cap) ∧ (VOK 2 l.n l.cap (RSp.enc res) l.sp l.q) ∧ HV w (keys [] []) [] [⟨32, RSp.enc res, l.sp, l.q, []⟩] [] w') := by
  unfold m_laurelkit_Dup_apiSpan at hm
  refine g_en Tryz.func49 rfl Tryz.ntmps49 rfl (e := [(0, _)]) rfl hw (g_sr (g_val rfl rfl rfl (fun _ _ => v_nilS rfl) (g_nx (g_mv rfl rfl (g_val rfl rfl rfl (fun w _ => v_lenR hna0 (Tryz.runUnderlying23 w) rfl) ?_)))))
  obtain ⟨t5, h2, hm⟩ := bindO hm
  refine g_vmake RSp (⟨0, 0⟩ : Span) h2 Tryz.underlying23 gxinf32 rfl rfl rfl rfl rfl (fun L h3 => ?_)
  refine g_mv rfl rfl ?_
  obtain ⟨t7, h4, hm⟩ := bindO hm
  refine g_vapp RSp 0 h4 Tryz.underlying23 gxinf32 rfl rfl rfl rfl rfl h3 rfl rfl hna0 hqa0 (fun w hh => (hh.seg 0 rfl)) rfl (fun L_1 h5 h5n => ?_)
  refine g_se (S' := []) (vs' := [_]) [] [0] 0 rfl rfl rfl rfl (g_as rfl rfl (g_nt (g_ret ?_)))
  obtain rfl := sj hm
  refine g_done rfl (fun w hh => (.tmp rfl .nil)) (fun w hh => ⟨L_1, rfl, h5, hh.se [] [0] 1 rfl rfl rfl rfl⟩)
def m_laurellaw09_Own (s0 : Scalps) : Option Scalps :=
 (m_laurelkit_Dup_stripStrip s0.strips).bind fun t5 =>
 (m_laurelkit_Dup_apiSpan s0.carried).bind fun t8 =>
 some (⟨t5, t8⟩ : Scalps)
theorem c_laurellaw09_Own (s0 : Scalps) (qa0 : Option Addr) (na0 ca0 : Nat) (qa1 : Option Addr) (na1 ca1 : Nat) (w : World) (hw : HV w (keys [] []) [] [] [(aB qa0, aO qa0, RSt.enc s0.strips), (aB qa1, aO qa1, RSp.enc s0.carried)] w) (hna0 : s0.strips.length = na0) (hqa0 : AOK na0 qa0) (hla0 : na0 ≤ ca0) (hna1 : s0.carried.length = na1) (hqa1 : AOK na1 qa1) (hla1 : na1 ≤ ca1) {res : Scalps} (hm : m_laurellaw09_Own s0 = some res) :
    Calls Tryz.prog 9 #[.agg #[.slice qa0 na0 ca0, .slice qa1 na1 ca1]] w (fun en w' => ∃ l : VL × VL, en = .returned (.agg #[slv l.1.q l.1.n l.1.cap, slv l.2.q l.2.n l.2.cap]) ∧ (VOK 7 l.1.n l.1.cap (RSt.enc res.strips) l.1.sp l.1.q ∧ VOK 2 l.2.n l.2.cap (RSp.enc res.carried) l.2.sp l.2.q) ∧ HV w (keys [] []) [] [⟨85, RSt.enc res.strips, l.1.sp, l.1.q, []⟩, ⟨32, RSp.enc res.carried, l.2.sp, l.2.q, []⟩] [] w') := by
  unfold m_laurellaw09_Own at hm
  refine g_en Tryz.func9 rfl Tryz.ntmps9 rfl (e := [(0, _)]) rfl hw (g_sr ?_)
  refine g_boxV rfl rfl (fun b h3 => ?_)
  refine g_allocV (fun w => Tryz.zeroValue25 w) rfl (fun b_1 h4 => ?_)
  refine g_nt (g_seq ?_)
  refine g_draw none (.free 0 (.hoist 1 (.free 3 (.hoist 4 (.one 2 (.one 5 (.free 6 (.one 7 .done)))))))) (HV _ _ [(b, .cells #[.slice qa0 na0 ca0, .slice qa1 na1 ca1] 25 (0, 0))] [] _) rfl (by decide +kernel) (fun w k hh => hh.draw k) (hsE [1] [] 0 rfl rfl rfl rfl) ?_
  refine p_fa 0 Tryz.runUnderlying25 Tryz.sizeOf22 rfl rfl rfl rfl (p_lc 0 Tryz.isAgg22 rfl rfl rfl rfl rfl (p_fa 1 Tryz.runUnderlying25 Tryz.sizeOf23 rfl rfl rfl rfl (p_lc 0 Tryz.isAgg23 rfl rfl rfl rfl rfl (p_one rfl ?_))))
  obtain ⟨t5, h5, hm⟩ := bindO hm
  refine g_callH [] [] rfl rfl rfl rfl rfl rfl rfl Tryz.call48 (fun w hh => c_laurelkit_Dup_stripStrip s0.strips qa0 na0 ca0 w (HV.callee (S0 := []) (vs0 := []) hh (roR hh 0 rfl roN)) hna0 hqa0 hla0 h5) (fun l h6 => ?_)
  have h7 := h6
  refine g_se (S' := [_, _]) (vs' := [_]) [0, 1] [0] 0 rfl rfl rfl rfl (p_next (hsE [1] [] 0 rfl rfl rfl rfl) (p_one rfl ?_))
  obtain ⟨t8, h8, hm⟩ := bindO hm
  refine g_callH [] [] rfl rfl rfl rfl rfl rfl rfl Tryz.call49 (fun w hh => c_laurelkit_Dup_apiSpan s0.carried qa1 na1 ca1 w (HV.callee (S0 := []) (vs0 := []) hh (roR hh 1 rfl roN)) hna1 hqa1 hla1 h8) (fun l_1 h9 => ?_)
  have h10 := h9
  refine g_se (S' := [_, _]) (vs' := [_, _]) [0, 1] [0, 1] 0 rfl rfl rfl rfl (p_next (hsE [1] [] 0 rfl rfl rfl rfl) (p_free rfl rfl rfl rfl (fun _ _ => v_build (vs := [(0, _), (1, _)]) (cells := [_, _]) rfl rfl) (p_one rfl (g_stSA (us := #[_, _]) (cs' := [_, _]) (S' := [_, _]) 0 (fun w => Tryz.sizeOf25 w) rfl rfl rfl rfl rfl rfl rfl (p_next (hsE [1] [] 0 rfl rfl rfl rfl) (p_done (g_n_then ?_)))))))
  refine g_ret ?_
  obtain rfl := sj hm
  refine g_done rfl (fun w hh => (.cell rfl (loadVar_agg (vs := [_, _]) (Tryz.isAgg25 _) (Tryz.sizeOf25 _) (hh.cells 0 rfl rfl)) .nil)) (fun w hh => ⟨(l, l_1), rfl, ⟨h7, h10⟩, hh.se [] [1, 0] 2 rfl rfl rfl rfl⟩)
structure m_laurellaw09_theirs_S0 where
  t13 : Int
  out3_strips : (List Strip)
def m_laurellaw09_theirs_L0 (s0 : Scalps) (s : m_laurellaw09_theirs_S0) : Option (m_laurellaw09_theirs_S0 ⊕ (List Strip)) :=
 if s.t13 < (s0.strips.length : Int) then
 ((ix s0.strips s.t13).bind fun t15 =>
 (appc 56 s.out3_strips [(⟨t15.tenant, (⟨t15.lay.lo, t15.lay.hi⟩ : Span), (⟨t15.seeded.lo, t15.seeded.hi⟩ : Span), (⟨t15.left.lo, t15.left.hi⟩ : Span)⟩ : Strip)]).bind fun t21 =>
 (addc s.t13 1).bind fun t23 =>
 some (.inl (⟨t23, t21⟩ : m_laurellaw09_theirs_S0))) else
 (some (.inr s.out3_strips))
def m_laurellaw09_theirs (s0 : Scalps) : Option Scalps :=
 (m_laurelkit_Dup_apiSpan s0.carried).bind fun t8 =>
 (iterM FU (m_laurellaw09_theirs_L0 s0) (⟨0, []⟩ : m_laurellaw09_theirs_S0)).bind fun o =>
 some (⟨o, t8⟩ : Scalps)
theorem c_laurellaw09_theirs (s0 : Scalps) (qa0 : Option Addr) (na0 ca0 : Nat) (qa1 : Option Addr) (na1 ca1 : Nat) (w : World) (hw : HV w (keys [] []) [] [] [(aB qa0, aO qa0, RSt.enc s0.strips), (aB qa1, aO qa1, RSp.enc s0.carried)] w) (hna0 : s0.strips.length = na0) (hqa0 : AOK na0 qa0) (hla0 : na0 ≤ ca0) (hna1 : s0.carried.length = na1) (hqa1 : AOK na1 qa1) (hla1 : na1 ≤ ca1) {res : Scalps} (hm : m_laurellaw09_theirs s0 = some res) :
    Calls Tryz.prog 10 #[.agg #[.slice qa0 na0 ca0, .slice qa1 na1 ca1]] w (fun en w' => ∃ l : VL × VL, en = .returned (.agg #[slv l.1.q l.1.n l.1.cap, slv l.2.q l.2.n l.2.cap]) ∧ (VOK 7 l.1.n l.1.cap (RSt.enc res.strips) l.1.sp l.1.q ∧ VOK 2 l.2.n l.2.cap (RSp.enc res.carried) l.2.sp l.2.q) ∧ HV w (keys [] []) [] [⟨98, RSt.enc res.strips, l.1.sp, l.1.q, []⟩, ⟨32, RSp.enc res.carried, l.2.sp, l.2.q, []⟩] [] w') := by
  unfold m_laurellaw09_theirs at hm
  refine g_en Tryz.func10 rfl Tryz.ntmps10 rfl (e := [(0, _)]) rfl hw (g_sr ?_)
  refine g_boxV rfl rfl (fun b h3 => ?_)
  refine g_allocV (fun w => Tryz.zeroValue38 w) rfl (fun b_1 h4 => ?_)
  refine g_nx (g_fa 1 Tryz.runUnderlying25 rfl Tryz.sizeOf23 rfl rfl (g_lc 1 Tryz.isAgg23 rfl rfl rfl rfl ?_))
  obtain ⟨t8, h5, hm⟩ := bindO hm
  refine g_callH [] [] rfl rfl rfl rfl rfl rfl rfl Tryz.call49 (fun w hh => c_laurelkit_Dup_apiSpan s0.carried qa1 na1 ca1 w (HV.callee (S0 := []) (vs0 := []) hh (roR hh 1 rfl roN)) hna1 hqa1 hla1 h5) (fun l h6 => ?_)
  have h7 := h6
  refine g_se (S' := [_, _]) (vs' := [_]) [0, 1] [0] 0 rfl rfl rfl rfl (g_val rfl rfl rfl (fun _ _ => v_build (vs := [(1, _)]) (cells := [_, _]) rfl rfl) ?_)
  refine g_allocV (fun w => Tryz.zeroValue38 w) rfl (fun b_2 h8 => ?_)
  refine g_stSA (us := #[_, _]) (cs' := [_, _]) (S' := [_, _, _]) 0 (fun w => Tryz.sizeOf38 w) rfl rfl rfl rfl rfl rfl rfl (g_nt (g_seq (g_sr (g_fa 0 Tryz.runUnderlying25 rfl Tryz.sizeOf22 rfl rfl (g_lc 2 Tryz.isAgg22 rfl rfl rfl rfl (g_val rfl rfl rfl (fun w _ => v_lenR hna0 (Tryz.runUnderlying22 w) rfl) (g_mv rfl rfl ?_)))))))
  refine g_nt (g_vnil 98 ?_)
  obtain ⟨o, h9, h10⟩ := bindO hm
  refine g_cut (ι := VL) (fun l_1 => VOK 7 l_1.n l_1.cap (RSt.enc o) l_1.sp l_1.q) (fun l_1 => [(2, ptr b_1 0), (3, ptr b_2 0)]) (fun l_1 => [(b_2, .cells #[slv l_1.q l_1.n l_1.cap, slv l.q l.n l.cap] 38 (0, 0)), (b_1, .cells #[slv none 0 0, slv none 0 0] 38 (0, 0)), (b, .cells #[.slice qa0 na0 ca0, .slice qa1 na1 ca1] 25 (0, 0))]) (fun l_1 => [⟨98, RSt.enc o, l_1.sp, l_1.q, []⟩, ⟨32, RSp.enc t8, l.sp, l.q, []⟩]) ?_ ?_
  ·replace hm := h9
   refine g_block ?_
   refine g_loopF (ι := VL) hm (fun s l_2 => VOK 7 l_2.n l_2.cap (RSt.enc s.out3_strips) l_2.sp l_2.q) (fun s l_2 => [(2, ptr b_1 0), (3, ptr b_2 0), (11, .slice qa0 na0 ca0), (12, .int .i64 (s0.strips.length : Int)), (13, .int .i64 s.t13)]) (fun s l_2 => [(b_2, .cells #[slv l_2.q l_2.n l_2.cap, slv l.q l.n l.cap] 38 (0, 0)), (b_1, .cells #[slv none 0 0, slv none 0 0] 38 (0, 0)), (b, .cells #[.slice qa0 na0 ca0, .slice qa1 na1 ca1] 25 (0, 0))]) (fun s l_2 => [⟨98, RSt.enc s.out3_strips, l_2.sp, l_2.q, []⟩, ⟨32, RSp.enc t8, l.sp, l.q, []⟩]) ⟨none, 0, 0, []⟩ (VOK.nil) (sE rfl) (fun w hh => hh) (fun s l_2 r hpl hm h13 => ?_)
   have h12 := hpl
   unfold m_laurellaw09_theirs_L0 at hm
   refine g_sr (g_ls rfl rfl rfl (g_nt (g_seq ?_)))
   refine g_cond rfl (fun h14 => ?_) (fun h14 => ?_)
   ·replace hm := ifD h14 hm
    refine g_skip (g_n_then (g_seq (g_block (g_sr ?_))))
    obtain ⟨t15, h15, hm⟩ := bindO hm
    refine g_val rfl rfl rfl (fun w _ => v_ixR h15 (Tryz.runUnderlying22 w) (Tryz.sizeOf85 w) rfl rfl hna0 hqa0) ?_
    refine g_val rfl rfl rfl (fun w hh => v_ldEA RSt 0 [.int .i64 t15.tenant, .int .i64 t15.lay.lo, .int .i64 t15.lay.hi, .int .i64 t15.seeded.lo, .int .i64 t15.seeded.hi, .int .i64 t15.left.lo, .int .i64 t15.left.hi] h15 (Tryz.isAgg85 w) (Tryz.sizeOf85 w) rfl (hh.seg 0 rfl) rfl (Nat.add_zero _).symm) ?_
    refine g_allocV (fun w => Tryz.zeroValue85 w) rfl (fun b_3 h16 => ?_)
    refine g_stSA (us := #[_, _, _, _, _, _, _]) (cs' := [_, _, _, _, _, _, _]) (S' := [_, _, _, _]) 0 (fun w => Tryz.sizeOf85 w) rfl rfl rfl rfl rfl rfl rfl (g_nt (g_region (g_fa 0 Tryz.runUnderlying38 rfl Tryz.sizeOf36 rfl rfl (g_lc 1 Tryz.isAgg36 rfl rfl rfl rfl (g_la [_, _, _, _, _, _, _] 0 Tryz.isAgg85 Tryz.sizeOf85 rfl rfl rfl rfl ?_)))))
    refine g_vlit RSt [(⟨t15.tenant, (⟨t15.lay.lo, t15.lay.hi⟩ : Span), (⟨t15.seeded.lo, t15.seeded.hi⟩ : Span), (⟨t15.left.lo, t15.left.hi⟩ : Span)⟩ : Strip)] (ps := [(0, _)]) (cells := [_, _, _, _, _, _, _]) (fun w => Tryz.runUnderlying36 w) (fun w => Tryz.sizeOf98 w) (fun w => Tryz.zeroValue98 w) rfl rfl rfl rfl rfl rfl rfl rfl (fun L h17 => ?_)
    obtain ⟨t21, h18, hm⟩ := bindO hm
    refine g_vapp RSt 1 h18 Tryz.underlying36 gxinf98 rfl rfl rfl rfl rfl h12 rfl rfl (vlen RSt h17 rfl) (AOK.q (vne h17)) (fun w hh => (hh.vsegA 0 rfl h17)) rfl (fun L_1 h19 h19n => ?_)
    refine g_se (S' := [_, _, _, _]) (vs' := [_, _, _]) [0, 1, 2, 3] [0, 1, 2] 0 rfl rfl rfl rfl (g_fa 0 Tryz.runUnderlying38 rfl Tryz.sizeOf36 rfl rfl (g_stS (cs' := #[_, _]) (S' := [_, _, _, _]) 1 (fun w => Tryz.sizeOf36 w) rfl rfl rfl rfl rfl rfl rfl (g_nil (g_n_blk (g_n_then (g_region ?_))))))
    obtain ⟨t23, h20, hm⟩ := bindO hm
    refine g_ac h20 rfl rfl rfl (g_mv rfl rfl (g_nil ?_))
    obtain rfl := sj hm
    refine g_n_then ?_
    exact g_again' _ L_1 rfl (h19) (sE rfl) (hsE [1, 2, 3] [1, 2] 0 rfl rfl rfl rfl)
   ·replace hm := ifE h14 hm
    refine g_exit (g_x_then (g_x_then (g_x_blk ?_)))
    obtain rfl := sj hm
    have hbo := h13 _ rfl
    subst hbo
    exact g_leaf l_2 (h12) (sE rfl) (fun w hh => hh)
  ·intro l_1 hj
   have h11 := hj
   replace hm := h10
   refine g_n_then (g_sr (g_la [_, _] 0 Tryz.isAgg38 Tryz.sizeOf38 rfl rfl rfl rfl (g_stSA (us := #[_, _]) (cs' := [_, _]) (S' := [_, _, _]) 1 (fun w => Tryz.sizeOf38 w) rfl rfl rfl rfl rfl rfl rfl (g_nt (g_ret ?_)))))
   obtain rfl := sj hm
   refine g_done rfl (fun w hh => (.cell rfl (loadVar_agg (vs := [_, _]) (Tryz.isAgg38 _) (Tryz.sizeOf38 _) (hh.cells 1 rfl rfl)) .nil)) (fun w hh => ⟨(l_1, l), rfl, ⟨h11, h7⟩, hh.se [] [0, 1] 2 rfl rfl rfl rfl⟩)
def m_laurelref09_off (n0 : Int) (lo1 : Int) (hi2 : Int) : Option Bool :=
 (if n0 < lo1 then
 (some true) else
 (some (decide (hi2 < n0)))).bind fun o =>
 some o
theorem c_laurelref09_off (n0 : Int) (lo1 : Int) (hi2 : Int)  (w : World) (hw : HV w (keys [] []) [] [] [] w)  {res : Bool} (hm : m_laurelref09_off n0 lo1 hi2 = some res) :
    Calls Tryz.prog 50 #[.int .i64 n0, .int .i64 lo1, .int .i64 hi2] w (fun en w' => ∃ l : Unit, en = .returned (.bool res) ∧ (True) ∧ HV w (keys [] []) [] [] [] w') := by
  unfold m_laurelref09_off at hm
  refine g_en Tryz.func50 rfl Tryz.ntmps50 rfl (e := [(0, _), (1, _), (2, _)]) rfl hw (g_sr (g_as rfl rfl (g_nt (g_seq ?_))))
  obtain ⟨o, h1, h2⟩ := bindO hm
  refine g_cut (ι := Unit) (fun l => True) (fun l => [(6, .bool o)]) (fun l => []) (fun l => []) ?_ ?_
  ·replace hm := h1
   refine g_region (g_mv rfl rfl (g_mv rfl rfl (g_ls rfl rfl rfl (g_mv rfl rfl ?_))))
   refine g_case 10 rfl (fun h3 => ?_) (fun h3 => ?_)
   ·replace hm := ifD h3 hm
    refine g_k rfl rfl rfl rfl (g_k rfl rfl rfl rfl (g_k rfl rfl rfl rfl (g_pt rfl rfl rfl (g_as rfl rfl (g_nil ?_)))))
    obtain rfl := sj hm
    exact g_leaf () (trivial) (sE rfl) (fun w hh => hh)
   ·replace hm := ifE h3 hm
    refine v_unguard rfl rfl (g_mv rfl rfl (v_unguard rfl rfl (g_mv rfl rfl (v_unguard rfl rfl (g_val rfl rfl rfl (fun _ _ => v_gtr rfl rfl) (g_pf rfl rfl rfl (g_as rfl rfl ?_)))))))
    refine g_nil ?_
    obtain rfl := sj hm
    exact g_leaf () (trivial) (sE rfl) (fun w hh => hh)
  ·intro l hj
   replace hm := h2
   refine g_n_then (g_ret ?_)
   obtain rfl := sj hm
   refine g_done rfl (fun w hh => (.tmp rfl .nil)) (fun w hh => ⟨(), rfl, trivial, hh⟩)
def m_laurelref09_strange (x0 : Span) : Option Bool :=
 ((m_laurelref09_off x0.lo 0 30).bind fun t5 =>
 if t5 = true then
 (some true) else
 ((m_laurelref09_off x0.hi 0 30).bind fun t9 =>
 some t9)).bind fun o =>
 some o
theorem c_laurelref09_strange (x0 : Span)  (w : World) (hw : HV w (keys [] []) [] [] [] w)  {res : Bool} (hm : m_laurelref09_strange x0 = some res) :
    Calls Tryz.prog 51 #[.agg #[.int .i64 x0.lo, .int .i64 x0.hi]] w (fun en w' => ∃ l : Unit, en = .returned (.bool res) ∧ (True) ∧ HV w (keys [] []) [] [] [] w') := by
  unfold m_laurelref09_strange at hm
  refine g_en Tryz.func51 rfl Tryz.ntmps51 rfl (e := [(0, _)]) rfl hw (g_sr ?_)
  refine g_boxV rfl rfl (fun b h1 => ?_)
  refine g_as rfl rfl (g_nt (g_seq ?_))
  obtain ⟨o, h2, h3⟩ := bindO hm
  refine g_cut (ι := Unit) (fun l => True) (fun l => [(2, .bool o)]) (fun l => [(b, .cells #[.int .i64 x0.lo, .int .i64 x0.hi] 32 (0, 0))]) (fun l => []) ?_ ?_
  ·replace hm := h2
   refine g_region (g_fa 0 Tryz.runUnderlying32 rfl Tryz.sizeOf3 rfl rfl (g_lc 0 Tryz.isAgg3 rfl rfl rfl rfl ?_))
   obtain ⟨t5, h4, hm⟩ := bindO hm
   refine g_callH [] [] rfl rfl rfl rfl rfl rfl rfl Tryz.call50 (fun w hh => c_laurelref09_off x0.lo 0 30 w (HV.callee (S0 := []) (vs0 := []) hh roN)  h4) (fun l_1 h5 => ?_)
   refine g_mv rfl rfl ?_
   refine g_case 6 rfl (fun h6 => ?_) (fun h6 => ?_)
   ·replace hm := ifT (h6) hm
    refine g_k rfl rfl rfl rfl (g_k rfl rfl rfl rfl (g_k rfl rfl rfl rfl (g_pt rfl rfl rfl (g_as rfl rfl (g_nil ?_)))))
    obtain rfl := sj hm
    exact g_leaf () (trivial) (sE rfl) (fun w hh => hh)
   ·replace hm := ifN h6 hm
    refine v_unguard rfl rfl (g_fa 1 Tryz.runUnderlying32 rfl Tryz.sizeOf3 rfl rfl (v_unguard rfl rfl (g_lc 0 Tryz.isAgg3 rfl rfl rfl rfl (v_unguard rfl rfl ?_))))
    obtain ⟨t9, h7, hm⟩ := bindO hm
    refine g_callH [] [] rfl rfl rfl rfl rfl rfl rfl Tryz.call50 (fun w hh => c_laurelref09_off x0.hi 0 30 w (HV.callee (S0 := []) (vs0 := []) hh roN)  h7) (fun l_2 h8 => ?_)
    refine g_pf rfl rfl rfl (g_as rfl rfl (g_nil ?_))
    obtain rfl := sj hm
    exact g_leaf () (trivial) (sE rfl) (fun w hh => hh)
  ·intro l hj
   replace hm := h3
   refine g_n_then (g_ret ?_)
   obtain rfl := sj hm
   refine g_done rfl (fun w hh => (.tmp rfl .nil)) (fun w hh => ⟨(), rfl, trivial, hh.se [] [] 0 rfl rfl rfl rfl⟩)
def m_laurelref09_turned (x0 : Span) : Option Bool :=
 some (decide (x0.hi < x0.lo))
theorem c_laurelref09_turned (x0 : Span)  (w : World) (hw : HV w (keys [] []) [] [] [] w)  {res : Bool} (hm : m_laurelref09_turned x0 = some res) :
    Calls Tryz.prog 52 #[.agg #[.int .i64 x0.lo, .int .i64 x0.hi]] w (fun en w' => ∃ l : Unit, en = .returned (.bool res) ∧ (True) ∧ HV w (keys [] []) [] [] [] w') := by
  unfold m_laurelref09_turned at hm
  refine g_en Tryz.func52 rfl Tryz.ntmps52 rfl (e := [(0, _)]) rfl hw (g_sr ?_)
  refine g_boxV rfl rfl (fun b h1 => ?_)
  refine g_as rfl rfl (g_nx (g_fa 0 Tryz.runUnderlying32 rfl Tryz.sizeOf3 rfl rfl (g_lc 0 Tryz.isAgg3 rfl rfl rfl rfl (g_fa 1 Tryz.runUnderlying32 rfl Tryz.sizeOf3 rfl rfl (g_lc 0 Tryz.isAgg3 rfl rfl rfl rfl (g_val rfl rfl rfl (fun _ _ => v_gtr rfl rfl) (g_as rfl rfl ?_)))))))
  refine g_nt (g_ret ?_)
  obtain rfl := sj hm
  refine g_done rfl (fun w hh => (.tmp rfl .nil)) (fun w hh => ⟨(), rfl, trivial, hh.se [] [] 0 rfl rfl rfl rfl⟩)
structure m_laurelref09_Check_C1 where
  limit3 : Bool
  order4 : Bool
structure m_laurelref09_Check_S0 where
  limit3 : Bool
  order4 : Bool
  t7 : Int
structure m_laurelref09_Check_C2 where
  limit3 : Bool
  order4 : Bool
def m_laurelref09_Check_L0 (s0 : Scalps) (s : m_laurelref09_Check_S0) : Option (m_laurelref09_Check_S0 ⊕ m_laurelref09_Check_C1) :=
 if s.t7 < (s0.carried.length : Int) then
 (((if s.limit3 = true then
 (some true) else
 ((ix s0.carried s.t7).bind fun t32 =>
 (m_laurelref09_strange (⟨t32.lo, t32.hi⟩ : Span)).bind fun t34 =>
 some t34)).bind fun o_3 =>
 if s.order4 = true then
 (some (⟨o_3, true⟩ : m_laurelref09_Check_C2)) else
 ((ix s0.carried s.t7).bind fun t41 =>
 (m_laurelref09_turned t41).bind fun t43 =>
 some (⟨o_3, t43⟩ : m_laurelref09_Check_C2))).bind fun o_2 =>
 (addc s.t7 1).bind fun t26 =>
 some (.inl (⟨o_2.limit3, o_2.order4, t26⟩ : m_laurelref09_Check_S0))) else
 (some (.inr (⟨s.limit3, s.order4⟩ : m_laurelref09_Check_C1)))
structure m_laurelref09_Check_C4 where
  limit3 : Bool
  order4 : Bool
  missing5 : Bool
  wrong6 : Bool
structure m_laurelref09_Check_S1 where
  limit3 : Bool
  order4 : Bool
  missing5 : Bool
  wrong6 : Bool
  k8 : Int
structure m_laurelref09_Check_C5 where
  limit3 : Bool
  order4 : Bool
  missing5 : Bool
  wrong6 : Bool
def m_laurelref09_Check_L1 (s0 : Scalps) (s_1 : m_laurelref09_Check_S1) : Option (m_laurelref09_Check_S1 ⊕ m_laurelref09_Check_C4) :=
 if s_1.k8 < (s0.strips.length : Int) then
 (((ix s0.strips s_1.k8).bind fun t55 =>
 (if s_1.limit3 = true then
 (some true) else
 ((m_laurelref09_strange (⟨t55.lay.lo, t55.lay.hi⟩ : Span)).bind fun t61 =>
 if t61 = true then
 (some true) else
 ((m_laurelref09_strange (⟨t55.seeded.lo, t55.seeded.hi⟩ : Span)).bind fun t66 =>
 if t66 = true then
 (some true) else
 ((m_laurelref09_strange (⟨t55.left.lo, t55.left.hi⟩ : Span)).bind fun t71 =>
 some t71)))).bind fun o_6 =>
 (if s_1.order4 = true then
 (some true) else
 ((m_laurelref09_turned (⟨t55.lay.lo, t55.lay.hi⟩ : Span)).bind fun t77 =>
 if t77 = true then
 (some true) else
 ((m_laurelref09_turned (⟨t55.seeded.lo, t55.seeded.hi⟩ : Span)).bind fun t82 =>
 if t82 = true then
 (some true) else
 ((m_laurelref09_turned (⟨t55.left.lo, t55.left.hi⟩ : Span)).bind fun t87 =>
 some t87)))).bind fun o_7 =>
 (if s_1.missing5 = true then
 (some true) else
 ((subc (s0.carried.length : Int) 1).bind fun t96 =>
 (m_laurelref09_off t55.tenant 0 t96).bind fun t97 =>
 some t97)).bind fun o_8 =>
 if s_1.wrong6 = true then
 (some (⟨o_6, o_7, o_8, true⟩ : m_laurelref09_Check_C5)) else
 (if (!o_6) = true then
 ((addc t55.lay.hi t55.seeded.hi).bind fun t110 =>
 some (⟨o_6, o_7, o_8, (decide (t110 < t55.left.lo))⟩ : m_laurelref09_Check_C5)) else
 (some (⟨o_6, o_7, o_8, false⟩ : m_laurelref09_Check_C5)))).bind fun o_5 =>
 (addc s_1.k8 1).bind fun t51 =>
 some (.inl (⟨o_5.limit3, o_5.order4, o_5.missing5, o_5.wrong6, t51⟩ : m_laurelref09_Check_S1))) else
 (some (.inr (⟨s_1.limit3, s_1.order4, s_1.missing5, s_1.wrong6⟩ : m_laurelref09_Check_C4)))
def m_laurelref09_Check (s0 : Scalps) : Option Int :=
 ((m_laurelref09_off (s0.strips.length : Int) 1 6).bind fun t13 =>
 if t13 = true then
 (some true) else
 ((m_laurelref09_off (s0.carried.length : Int) 1 5).bind fun t18 =>
 some t18)).bind fun o =>
 if o = true then
 (some 2) else
 ((iterM FU (m_laurelref09_Check_L0 s0) (⟨false, false, 0⟩ : m_laurelref09_Check_S0)).bind fun o_1 =>
 (iterM FU (m_laurelref09_Check_L1 s0) (⟨o_1.limit3, o_1.order4, false, false, 0⟩ : m_laurelref09_Check_S1)).bind fun o_4 =>
 if o_4.limit3 = true then
 (some 3) else
 (if o_4.missing5 = true then
 (some 1) else
 (if o_4.order4 = true then
 (some 4) else
 (if o_4.wrong6 = true then
 (some 8) else
 (some 0)))))
theorem c_laurelref09_Check (s0 : Scalps) (qa0 : Option Addr) (na0 ca0 : Nat) (qa1 : Option Addr) (na1 ca1 : Nat) (w : World) (hw : HV w (keys [] []) [] [] [(aB qa0, aO qa0, RSt.enc s0.strips), (aB qa1, aO qa1, RSp.enc s0.carried)] w) (hna0 : s0.strips.length = na0) (hqa0 : AOK na0 qa0) (hla0 : na0 ≤ ca0) (hna1 : s0.carried.length = na1) (hqa1 : AOK na1 qa1) (hla1 : na1 ≤ ca1) {res : Int} (hm : m_laurelref09_Check s0 = some res) :
    Calls Tryz.prog 12 #[.agg #[.slice qa0 na0 ca0, .slice qa1 na1 ca1]] w (fun en w' => ∃ l : Unit, en = .returned (.int .i64 res) ∧ (True) ∧ HV w (keys [] []) [] [] [] w') := by
  unfold m_laurelref09_Check at hm
  refine g_en Tryz.func12 rfl Tryz.ntmps12 rfl (e := [(0, _)]) rfl hw (g_sr ?_)
  refine g_boxV rfl rfl (fun b h1 => ?_)
  refine g_as rfl rfl (g_nt (g_seq (g_seq ?_)))
  obtain ⟨o, h2, h3⟩ := bindO hm
  refine g_cut (ι := Unit) (fun l => True) (fun l => [(1, ptr b 0), (19, .bool o)]) (fun l => [(b, .cells #[.slice qa0 na0 ca0, .slice qa1 na1 ca1] 38 (0, 0))]) (fun l => []) ?_ ?_
  ·replace hm := h2
   refine g_region (g_fa 0 Tryz.runUnderlying38 rfl Tryz.sizeOf36 rfl rfl (g_lc 0 Tryz.isAgg36 rfl rfl rfl rfl (g_val rfl rfl rfl (fun w _ => v_lenR hna0 (Tryz.runUnderlying36 w) rfl) ?_)))
   obtain ⟨t13, h4, hm⟩ := bindO hm
   refine g_callH [] [] rfl rfl rfl rfl rfl rfl rfl Tryz.call50 (fun w hh => c_laurelref09_off (s0.strips.length : Int) 1 6 w (HV.callee (S0 := []) (vs0 := []) hh roN)  h4) (fun l_1 h5 => ?_)
   refine g_mv rfl rfl ?_
   refine g_case 14 rfl (fun h6 => ?_) (fun h6 => ?_)
   ·replace hm := ifT (h6) hm
    refine g_k rfl rfl rfl rfl (g_k rfl rfl rfl rfl (g_k rfl rfl rfl rfl (g_k rfl rfl rfl rfl (g_pt rfl rfl rfl (g_nil ?_)))))
    obtain rfl := sj hm
    exact g_leaf () (trivial) (sE rfl) (fun w hh => hh)
   ·replace hm := ifN h6 hm
    refine v_unguard rfl rfl (g_fa 1 Tryz.runUnderlying38 rfl Tryz.sizeOf23 rfl rfl (v_unguard rfl rfl (g_lc 0 Tryz.isAgg23 rfl rfl rfl rfl (v_unguard rfl rfl (g_val rfl rfl rfl (fun w _ => v_lenR hna1 (Tryz.runUnderlying23 w) rfl) (v_unguard rfl rfl ?_))))))
    obtain ⟨t18, h7, hm⟩ := bindO hm
    refine g_callH [] [] rfl rfl rfl rfl rfl rfl rfl Tryz.call50 (fun w hh => c_laurelref09_off (s0.carried.length : Int) 1 5 w (HV.callee (S0 := []) (vs0 := []) hh roN)  h7) (fun l_2 h8 => ?_)
    refine g_pf rfl rfl rfl (g_nil ?_)
    obtain rfl := sj hm
    exact g_leaf () (trivial) (sE rfl) (fun w hh => hh)
  ·intro l hj
   replace hm := h3
   refine g_n_then ?_
   refine g_cond rfl (fun h9 => ?_) (fun h9 => ?_)
   ·replace hm := ifT (h9) hm
    refine g_sr (g_as rfl rfl (g_nt (g_ret (g_r_then ?_))))
    obtain rfl := sj hm
    refine g_done rfl (fun w hh => (.tmp rfl .nil)) (fun w hh => ⟨(), rfl, trivial, hh.se [] [] 2 rfl rfl rfl rfl⟩)
   ·replace hm := ifN h9 hm
    refine g_skip (g_n_then (g_sr (g_as rfl rfl (g_as rfl rfl (g_as rfl rfl (g_as rfl rfl (g_nt ?_)))))))
    refine g_seq (g_sr (g_as rfl rfl (g_nt ?_)))
    obtain ⟨o_1, h10, h11⟩ := bindO hm
    refine g_cut (ι := Unit) (fun l_3 => True) (fun l_3 => [(1, ptr b 0), (3, .bool o_1.limit3), (4, .bool o_1.order4), (5, .bool false), (6, .bool false)]) (fun l_3 => [(b, .cells #[.slice qa0 na0 ca0, .slice qa1 na1 ca1] 38 (0, 0))]) (fun l_3 => []) ?_ ?_
    ·replace hm := h10
     refine g_block ?_
     refine g_loopF (ι := Unit) hm (fun s l_4 => True) (fun s l_4 => [(1, ptr b 0), (3, .bool s.limit3), (4, .bool s.order4), (5, .bool false), (6, .bool false), (7, .int .i64 s.t7)]) (fun s l_4 => [(b, .cells #[.slice qa0 na0 ca0, .slice qa1 na1 ca1] 38 (0, 0))]) (fun s l_4 => []) () (trivial) (sE rfl) (fun w hh => hh) (fun s l_4 r hpl hm h12 => ?_)
     unfold m_laurelref09_Check_L0 at hm
     refine g_seq (g_sr (g_mv rfl rfl (g_fa 1 Tryz.runUnderlying38 rfl Tryz.sizeOf23 rfl rfl (g_lc 0 Tryz.isAgg23 rfl rfl rfl rfl (g_val rfl rfl rfl (fun w _ => v_lenR hna1 (Tryz.runUnderlying23 w) rfl) (g_ls rfl rfl rfl (g_nt ?_)))))))
     refine g_cond rfl (fun h13 => ?_) (fun h13 => ?_)
     ·replace hm := ifD h13 hm
      refine g_skip (g_n_then (g_seq ?_))
      obtain ⟨o_2, h14, h15⟩ := bindO hm
      refine g_cut (ι := Unit) (fun l_5 => True) (fun l_5 => [(1, ptr b 0), (3, .bool o_2.limit3), (4, .bool o_2.order4), (5, .bool false), (6, .bool false), (7, .int .i64 s.t7)]) (fun l_5 => [(b, .cells #[.slice qa0 na0 ca0, .slice qa1 na1 ca1] 38 (0, 0))]) (fun l_5 => []) ?_ ?_
      ·replace hm := h14
       refine g_block (g_seq ?_)
       obtain ⟨o_3, h16, h17⟩ := bindO hm
       refine g_cut (ι := Unit) (fun l_6 => True) (fun l_6 => [(1, ptr b 0), (3, .bool o_3), (4, .bool s.order4), (5, .bool false), (6, .bool false), (7, .int .i64 s.t7)]) (fun l_6 => [(b, .cells #[.slice qa0 na0 ca0, .slice qa1 na1 ca1] 38 (0, 0))]) (fun l_6 => []) ?_ ?_
       ·replace hm := h16
        refine g_region (g_mv rfl rfl (g_mv rfl rfl ?_))
        refine g_case 28 rfl (fun h18 => ?_) (fun h18 => ?_)
        ·replace hm := ifT (h18) hm
         refine g_k rfl rfl rfl rfl (g_k rfl rfl rfl rfl (g_k rfl rfl rfl rfl (g_k rfl rfl rfl rfl (g_k rfl rfl rfl rfl (g_k rfl rfl rfl rfl (g_pt rfl rfl rfl (g_as rfl rfl ?_)))))))
         refine g_nil ?_
         obtain rfl := sj hm
         exact g_leaf () (trivial) (sE rfl) (fun w hh => hh)
        ·replace hm := ifN h18 hm
         refine v_unguard rfl rfl (g_fa 1 Tryz.runUnderlying38 rfl Tryz.sizeOf23 rfl rfl (v_unguard rfl rfl (g_lc 0 Tryz.isAgg23 rfl rfl rfl rfl (v_unguard rfl rfl (g_mv rfl rfl (v_unguard rfl rfl ?_))))))
         obtain ⟨t32, h19, hm⟩ := bindO hm
         refine g_val rfl rfl rfl (fun w _ => v_ixR h19 (Tryz.runUnderlying23 w) (Tryz.sizeOf32 w) rfl rfl hna1 hqa1) (v_unguard rfl rfl ?_)
         refine g_val rfl rfl rfl (fun w hh => v_ldEA RSp 0 [.int .i64 t32.lo, .int .i64 t32.hi] h19 (Tryz.isAgg32 w) (Tryz.sizeOf32 w) rfl (hh.seg 1 rfl) rfl (Nat.add_zero _).symm) ?_
         refine v_unguard rfl rfl ?_
         obtain ⟨t34, h20, hm⟩ := bindO hm
         refine g_callH [] [] rfl rfl rfl rfl rfl rfl rfl Tryz.call51 (fun w hh => c_laurelref09_strange (⟨t32.lo, t32.hi⟩ : Span) w (HV.callee (S0 := []) (vs0 := []) hh roN)  h20) (fun l_7 h21 => ?_)
         refine g_pf rfl rfl rfl (g_as rfl rfl (g_nil ?_))
         obtain rfl := sj hm
         exact g_leaf () (trivial) (sE rfl) (fun w hh => hh)
       ·intro l_6 hj
        replace hm := h17
        refine g_n_then (g_region (g_mv rfl rfl (g_mv rfl rfl ?_)))
        refine g_case 37 rfl (fun h22 => ?_) (fun h22 => ?_)
        ·replace hm := ifT (h22) hm
         refine g_k rfl rfl rfl rfl (g_k rfl rfl rfl rfl (g_k rfl rfl rfl rfl (g_k rfl rfl rfl rfl (g_k rfl rfl rfl rfl (g_k rfl rfl rfl rfl (g_pt rfl rfl rfl (g_as rfl rfl ?_)))))))
         refine g_nil (g_n_blk ?_)
         obtain rfl := sj hm
         exact g_leaf () (trivial) (sE rfl) (fun w hh => hh)
        ·replace hm := ifN h22 hm
         refine v_unguard rfl rfl (g_fa 1 Tryz.runUnderlying38 rfl Tryz.sizeOf23 rfl rfl (v_unguard rfl rfl (g_lc 0 Tryz.isAgg23 rfl rfl rfl rfl (v_unguard rfl rfl (g_mv rfl rfl (v_unguard rfl rfl ?_))))))
         obtain ⟨t41, h23, hm⟩ := bindO hm
         refine g_val rfl rfl rfl (fun w _ => v_ixR h23 (Tryz.runUnderlying23 w) (Tryz.sizeOf32 w) rfl rfl hna1 hqa1) (v_unguard rfl rfl ?_)
         refine g_val rfl rfl rfl (fun w hh => v_ldEA RSp 0 [.int .i64 t41.lo, .int .i64 t41.hi] h23 (Tryz.isAgg32 w) (Tryz.sizeOf32 w) rfl (hh.seg 1 rfl) rfl (Nat.add_zero _).symm) ?_
         refine v_unguard rfl rfl ?_
         obtain ⟨t43, h24, hm⟩ := bindO hm
         refine g_callH [] [] rfl rfl rfl rfl rfl rfl rfl Tryz.call52 (fun w hh => c_laurelref09_turned t41 w (HV.callee (S0 := []) (vs0 := []) hh roN)  h24) (fun l_8 h25 => ?_)
         refine g_pf rfl rfl rfl (g_as rfl rfl (g_nil (g_n_blk ?_)))
         obtain rfl := sj hm
         exact g_leaf () (trivial) (sE rfl) (fun w hh => hh)
      ·intro l_5 hj
       replace hm := h15
       refine g_n_then (g_region (g_mv rfl rfl ?_))
       obtain ⟨t26, h26, hm⟩ := bindO hm
       refine g_ac h26 rfl rfl rfl (g_as rfl rfl (g_nil ?_))
       obtain rfl := sj hm
       refine g_n_then ?_
       exact g_again' _ () rfl (trivial) (sE rfl) (fun w hh => hh)
     ·replace hm := ifE h13 hm
      refine g_exit (g_x_then (g_x_then (g_x_blk ?_)))
      obtain rfl := sj hm
      have hbo := h12 _ rfl
      subst hbo
      exact g_leaf () (trivial) (sE rfl) (fun w hh => hh)
    ·intro l_3 hj
     replace hm := h11
     refine g_n_then (g_seq (g_sr (g_as rfl rfl (g_nt ?_))))
     obtain ⟨o_4, h27, h28⟩ := bindO hm
     refine g_cut (ι := Unit) (fun l_9 => True) (fun l_9 => [(3, .bool o_4.limit3), (4, .bool o_4.order4), (5, .bool o_4.missing5), (6, .bool o_4.wrong6)]) (fun l_9 => [(b, .cells #[.slice qa0 na0 ca0, .slice qa1 na1 ca1] 38 (0, 0))]) (fun l_9 => []) ?_ ?_
     ·replace hm := h27
      refine g_block ?_
      refine g_loopF (ι := Unit) hm (fun s_1 l_10 => True) (fun s_1 l_10 => [(1, ptr b 0), (3, .bool s_1.limit3), (4, .bool s_1.order4), (5, .bool s_1.missing5), (6, .bool s_1.wrong6), (8, .int .i64 s_1.k8)]) (fun s_1 l_10 => [(b, .cells #[.slice qa0 na0 ca0, .slice qa1 na1 ca1] 38 (0, 0))]) (fun s_1 l_10 => []) () (trivial) (sE rfl) (fun w hh => hh) (fun s_1 l_10 r_1 hpl hm h29 => ?_)
      unfold m_laurelref09_Check_L1 at hm
      refine g_seq (g_sr (g_mv rfl rfl (g_fa 0 Tryz.runUnderlying38 rfl Tryz.sizeOf36 rfl rfl (g_lc 0 Tryz.isAgg36 rfl rfl rfl rfl (g_val rfl rfl rfl (fun w _ => v_lenR hna0 (Tryz.runUnderlying36 w) rfl) (g_ls rfl rfl rfl (g_nt ?_)))))))
      refine g_cond rfl (fun h30 => ?_) (fun h30 => ?_)
      ·replace hm := ifD h30 hm
       refine g_skip (g_n_then (g_seq ?_))
       obtain ⟨o_5, h31, h32⟩ := bindO hm
       refine g_cut (ι := Unit) (fun l_11 => True) (fun l_11 => [(1, ptr b 0), (3, .bool o_5.limit3), (4, .bool o_5.order4), (5, .bool o_5.missing5), (6, .bool o_5.wrong6), (8, .int .i64 s_1.k8)]) (fun l_11 => [(b, .cells #[.slice qa0 na0 ca0, .slice qa1 na1 ca1] 38 (0, 0))]) (fun l_11 => []) ?_ ?_
       ·replace hm := h31
        refine g_block (g_sr (g_fa 0 Tryz.runUnderlying38 rfl Tryz.sizeOf36 rfl rfl (g_lc 0 Tryz.isAgg36 rfl rfl rfl rfl (g_mv rfl rfl ?_))))
        obtain ⟨t55, h33, hm⟩ := bindO hm
        refine g_val rfl rfl rfl (fun w _ => v_ixR h33 (Tryz.runUnderlying36 w) (Tryz.sizeOf98 w) rfl rfl hna0 hqa0) ?_
        refine g_val rfl rfl rfl (fun w hh => v_ldEA RSt 0 [.int .i64 t55.tenant, .int .i64 t55.lay.lo, .int .i64 t55.lay.hi, .int .i64 t55.seeded.lo, .int .i64 t55.seeded.hi, .int .i64 t55.left.lo, .int .i64 t55.left.hi] h33 (Tryz.isAgg98 w) (Tryz.sizeOf98 w) rfl (hh.seg 0 rfl) rfl (Nat.add_zero _).symm) ?_
        refine g_allocV (fun w => Tryz.zeroValue98 w) rfl (fun b_1 h34 => ?_)
        refine g_stSA (us := #[_, _, _, _, _, _, _]) (cs' := [_, _, _, _, _, _, _]) (S' := [_, _]) 0 (fun w => Tryz.sizeOf98 w) rfl rfl rfl rfl rfl rfl rfl (g_nt (g_seq ?_))
        obtain ⟨o_6, h35, h36⟩ := bindO hm
        refine g_cut (ι := Unit) (fun l_12 => True) (fun l_12 => [(1, ptr b 0), (3, .bool o_6), (4, .bool s_1.order4), (5, .bool s_1.missing5), (6, .bool s_1.wrong6), (8, .int .i64 s_1.k8), (9, ptr b_1 0)]) (fun l_12 => [(b_1, .cells #[.int .i64 t55.tenant, .int .i64 t55.lay.lo, .int .i64 t55.lay.hi, .int .i64 t55.seeded.lo, .int .i64 t55.seeded.hi, .int .i64 t55.left.lo, .int .i64 t55.left.hi] 98 (0, 0)), (b, .cells #[.slice qa0 na0 ca0, .slice qa1 na1 ca1] 38 (0, 0))]) (fun l_12 => []) ?_ ?_
        ·replace hm := h35
         refine g_region (g_mv rfl rfl (g_mv rfl rfl ?_))
         refine g_case 58 rfl (fun h37 => ?_) (fun h37 => ?_)
         ·replace hm := ifT (h37) hm
          refine g_k rfl rfl rfl rfl (g_k rfl rfl rfl rfl (g_k rfl rfl rfl rfl (g_pt rfl rfl rfl (g_mv rfl rfl (g_k rfl rfl rfl rfl (g_k rfl rfl rfl rfl (g_k rfl rfl rfl rfl ?_)))))))
          refine g_pt rfl rfl rfl (g_mv rfl rfl (g_k rfl rfl rfl rfl (g_k rfl rfl rfl rfl (g_k rfl rfl rfl rfl (g_pt rfl rfl rfl (g_as rfl rfl (g_nil ?_)))))))
          obtain rfl := sj hm
          exact g_leaf () (trivial) (sE rfl) (fun w hh => hh)
         ·replace hm := ifN h37 hm
          refine v_unguard rfl rfl (g_fa 1 Tryz.runUnderlying98 rfl Tryz.sizeOf32 rfl rfl (v_unguard rfl rfl (g_la [_, _] 0 Tryz.isAgg32 Tryz.sizeOf32 rfl rfl rfl rfl (v_unguard rfl rfl ?_))))
          obtain ⟨t61, h38, hm⟩ := bindO hm
          refine g_callH [] [] rfl rfl rfl rfl rfl rfl rfl Tryz.call51 (fun w hh => c_laurelref09_strange (⟨t55.lay.lo, t55.lay.hi⟩ : Span) w (HV.callee (S0 := []) (vs0 := []) hh roN)  h38) (fun l_13 h39 => ?_)
          refine g_pf rfl rfl rfl (g_mv rfl rfl ?_)
          refine g_case 63 rfl (fun h40 => ?_) (fun h40 => ?_)
          ·replace hm := ifT (h40) hm
           refine g_k rfl rfl rfl rfl (g_k rfl rfl rfl rfl (g_k rfl rfl rfl rfl (g_pt rfl rfl rfl (g_mv rfl rfl (g_k rfl rfl rfl rfl (g_k rfl rfl rfl rfl (g_k rfl rfl rfl rfl ?_)))))))
           refine g_pt rfl rfl rfl (g_as rfl rfl (g_nil ?_))
           obtain rfl := sj hm
           exact g_leaf () (trivial) (sE rfl) (fun w hh => hh)
          ·replace hm := ifN h40 hm
           refine v_unguard rfl rfl (g_fa 3 Tryz.runUnderlying98 rfl Tryz.sizeOf32 rfl rfl (v_unguard rfl rfl (g_la [_, _] 0 Tryz.isAgg32 Tryz.sizeOf32 rfl rfl rfl rfl (v_unguard rfl rfl ?_))))
           obtain ⟨t66, h41, hm⟩ := bindO hm
           refine g_callH [] [] rfl rfl rfl rfl rfl rfl rfl Tryz.call51 (fun w hh => c_laurelref09_strange (⟨t55.seeded.lo, t55.seeded.hi⟩ : Span) w (HV.callee (S0 := []) (vs0 := []) hh roN)  h41) (fun l_14 h42 => ?_)
           refine g_pf rfl rfl rfl (g_mv rfl rfl ?_)
           refine g_case 68 rfl (fun h43 => ?_) (fun h43 => ?_)
           ·replace hm := ifT (h43) hm
            refine g_k rfl rfl rfl rfl (g_k rfl rfl rfl rfl (g_k rfl rfl rfl rfl (g_pt rfl rfl rfl (g_as rfl rfl (g_nil ?_)))))
            obtain rfl := sj hm
            exact g_leaf () (trivial) (sE rfl) (fun w hh => hh)
           ·replace hm := ifN h43 hm
            refine v_unguard rfl rfl (g_fa 5 Tryz.runUnderlying98 rfl Tryz.sizeOf32 rfl rfl (v_unguard rfl rfl (g_la [_, _] 0 Tryz.isAgg32 Tryz.sizeOf32 rfl rfl rfl rfl (v_unguard rfl rfl ?_))))
            obtain ⟨t71, h44, hm⟩ := bindO hm
            refine g_callH [] [] rfl rfl rfl rfl rfl rfl rfl Tryz.call51 (fun w hh => c_laurelref09_strange (⟨t55.left.lo, t55.left.hi⟩ : Span) w (HV.callee (S0 := []) (vs0 := []) hh roN)  h44) (fun l_15 h45 => ?_)
            refine g_pf rfl rfl rfl (g_as rfl rfl (g_nil ?_))
            obtain rfl := sj hm
            exact g_leaf () (trivial) (sE rfl) (fun w hh => hh)
        ·intro l_12 hj
         replace hm := h36
         refine g_n_then (g_seq ?_)
         obtain ⟨o_7, h46, h47⟩ := bindO hm
         refine g_cut (ι := Unit) (fun l_16 => True) (fun l_16 => [(1, ptr b 0), (3, .bool o_6), (4, .bool o_7), (5, .bool s_1.missing5), (6, .bool s_1.wrong6), (8, .int .i64 s_1.k8), (9, ptr b_1 0)]) (fun l_16 => [(b_1, .cells #[.int .i64 t55.tenant, .int .i64 t55.lay.lo, .int .i64 t55.lay.hi, .int .i64 t55.seeded.lo, .int .i64 t55.seeded.hi, .int .i64 t55.left.lo, .int .i64 t55.left.hi] 98 (0, 0)), (b, .cells #[.slice qa0 na0 ca0, .slice qa1 na1 ca1] 38 (0, 0))]) (fun l_16 => []) ?_ ?_
         ·replace hm := h46
          refine g_region (g_mv rfl rfl (g_mv rfl rfl ?_))
          refine g_case 74 rfl (fun h48 => ?_) (fun h48 => ?_)
          ·replace hm := ifT (h48) hm
           refine g_k rfl rfl rfl rfl (g_k rfl rfl rfl rfl (g_k rfl rfl rfl rfl (g_pt rfl rfl rfl (g_mv rfl rfl (g_k rfl rfl rfl rfl (g_k rfl rfl rfl rfl (g_k rfl rfl rfl rfl ?_)))))))
           refine g_pt rfl rfl rfl (g_mv rfl rfl (g_k rfl rfl rfl rfl (g_k rfl rfl rfl rfl (g_k rfl rfl rfl rfl (g_pt rfl rfl rfl (g_as rfl rfl (g_nil ?_)))))))
           obtain rfl := sj hm
           exact g_leaf () (trivial) (sE rfl) (fun w hh => hh)
          ·replace hm := ifN h48 hm
           refine v_unguard rfl rfl (g_fa 1 Tryz.runUnderlying98 rfl Tryz.sizeOf32 rfl rfl (v_unguard rfl rfl (g_la [_, _] 0 Tryz.isAgg32 Tryz.sizeOf32 rfl rfl rfl rfl (v_unguard rfl rfl ?_))))
           obtain ⟨t77, h49, hm⟩ := bindO hm
           refine g_callH [] [] rfl rfl rfl rfl rfl rfl rfl Tryz.call52 (fun w hh => c_laurelref09_turned (⟨t55.lay.lo, t55.lay.hi⟩ : Span) w (HV.callee (S0 := []) (vs0 := []) hh roN)  h49) (fun l_17 h50 => ?_)
           refine g_pf rfl rfl rfl (g_mv rfl rfl ?_)
           refine g_case 79 rfl (fun h51 => ?_) (fun h51 => ?_)
           ·replace hm := ifT (h51) hm
            refine g_k rfl rfl rfl rfl (g_k rfl rfl rfl rfl (g_k rfl rfl rfl rfl (g_pt rfl rfl rfl (g_mv rfl rfl (g_k rfl rfl rfl rfl (g_k rfl rfl rfl rfl (g_k rfl rfl rfl rfl ?_)))))))
            refine g_pt rfl rfl rfl (g_as rfl rfl (g_nil ?_))
            obtain rfl := sj hm
            exact g_leaf () (trivial) (sE rfl) (fun w hh => hh)
           ·replace hm := ifN h51 hm
            refine v_unguard rfl rfl (g_fa 3 Tryz.runUnderlying98 rfl Tryz.sizeOf32 rfl rfl (v_unguard rfl rfl (g_la [_, _] 0 Tryz.isAgg32 Tryz.sizeOf32 rfl rfl rfl rfl (v_unguard rfl rfl ?_))))
            obtain ⟨t82, h52, hm⟩ := bindO hm
            refine g_callH [] [] rfl rfl rfl rfl rfl rfl rfl Tryz.call52 (fun w hh => c_laurelref09_turned (⟨t55.seeded.lo, t55.seeded.hi⟩ : Span) w (HV.callee (S0 := []) (vs0 := []) hh roN)  h52) (fun l_18 h53 => ?_)
            refine g_pf rfl rfl rfl (g_mv rfl rfl ?_)
            refine g_case 84 rfl (fun h54 => ?_) (fun h54 => ?_)
            ·replace hm := ifT (h54) hm
             refine g_k rfl rfl rfl rfl (g_k rfl rfl rfl rfl (g_k rfl rfl rfl rfl (g_pt rfl rfl rfl (g_as rfl rfl (g_nil ?_)))))
             obtain rfl := sj hm
             exact g_leaf () (trivial) (sE rfl) (fun w hh => hh)
            ·replace hm := ifN h54 hm
             refine v_unguard rfl rfl (g_fa 5 Tryz.runUnderlying98 rfl Tryz.sizeOf32 rfl rfl (v_unguard rfl rfl (g_la [_, _] 0 Tryz.isAgg32 Tryz.sizeOf32 rfl rfl rfl rfl (v_unguard rfl rfl ?_))))
             obtain ⟨t87, h55, hm⟩ := bindO hm
             refine g_callH [] [] rfl rfl rfl rfl rfl rfl rfl Tryz.call52 (fun w hh => c_laurelref09_turned (⟨t55.left.lo, t55.left.hi⟩ : Span) w (HV.callee (S0 := []) (vs0 := []) hh roN)  h55) (fun l_19 h56 => ?_)
             refine g_pf rfl rfl rfl (g_as rfl rfl (g_nil ?_))
             obtain rfl := sj hm
             exact g_leaf () (trivial) (sE rfl) (fun w hh => hh)
         ·intro l_16 hj
          replace hm := h47
          refine g_n_then (g_seq ?_)
          obtain ⟨o_8, h57, h58⟩ := bindO hm
          refine g_cut (ι := Unit) (fun l_20 => True) (fun l_20 => [(1, ptr b 0), (3, .bool o_6), (4, .bool o_7), (5, .bool o_8), (6, .bool s_1.wrong6), (8, .int .i64 s_1.k8), (9, ptr b_1 0)]) (fun l_20 => [(b_1, .cells #[.int .i64 t55.tenant, .int .i64 t55.lay.lo, .int .i64 t55.lay.hi, .int .i64 t55.seeded.lo, .int .i64 t55.seeded.hi, .int .i64 t55.left.lo, .int .i64 t55.left.hi] 98 (0, 0)), (b, .cells #[.slice qa0 na0 ca0, .slice qa1 na1 ca1] 38 (0, 0))]) (fun l_20 => []) ?_ ?_
          ·replace hm := h57
           refine g_region (g_mv rfl rfl (g_mv rfl rfl ?_))
           refine g_case 90 rfl (fun h59 => ?_) (fun h59 => ?_)
           ·replace hm := ifT (h59) hm
            refine g_k rfl rfl rfl rfl (g_k rfl rfl rfl rfl (g_k rfl rfl rfl rfl (g_k rfl rfl rfl rfl (g_k rfl rfl rfl rfl (g_k rfl rfl rfl rfl (g_k rfl rfl rfl rfl (g_pt rfl rfl rfl ?_)))))))
            refine g_as rfl rfl (g_nil ?_)
            obtain rfl := sj hm
            exact g_leaf () (trivial) (sE rfl) (fun w hh => hh)
           ·replace hm := ifN h59 hm
            refine v_unguard rfl rfl (g_fa 0 Tryz.runUnderlying98 rfl Tryz.sizeOf3 rfl rfl (v_unguard rfl rfl (g_lc 0 Tryz.isAgg3 rfl rfl rfl rfl (v_unguard rfl rfl (g_fa 1 Tryz.runUnderlying38 rfl Tryz.sizeOf23 rfl rfl (v_unguard rfl rfl (g_lc 1 Tryz.isAgg23 rfl rfl rfl rfl ?_)))))))
            refine v_unguard rfl rfl (g_val rfl rfl rfl (fun w _ => v_lenR hna1 (Tryz.runUnderlying23 w) rfl) (v_unguard rfl rfl ?_))
            obtain ⟨t96, h60, hm⟩ := bindO hm
            refine g_val rfl rfl rfl (fun _ _ => v_subc h60 rfl rfl) (v_unguard rfl rfl ?_)
            obtain ⟨t97, h61, hm⟩ := bindO hm
            refine g_callH [] [] rfl rfl rfl rfl rfl rfl rfl Tryz.call50 (fun w hh => c_laurelref09_off t55.tenant 0 t96 w (HV.callee (S0 := []) (vs0 := []) hh roN)  h61) (fun l_21 h62 => ?_)
            refine g_pf rfl rfl rfl (g_as rfl rfl (g_nil ?_))
            obtain rfl := sj hm
            exact g_leaf () (trivial) (sE rfl) (fun w hh => hh)
          ·intro l_20 hj
           replace hm := h58
           refine g_n_then (g_region (g_mv rfl rfl (g_mv rfl rfl ?_)))
           refine g_case 100 rfl (fun h63 => ?_) (fun h63 => ?_)
           ·replace hm := ifT (h63) hm
            refine g_k rfl rfl rfl rfl (g_k rfl rfl rfl rfl (g_k rfl rfl rfl rfl ?_))
            refine g_skipU' rfl rfl rfl rfl rfl ?_
            refine g_skipU' rfl rfl rfl rfl rfl ?_
            refine g_skipU' rfl rfl rfl rfl rfl ?_
            refine g_skipU' rfl rfl rfl rfl rfl ?_
            refine g_skipU' rfl rfl rfl rfl rfl ?_
            refine g_skipU' rfl rfl rfl rfl rfl ?_
            refine g_skipU' rfl rfl rfl rfl rfl ?_
            refine g_skipU' rfl rfl rfl rfl rfl ?_
            refine g_skipU' rfl rfl rfl rfl rfl ?_
            refine g_skipU' rfl rfl rfl rfl rfl ?_
            refine g_skipU' rfl rfl rfl rfl rfl ?_
            refine g_k rfl rfl rfl rfl (g_pt rfl rfl rfl (g_as rfl rfl (g_nil (g_n_blk ?_))))
            obtain rfl := sj hm
            exact g_leaf () (trivial) (sE rfl) (hsE [1] [] 0 rfl rfl rfl rfl)
           ·replace hm := ifN h63 hm
            refine v_unguard rfl rfl (g_mv rfl rfl (v_unguard rfl rfl (g_val rfl rfl rfl (fun _ _ => v_not rfl) (v_unguard rfl rfl (g_mv rfl rfl ?_)))))
            refine g_case 103 rfl (fun h64 => ?_) (fun h64 => ?_)
            ·replace hm := ifT (h64) hm
             refine v_unguard rfl rfl (g_fa 1 Tryz.runUnderlying98 rfl Tryz.sizeOf32 rfl rfl (v_unguard rfl rfl (g_fa 1 Tryz.runUnderlying32 rfl Tryz.sizeOf3 rfl rfl (v_unguard rfl rfl (g_lc 0 Tryz.isAgg3 rfl rfl rfl rfl (v_unguard rfl rfl (g_fa 3 Tryz.runUnderlying98 rfl Tryz.sizeOf32 rfl rfl ?_)))))))
             refine v_unguard rfl rfl (g_fa 1 Tryz.runUnderlying32 rfl Tryz.sizeOf3 rfl rfl (v_unguard rfl rfl (g_lc 0 Tryz.isAgg3 rfl rfl rfl rfl (v_unguard rfl rfl ?_))))
             obtain ⟨t110, h65, hm⟩ := bindO hm
             refine g_ac h65 rfl rfl rfl (v_unguard rfl rfl (g_fa 5 Tryz.runUnderlying98 rfl Tryz.sizeOf32 rfl rfl (v_unguard rfl rfl (g_fa 0 Tryz.runUnderlying32 rfl Tryz.sizeOf3 rfl rfl (v_unguard rfl rfl (g_lc 0 Tryz.isAgg3 rfl rfl rfl rfl (v_unguard rfl rfl ?_)))))))
             refine g_ls rfl rfl rfl (v_unguard rfl rfl (g_pt rfl rfl rfl (g_pf rfl rfl rfl (g_as rfl rfl (g_nil (g_n_blk ?_))))))
             obtain rfl := sj hm
             exact g_leaf () (trivial) (sE rfl) (hsE [1] [] 0 rfl rfl rfl rfl)
            ·replace hm := ifN h64 hm
             refine g_k rfl rfl rfl rfl (g_k rfl rfl rfl rfl (g_k rfl rfl rfl rfl (g_k rfl rfl rfl rfl (g_k rfl rfl rfl rfl (g_k rfl rfl rfl rfl (g_k rfl rfl rfl rfl (g_k rfl rfl rfl rfl ?_)))))))
             refine g_k rfl rfl rfl rfl (g_k rfl rfl rfl rfl (g_k rfl rfl rfl rfl (v_unguard rfl rfl (g_pf rfl rfl rfl (g_pf rfl rfl rfl (g_as rfl rfl (g_nil ?_)))))))
             refine g_n_blk ?_
             obtain rfl := sj hm
             exact g_leaf () (trivial) (sE rfl) (hsE [1] [] 0 rfl rfl rfl rfl)
       ·intro l_11 hj
        replace hm := h32
        refine g_n_then (g_region (g_mv rfl rfl ?_))
        obtain ⟨t51, h66, hm⟩ := bindO hm
        refine g_ac h66 rfl rfl rfl (g_as rfl rfl (g_nil ?_))
        obtain rfl := sj hm
        refine g_n_then ?_
        exact g_again' _ () rfl (trivial) (sE rfl) (fun w hh => hh)
      ·replace hm := ifE h30 hm
       refine g_exit (g_x_then (g_x_then (g_x_blk ?_)))
       obtain rfl := sj hm
       have hbo := h29 _ rfl
       subst hbo
       exact g_leaf () (trivial) (sE rfl) (fun w hh => hh)
     ·intro l_9 hj
      replace hm := h28
      refine g_n_then (g_seq (g_sr (g_mv rfl rfl (g_nt ?_))))
      refine g_cond rfl (fun h67 => ?_) (fun h67 => ?_)
      ·replace hm := ifT (h67) hm
       refine g_sr (g_as rfl rfl (g_nt (g_ret (g_r_then ?_))))
       obtain rfl := sj hm
       refine g_done rfl (fun w hh => (.tmp rfl .nil)) (fun w hh => ⟨(), rfl, trivial, hh.se [] [] 2 rfl rfl rfl rfl⟩)
      ·replace hm := ifN h67 hm
       refine g_skip (g_n_then (g_seq (g_sr (g_mv rfl rfl (g_nt ?_)))))
       refine g_cond rfl (fun h68 => ?_) (fun h68 => ?_)
       ·replace hm := ifT (h68) hm
        refine g_sr (g_as rfl rfl (g_nt (g_ret (g_r_then ?_))))
        obtain rfl := sj hm
        refine g_done rfl (fun w hh => (.tmp rfl .nil)) (fun w hh => ⟨(), rfl, trivial, hh.se [] [] 2 rfl rfl rfl rfl⟩)
       ·replace hm := ifN h68 hm
        refine g_skip (g_n_then (g_seq (g_sr (g_mv rfl rfl (g_nt ?_)))))
        refine g_cond rfl (fun h69 => ?_) (fun h69 => ?_)
        ·replace hm := ifT (h69) hm
         refine g_sr (g_as rfl rfl (g_nt (g_ret (g_r_then ?_))))
         obtain rfl := sj hm
         refine g_done rfl (fun w hh => (.tmp rfl .nil)) (fun w hh => ⟨(), rfl, trivial, hh.se [] [] 2 rfl rfl rfl rfl⟩)
        ·replace hm := ifN h69 hm
         refine g_skip (g_n_then (g_seq (g_sr (g_mv rfl rfl (g_nt ?_)))))
         refine g_cond rfl (fun h70 => ?_) (fun h70 => ?_)
         ·replace hm := ifT (h70) hm
          refine g_sr (g_as rfl rfl (g_nt (g_ret (g_r_then ?_))))
          obtain rfl := sj hm
          refine g_done rfl (fun w hh => (.tmp rfl .nil)) (fun w hh => ⟨(), rfl, trivial, hh.se [] [] 2 rfl rfl rfl rfl⟩)
         ·replace hm := ifN h70 hm
          refine g_skip (g_n_then (g_sr (g_as rfl rfl (g_nt (g_ret ?_)))))
          obtain rfl := sj hm
          refine g_done rfl (fun w hh => (.tmp rfl .nil)) (fun w hh => ⟨(), rfl, trivial, hh.se [] [] 2 rfl rfl rfl rfl⟩)
def m_laurelref09_Gone (s0 : Scalps) (strip1 : Int) : Option Span :=
 (ix s0.strips strip1).bind fun t9 =>
 (addc t9.lay.lo t9.seeded.lo).bind fun t17 =>
 (subc t17 t9.left.hi).bind fun t21 =>
 (addc t9.lay.hi t9.seeded.hi).bind fun t29 =>
 (subc t29 t9.left.lo).bind fun t33 =>
 some (⟨(max 0 t21), t33⟩ : Span)
theorem c_laurelref09_Gone (s0 : Scalps) (strip1 : Int) (qa0 : Option Addr) (na0 ca0 : Nat) (qa1 : Option Addr) (na1 ca1 : Nat) (w : World) (hw : HV w (keys [] []) [] [] [(aB qa0, aO qa0, RSt.enc s0.strips), (aB qa1, aO qa1, RSp.enc s0.carried)] w) (hna0 : s0.strips.length = na0) (hqa0 : AOK na0 qa0) (hla0 : na0 ≤ ca0) (hna1 : s0.carried.length = na1) (hqa1 : AOK na1 qa1) (hla1 : na1 ≤ ca1) {res : Span} (hm : m_laurelref09_Gone s0 strip1 = some res) :
    Calls Tryz.prog 35 #[.agg #[.slice qa0 na0 ca0, .slice qa1 na1 ca1], .int .i64 strip1] w (fun en w' => ∃ l : Unit, en = .returned (.agg #[.int .i64 res.lo, .int .i64 res.hi]) ∧ (True) ∧ HV w (keys [] []) [] [] [] w') := by
  unfold m_laurelref09_Gone at hm
  refine g_en Tryz.func35 rfl Tryz.ntmps35 rfl (e := [(0, _), (1, _)]) rfl hw (g_sr ?_)
  refine g_boxV rfl rfl (fun b h1 => ?_)
  refine g_allocV (fun w => Tryz.zeroValue32 w) rfl (fun b_1 h2 => ?_)
  refine g_nx (g_fa 0 Tryz.runUnderlying38 rfl Tryz.sizeOf36 rfl rfl (g_lc 1 Tryz.isAgg36 rfl rfl rfl rfl (g_mv rfl rfl ?_)))
  obtain ⟨t9, h3, hm⟩ := bindO hm
  refine g_val rfl rfl rfl (fun w _ => v_ixR h3 (Tryz.runUnderlying36 w) (Tryz.sizeOf98 w) rfl rfl hna0 hqa0) ?_
  refine g_val rfl rfl rfl (fun w hh => v_ldEA RSt 0 [.int .i64 t9.tenant, .int .i64 t9.lay.lo, .int .i64 t9.lay.hi, .int .i64 t9.seeded.lo, .int .i64 t9.seeded.hi, .int .i64 t9.left.lo, .int .i64 t9.left.hi] h3 (Tryz.isAgg98 w) (Tryz.sizeOf98 w) rfl (hh.seg 0 rfl) rfl (Nat.add_zero _).symm) ?_
  refine g_allocV (fun w => Tryz.zeroValue98 w) rfl (fun b_2 h4 => ?_)
  refine g_stSA (us := #[_, _, _, _, _, _, _]) (cs' := [_, _, _, _, _, _, _]) (S' := [_, _, _]) 0 (fun w => Tryz.sizeOf98 w) rfl rfl rfl rfl rfl rfl rfl (g_nx (g_fa 1 Tryz.runUnderlying98 rfl Tryz.sizeOf32 rfl rfl (g_fa 0 Tryz.runUnderlying32 rfl Tryz.sizeOf3 rfl rfl (g_lc 0 Tryz.isAgg3 rfl rfl rfl rfl (g_fa 3 Tryz.runUnderlying98 rfl Tryz.sizeOf32 rfl rfl (g_fa 0 Tryz.runUnderlying32 rfl Tryz.sizeOf3 rfl rfl (g_lc 0 Tryz.isAgg3 rfl rfl rfl rfl ?_)))))))
  obtain ⟨t17, h5, hm⟩ := bindO hm
  refine g_ac h5 rfl rfl rfl (g_fa 5 Tryz.runUnderlying98 rfl Tryz.sizeOf32 rfl rfl (g_fa 1 Tryz.runUnderlying32 rfl Tryz.sizeOf3 rfl rfl (g_lc 0 Tryz.isAgg3 rfl rfl rfl rfl ?_)))
  obtain ⟨t21, h6, hm⟩ := bindO hm
  refine g_val rfl rfl rfl (fun _ _ => v_subc h6 rfl rfl) (g_val rfl rfl rfl (fun _ _ => v_max rfl rfl) (g_fa 1 Tryz.runUnderlying98 rfl Tryz.sizeOf32 rfl rfl (g_fa 1 Tryz.runUnderlying32 rfl Tryz.sizeOf3 rfl rfl (g_lc 0 Tryz.isAgg3 rfl rfl rfl rfl (g_fa 3 Tryz.runUnderlying98 rfl Tryz.sizeOf32 rfl rfl (g_fa 1 Tryz.runUnderlying32 rfl Tryz.sizeOf3 rfl rfl (g_lc 0 Tryz.isAgg3 rfl rfl rfl rfl ?_)))))))
  obtain ⟨t29, h7, hm⟩ := bindO hm
  refine g_ac h7 rfl rfl rfl (g_fa 5 Tryz.runUnderlying98 rfl Tryz.sizeOf32 rfl rfl (g_fa 0 Tryz.runUnderlying32 rfl Tryz.sizeOf3 rfl rfl (g_lc 0 Tryz.isAgg3 rfl rfl rfl rfl ?_)))
  obtain ⟨t33, h8, hm⟩ := bindO hm
  refine g_val rfl rfl rfl (fun _ _ => v_subc h8 rfl rfl) (g_val rfl rfl rfl (fun _ _ => v_build (vs := [(0, _), (1, _)]) (cells := [_, _]) rfl rfl) (g_stSA (us := #[_, _]) (cs' := [_, _]) (S' := [_, _, _]) 1 (fun w => Tryz.sizeOf32 w) rfl rfl rfl rfl rfl rfl rfl (g_nt (g_ret ?_))))
  obtain rfl := sj hm
  refine g_done rfl (fun w hh => (.cell rfl (loadVar_agg (vs := [_, _]) (Tryz.isAgg32 _) (Tryz.sizeOf32 _) (hh.cells 1 rfl rfl)) .nil)) (fun w hh => ⟨(), rfl, trivial, hh.se [] [] 2 rfl rfl rfl rfl⟩)
def m_laurelref09_Reaches_L0 (strip2 : Int) (s0 : Scalps) (tenant1 : Int) (s : Int) : Option (Int ⊕ (Unit ⊕ Bool)) :=
 (addc strip2 1).bind fun t13 =>
 (subc (s0.strips.length : Int) 1).bind fun t17 =>
 if s ≤ (min t13 t17) then
 ((ix s0.strips s).bind fun t25 =>
 if t25.tenant = tenant1 then
 (some (.inr (.inr true))) else
 ((addc s 1).bind fun t21 =>
 some (.inl t21))) else
 (some (.inr (.inl ())))
def m_laurelref09_Reaches (s0 : Scalps) (tenant1 : Int) (strip2 : Int) : Option Bool :=
 (subc strip2 1).bind fun t9 =>
 (iterM FU (m_laurelref09_Reaches_L0 strip2 s0 tenant1) (max 0 t9)).bind fun o =>
 oc o (fun j => some false) (fun r_1 => some r_1)
theorem c_laurelref09_Reaches (s0 : Scalps) (tenant1 : Int) (strip2 : Int) (qa0 : Option Addr) (na0 ca0 : Nat) (qa1 : Option Addr) (na1 ca1 : Nat) (w : World) (hw : HV w (keys [] []) [] [] [(aB qa0, aO qa0, RSt.enc s0.strips), (aB qa1, aO qa1, RSp.enc s0.carried)] w) (hna0 : s0.strips.length = na0) (hqa0 : AOK na0 qa0) (hla0 : na0 ≤ ca0) (hna1 : s0.carried.length = na1) (hqa1 : AOK na1 qa1) (hla1 : na1 ≤ ca1) {res : Bool} (hm : m_laurelref09_Reaches s0 tenant1 strip2 = some res) :
    Calls Tryz.prog 34 #[.agg #[.slice qa0 na0 ca0, .slice qa1 na1 ca1], .int .i64 tenant1, .int .i64 strip2] w (fun en w' => ∃ l : Unit, en = .returned (.bool res) ∧ (True) ∧ HV w (keys [] []) [] [] [] w') := by
  unfold m_laurelref09_Reaches at hm
  refine g_en Tryz.func34 rfl Tryz.ntmps34 rfl (e := [(0, _), (1, _), (2, _)]) rfl hw (g_sr ?_)
  refine g_boxV rfl rfl (fun b h1 => ?_)
  refine g_as rfl rfl (g_nt (g_seq (g_sr (g_mv rfl rfl ?_))))
  obtain ⟨t9, h2, hm⟩ := bindO hm
  refine g_val rfl rfl rfl (fun _ _ => v_subc h2 rfl rfl) (g_val rfl rfl rfl (fun _ _ => v_max rfl rfl) (g_as rfl rfl (g_nt ?_)))
  obtain ⟨o, h3, h4⟩ := bindO hm
  refine g_cut (ι := Unit) (fun j => o = .inl j) (fun j => []) (fun j => [(b, .cells #[.slice qa0 na0 ca0, .slice qa1 na1 ca1] 38 (0, 0))]) (fun j => []) ?_ ?_
  ·replace hm := h3
   refine g_block ?_
   refine g_loopF (ι := Unit) hm (fun s l => True) (fun s l => [(1, .int .i64 tenant1), (2, .int .i64 strip2), (3, ptr b 0), (7, .int .i64 s)]) (fun s l => [(b, .cells #[.slice qa0 na0 ca0, .slice qa1 na1 ca1] 38 (0, 0))]) (fun s l => []) () (trivial) (sE rfl) (fun w hh => hh) (fun s l r hpl hm h5 => ?_)
   unfold m_laurelref09_Reaches_L0 at hm
   refine g_seq (g_sr (g_mv rfl rfl (g_mv rfl rfl ?_)))
   obtain ⟨t13, h6, hm⟩ := bindO hm
   refine g_ac h6 rfl rfl rfl (g_fa 0 Tryz.runUnderlying38 rfl Tryz.sizeOf36 rfl rfl (g_lc 0 Tryz.isAgg36 rfl rfl rfl rfl (g_val rfl rfl rfl (fun w _ => v_lenR hna0 (Tryz.runUnderlying36 w) rfl) ?_)))
   obtain ⟨t17, h7, hm⟩ := bindO hm
   refine g_val rfl rfl rfl (fun _ _ => v_subc h7 rfl rfl) (g_val rfl rfl rfl (fun _ _ => v_min rfl rfl) (g_val rfl rfl rfl (fun _ _ => v_leq rfl rfl) (g_nt ?_)))
   refine g_cond rfl (fun h8 => ?_) (fun h8 => ?_)
   ·replace hm := ifD h8 hm
    refine g_skip (g_n_then (g_seq (g_block (g_sr (g_fa 0 Tryz.runUnderlying38 rfl Tryz.sizeOf36 rfl rfl (g_lc 0 Tryz.isAgg36 rfl rfl rfl rfl (g_mv rfl rfl ?_)))))))
    obtain ⟨t25, h9, hm⟩ := bindO hm
    refine g_val rfl rfl rfl (fun w _ => v_ixR h9 (Tryz.runUnderlying36 w) (Tryz.sizeOf98 w) rfl rfl hna0 hqa0) (g_fa 0 Tryz.runUnderlying98 rfl Tryz.sizeOf3 rfl rfl (g_val rfl rfl rfl (fun w hh => v_ldE RSt 0 h9 (Tryz.isAgg3 w) rfl (hh.seg 0 rfl) rfl rfl) (g_mv rfl rfl (g_val rfl rfl rfl (fun _ _ => v_eql rfl rfl) (g_nt ?_)))))
    refine g_cond rfl (fun h10 => ?_) (fun h10 => ?_)
    ·replace hm := ifD h10 hm
     refine g_sr (g_as rfl rfl (g_nt (g_ret (g_r_blk (g_r_then (g_r_then (g_r_blk ?_)))))))
     obtain rfl := sj hm
     have hbo := h5 _ rfl
     subst hbo
     refine g_r_then ?_
     replace hm := ocR h4
     refine g_r_then ?_
     obtain rfl := sj hm
     refine g_done rfl (fun w hh => (.tmp rfl .nil)) (fun w hh => ⟨(), rfl, trivial, hh.se [] [] 2 rfl rfl rfl rfl⟩)
    ·replace hm := ifE h10 hm
     refine g_skip (g_n_blk (g_n_then (g_region (g_mv rfl rfl ?_))))
     obtain ⟨t21, h11, hm⟩ := bindO hm
     refine g_ac h11 rfl rfl rfl (g_as rfl rfl (g_nil ?_))
     obtain rfl := sj hm
     refine g_n_then ?_
     exact g_again' _ () rfl (trivial) (sE rfl) (fun w hh => hh)
   ·replace hm := ifE h8 hm
    refine g_exit (g_x_then (g_x_then (g_x_blk ?_)))
    obtain rfl := sj hm
    have hbo := h5 _ rfl
    subst hbo
    exact g_leaf () (rfl) (.nil) (fun w hh => hh)
  ·intro j hj
   have h12 := hj
   subst h12
   replace hm := ocL h4
   refine g_n_then (g_sr (g_as rfl rfl (g_nt (g_ret ?_))))
   obtain rfl := sj hm
   refine g_done rfl (fun w hh => (.tmp rfl .nil)) (fun w hh => ⟨(), rfl, trivial, hh.se [] [] 2 rfl rfl rfl rfl⟩)
end Go.Proofs.Ws

namespace Go.Proofs.Ws
set_option maxHeartbeats 4000000
set_option maxRecDepth 100000
open Go Go.Fw Go.Gx Go.Sp
set_option linter.unusedVariables false
def m_slices_Equal_stripStripstripStrip_L0 (s10 : (List Strip)) (s21 : (List Strip)) (s : Int) : Option (Int ⊕ (Unit ⊕ Bool)) :=
 if s < (s10.length : Int) then
 ((ix s10 s).bind fun t18 =>
 (ix s21 s).bind fun t22 =>
 if (⟨t18.tenant, (⟨t18.lay.lo, t18.lay.hi⟩ : Span), (⟨t18.seeded.lo, t18.seeded.hi⟩ : Span), (⟨t18.left.lo, t18.left.hi⟩ : Span)⟩ : Strip) = (⟨t22.tenant, (⟨t22.lay.lo, t22.lay.hi⟩ : Span), (⟨t22.seeded.lo, t22.seeded.hi⟩ : Span), (⟨t22.left.lo, t22.left.hi⟩ : Span)⟩ : Strip) then
 ((addc s 1).bind fun t25 =>
 some (.inl t25)) else
 (some (.inr (.inr false)))) else
 (some (.inr (.inl ())))
def m_slices_Equal_stripStripstripStrip (s10 : (List Strip)) (s21 : (List Strip)) : Option Bool :=
 if (s10.length : Int) = (s21.length : Int) then
 ((iterM FU (m_slices_Equal_stripStripstripStrip_L0 s10 s21) 0).bind fun o =>
 oc o (fun j => some true) (fun r_1 => some r_1)) else
 (some false)
theorem c_slices_Equal_stripStripstripStrip (s10 : (List Strip)) (s21 : (List Strip)) (qa0 : Option Addr) (na0 ca0 : Nat) (qa1 : Option Addr) (na1 ca1 : Nat) (w : World) (hw : HV w (keys [] []) [] [] [(aB qa0, aO qa0, RSt.enc s10), (aB qa1, aO qa1, RSt.enc s21)] w) (hna0 : s10.length = na0) (hqa0 : AOK na0 qa0) (hla0 : na0 ≤ ca0) (hna1 : s21.length = na1) (hqa1 : AOK na1 qa1) (hla1 : na1 ≤ ca1) {res : Bool} (hm : m_slices_Equal_stripStripstripStrip s10 s21 = some res) :
    Calls Tryz.prog 117 #[.slice qa0 na0 ca0, .slice qa1 na1 ca1] w (fun en w' => ∃ l : Unit, en = .returned (.bool res) ∧ (True) ∧ HV w (keys [] []) [] [] [] w') := by
  unfold m_slices_Equal_stripStripstripStrip at hm
  refine g_en Tryz.func117 rfl Tryz.ntmps117 rfl (e := [(0, _), (1, _)]) rfl hw (g_sr (g_as rfl rfl (g_nt (g_seq (g_sr (g_mv rfl rfl (g_val rfl rfl rfl (fun w _ => v_lenR hna0 (Tryz.runUnderlying22 w) rfl) ?_)))))))
  refine g_mv rfl rfl (g_val rfl rfl rfl (fun w _ => v_lenR hna1 (Tryz.runUnderlying22 w) rfl) (g_val rfl rfl rfl (fun _ _ => v_neq rfl rfl) (g_nt ?_)))
  refine g_cond rfl (fun h1 => ?_) (fun h1 => ?_)
  ·replace hm := ifF (of_ndec_true h1) hm
   refine g_sr (g_as rfl rfl (g_nt (g_ret (g_r_then ?_))))
   obtain rfl := sj hm
   refine g_done rfl (fun w hh => (.tmp rfl .nil)) (fun w hh => ⟨(), rfl, trivial, hh.se [] [] 2 rfl rfl rfl rfl⟩)
  ·replace hm := ifT (of_ndec_false h1) hm
   refine g_skip (g_n_then (g_seq (g_sr (g_mv rfl rfl (g_val rfl rfl rfl (fun w _ => v_lenR hna0 (Tryz.runUnderlying22 w) rfl) (g_mv rfl rfl (g_nt ?_)))))))
   obtain ⟨o, h2, h3⟩ := bindO hm
   refine g_cut (ι := Unit) (fun j => o = .inl j) (fun j => []) (fun j => []) (fun j => []) ?_ ?_
   ·replace hm := h2
    refine g_block ?_
    refine g_loopF (ι := Unit) hm (fun s l => True) (fun s l => [(0, .slice qa0 na0 ca0), (1, .slice qa1 na1 ca1), (12, .int .i64 (s10.length : Int)), (13, .int .i64 s)]) (fun s l => []) (fun s l => []) () (trivial) (sE rfl) (fun w hh => hh) (fun s l r hpl hm h4 => ?_)
    unfold m_slices_Equal_stripStripstripStrip_L0 at hm
    refine g_sr (g_ls rfl rfl rfl (g_nt (g_seq ?_)))
    refine g_cond rfl (fun h5 => ?_) (fun h5 => ?_)
    ·replace hm := ifD h5 hm
     refine g_skip (g_n_then (g_seq (g_block (g_sr (g_mv rfl rfl (g_as rfl rfl (g_nt ?_)))))))
     refine g_seq ?_
     refine g_draw none (.free 0 (.free 1 (.free 2 (.hoist 3 (.free 4 (.free 5 (.free 6 (.hoist 7 (.free 8 .done))))))))) _ rfl (by decide +kernel) (fun w k hh => hh.draw k) (fun w hh => hh) ?_
     refine p_mv rfl rfl rfl (p_mv rfl rfl rfl ?_)
     obtain ⟨t18, h6, hm⟩ := bindO hm
     refine p_free rfl rfl rfl rfl (fun w _ => v_ixR h6 (Tryz.runUnderlying22 w) (Tryz.sizeOf85 w) rfl rfl hna0 hqa0) ?_
     refine p_hoist rfl rfl rfl rfl (fun w hh => v_ldEA RSt 0 [.int .i64 t18.tenant, .int .i64 t18.lay.lo, .int .i64 t18.lay.hi, .int .i64 t18.seeded.lo, .int .i64 t18.seeded.hi, .int .i64 t18.left.lo, .int .i64 t18.left.hi] h6 (Tryz.isAgg85 w) (Tryz.sizeOf85 w) rfl (hh.seg 0 rfl) rfl (Nat.add_zero _).symm) ?_
     refine p_mv rfl rfl rfl (p_mv rfl rfl rfl ?_)
     obtain ⟨t22, h7, hm⟩ := bindO hm
     refine p_free rfl rfl rfl rfl (fun w _ => v_ixR h7 (Tryz.runUnderlying22 w) (Tryz.sizeOf85 w) rfl rfl hna1 hqa1) ?_
     refine p_hoist rfl rfl rfl rfl (fun w hh => v_ldEA RSt 0 [.int .i64 t22.tenant, .int .i64 t22.lay.lo, .int .i64 t22.lay.hi, .int .i64 t22.seeded.lo, .int .i64 t22.seeded.hi, .int .i64 t22.left.lo, .int .i64 t22.left.hi] h7 (Tryz.isAgg85 w) (Tryz.sizeOf85 w) rfl (hh.seg 1 rfl) rfl (Nat.add_zero _).symm) ?_
     refine p_free rfl rfl rfl rfl (fun w _ => v_neqAgg (gxeq85 (⟨t18.tenant, (⟨t18.lay.lo, t18.lay.hi⟩ : Span), (⟨t18.seeded.lo, t18.seeded.hi⟩ : Span), (⟨t18.left.lo, t18.left.hi⟩ : Span)⟩ : Strip) (⟨t22.tenant, (⟨t22.lay.lo, t22.lay.hi⟩ : Span), (⟨t22.seeded.lo, t22.seeded.hi⟩ : Span), (⟨t22.left.lo, t22.left.hi⟩ : Span)⟩ : Strip) w) gxeqg85 rfl rfl) ?_
     refine p_done (g_n_then ?_)
     refine g_cond rfl (fun h8 => ?_) (fun h8 => ?_)
     ·replace hm := ifF (of_ndec_true h8) hm
      refine g_sr (g_as rfl rfl (g_nt (g_ret (g_r_blk (g_r_then (g_r_then (g_r_blk ?_)))))))
      obtain rfl := sj hm
      have hbo := h4 _ rfl
      subst hbo
      refine g_r_then ?_
      replace hm := ocR h3
      refine g_r_then ?_
      obtain rfl := sj hm
      refine g_done rfl (fun w hh => (.tmp rfl .nil)) (fun w hh => ⟨(), rfl, trivial, hh.se [] [] 2 rfl rfl rfl rfl⟩)
     ·replace hm := ifT (of_ndec_false h8) hm
      refine g_skip (g_n_blk (g_n_then (g_region ?_)))
      obtain ⟨t25, h9, hm⟩ := bindO hm
      refine g_ac h9 rfl rfl rfl (g_mv rfl rfl (g_nil ?_))
      obtain rfl := sj hm
      refine g_n_then ?_
      exact g_again' _ () rfl (trivial) (sE rfl) (fun w hh => hh)
    ·replace hm := ifE h5 hm
     refine g_exit (g_x_then (g_x_then (g_x_blk ?_)))
     obtain rfl := sj hm
     have hbo := h4 _ rfl
     subst hbo
     exact g_leaf () (rfl) (.nil) (fun w hh => hh)
   ·intro j hj
    have h10 := hj
    subst h10
    replace hm := ocL h3
    refine g_n_then (g_sr (g_as rfl rfl (g_nt (g_ret ?_))))
    obtain rfl := sj hm
    refine g_done rfl (fun w hh => (.tmp rfl .nil)) (fun w hh => ⟨(), rfl, trivial, hh.se [] [] 2 rfl rfl rfl rfl⟩)
def m_laurelkit_Eq_stripStrip (a0 : (List Strip)) (b1 : (List Strip)) : Option Bool :=
 (m_slices_Equal_stripStripstripStrip a0 b1).bind fun t7 =>
 some t7
theorem c_laurelkit_Eq_stripStrip (a0 : (List Strip)) (b1 : (List Strip)) (qa0 : Option Addr) (na0 ca0 : Nat) (qa1 : Option Addr) (na1 ca1 : Nat) (w : World) (hw : HV w (keys [] []) [] [] [(aB qa0, aO qa0, RSt.enc a0), (aB qa1, aO qa1, RSt.enc b1)] w) (hna0 : a0.length = na0) (hqa0 : AOK na0 qa0) (hla0 : na0 ≤ ca0) (hna1 : b1.length = na1) (hqa1 : AOK na1 qa1) (hla1 : na1 ≤ ca1) {res : Bool} (hm : m_laurelkit_Eq_stripStrip a0 b1 = some res) :
    Calls Tryz.prog 76 #[.slice qa0 na0 ca0, .slice qa1 na1 ca1] w (fun en w' => ∃ l : Unit, en = .returned (.bool res) ∧ (True) ∧ HV w (keys [] []) [] [] [] w') := by
  unfold m_laurelkit_Eq_stripStrip at hm
  refine g_en Tryz.func76 rfl Tryz.ntmps76 rfl (e := [(0, _), (1, _)]) rfl hw (g_sr (g_as rfl rfl (g_nx (g_mv rfl rfl (g_mv rfl rfl ?_)))))
  obtain ⟨t7, h1, hm⟩ := bindO hm
  refine g_callH [] [] rfl rfl rfl rfl rfl rfl rfl Tryz.call117 (fun w hh => c_slices_Equal_stripStripstripStrip a0 b1 qa0 na0 ca0 qa1 na1 ca1 w (HV.callee (S0 := []) (vs0 := []) hh (roR hh 0 rfl (roR hh 1 rfl roN))) hna0 hqa0 hla0 hna1 hqa1 hla1 h1) (fun l h2 => ?_)
  refine g_as rfl rfl (g_nt (g_ret ?_))
  obtain rfl := sj hm
  refine g_done rfl (fun w hh => (.tmp rfl .nil)) (fun w hh => ⟨(), rfl, trivial, hh.se [] [] 2 rfl rfl rfl rfl⟩)
def m_slices_Equal_apiSpanapiSpan_L0 (s10 : (List Span)) (s21 : (List Span)) (s : Int) : Option (Int ⊕ (Unit ⊕ Bool)) :=
 if s < (s10.length : Int) then
 ((ix s10 s).bind fun t18 =>
 (ix s21 s).bind fun t22 =>
 if (⟨t18.lo, t18.hi⟩ : Span) = (⟨t22.lo, t22.hi⟩ : Span) then
 ((addc s 1).bind fun t25 =>
 some (.inl t25)) else
 (some (.inr (.inr false)))) else
 (some (.inr (.inl ())))
def m_slices_Equal_apiSpanapiSpan (s10 : (List Span)) (s21 : (List Span)) : Option Bool :=
 if (s10.length : Int) = (s21.length : Int) then
 ((iterM FU (m_slices_Equal_apiSpanapiSpan_L0 s10 s21) 0).bind fun o =>
 oc o (fun j => some true) (fun r_1 => some r_1)) else
 (some false)
theorem c_slices_Equal_apiSpanapiSpan (s10 : (List Span)) (s21 : (List Span)) (qa0 : Option Addr) (na0 ca0 : Nat) (qa1 : Option Addr) (na1 ca1 : Nat) (w : World) (hw : HV w (keys [] []) [] [] [(aB qa0, aO qa0, RSp.enc s10), (aB qa1, aO qa1, RSp.enc s21)] w) (hna0 : s10.length = na0) (hqa0 : AOK na0 qa0) (hla0 : na0 ≤ ca0) (hna1 : s21.length = na1) (hqa1 : AOK na1 qa1) (hla1 : na1 ≤ ca1) {res : Bool} (hm : m_slices_Equal_apiSpanapiSpan s10 s21 = some res) :
    Calls Tryz.prog 118 #[.slice qa0 na0 ca0, .slice qa1 na1 ca1] w (fun en w' => ∃ l : Unit, en = .returned (.bool res) ∧ (True) ∧ HV w (keys [] []) [] [] [] w') := by
  unfold m_slices_Equal_apiSpanapiSpan at hm
  refine g_en Tryz.func118 rfl Tryz.ntmps118 rfl (e := [(0, _), (1, _)]) rfl hw (g_sr (g_as rfl rfl (g_nt (g_seq (g_sr (g_mv rfl rfl (g_val rfl rfl rfl (fun w _ => v_lenR hna0 (Tryz.runUnderlying23 w) rfl) ?_)))))))
  refine g_mv rfl rfl (g_val rfl rfl rfl (fun w _ => v_lenR hna1 (Tryz.runUnderlying23 w) rfl) (g_val rfl rfl rfl (fun _ _ => v_neq rfl rfl) (g_nt ?_)))
  refine g_cond rfl (fun h1 => ?_) (fun h1 => ?_)
  ·replace hm := ifF (of_ndec_true h1) hm
   refine g_sr (g_as rfl rfl (g_nt (g_ret (g_r_then ?_))))
   obtain rfl := sj hm
   refine g_done rfl (fun w hh => (.tmp rfl .nil)) (fun w hh => ⟨(), rfl, trivial, hh.se [] [] 2 rfl rfl rfl rfl⟩)
  ·replace hm := ifT (of_ndec_false h1) hm
   refine g_skip (g_n_then (g_seq (g_sr (g_mv rfl rfl (g_val rfl rfl rfl (fun w _ => v_lenR hna0 (Tryz.runUnderlying23 w) rfl) (g_mv rfl rfl (g_nt ?_)))))))
   obtain ⟨o, h2, h3⟩ := bindO hm
   refine g_cut (ι := Unit) (fun j => o = .inl j) (fun j => []) (fun j => []) (fun j => []) ?_ ?_
   ·replace hm := h2
    refine g_block ?_
    refine g_loopF (ι := Unit) hm (fun s l => True) (fun s l => [(0, .slice qa0 na0 ca0), (1, .slice qa1 na1 ca1), (12, .int .i64 (s10.length : Int)), (13, .int .i64 s)]) (fun s l => []) (fun s l => []) () (trivial) (sE rfl) (fun w hh => hh) (fun s l r hpl hm h4 => ?_)
    unfold m_slices_Equal_apiSpanapiSpan_L0 at hm
    refine g_sr (g_ls rfl rfl rfl (g_nt (g_seq ?_)))
    refine g_cond rfl (fun h5 => ?_) (fun h5 => ?_)
    ·replace hm := ifD h5 hm
     refine g_skip (g_n_then (g_seq (g_block (g_sr (g_mv rfl rfl (g_as rfl rfl (g_nt ?_)))))))
     refine g_seq ?_
     refine g_draw none (.free 0 (.free 1 (.free 2 (.hoist 3 (.free 4 (.free 5 (.free 6 (.hoist 7 (.free 8 .done))))))))) _ rfl (by decide +kernel) (fun w k hh => hh.draw k) (fun w hh => hh) ?_
     refine p_mv rfl rfl rfl (p_mv rfl rfl rfl ?_)
     obtain ⟨t18, h6, hm⟩ := bindO hm
     refine p_free rfl rfl rfl rfl (fun w _ => v_ixR h6 (Tryz.runUnderlying23 w) (Tryz.sizeOf32 w) rfl rfl hna0 hqa0) ?_
     refine p_hoist rfl rfl rfl rfl (fun w hh => v_ldEA RSp 0 [.int .i64 t18.lo, .int .i64 t18.hi] h6 (Tryz.isAgg32 w) (Tryz.sizeOf32 w) rfl (hh.seg 0 rfl) rfl (Nat.add_zero _).symm) ?_
     refine p_mv rfl rfl rfl (p_mv rfl rfl rfl ?_)
     obtain ⟨t22, h7, hm⟩ := bindO hm
     refine p_free rfl rfl rfl rfl (fun w _ => v_ixR h7 (Tryz.runUnderlying23 w) (Tryz.sizeOf32 w) rfl rfl hna1 hqa1) ?_
     refine p_hoist rfl rfl rfl rfl (fun w hh => v_ldEA RSp 0 [.int .i64 t22.lo, .int .i64 t22.hi] h7 (Tryz.isAgg32 w) (Tryz.sizeOf32 w) rfl (hh.seg 1 rfl) rfl (Nat.add_zero _).symm) ?_
     refine p_free rfl rfl rfl rfl (fun w _ => v_neqAgg (gxeq32 (⟨t18.lo, t18.hi⟩ : Span) (⟨t22.lo, t22.hi⟩ : Span) w) gxeqg32 rfl rfl) (p_done (g_n_then ?_))
     refine g_cond rfl (fun h8 => ?_) (fun h8 => ?_)
     ·replace hm := ifF (of_ndec_true h8) hm
      refine g_sr (g_as rfl rfl (g_nt (g_ret (g_r_blk (g_r_then (g_r_then (g_r_blk ?_)))))))
      obtain rfl := sj hm
      have hbo := h4 _ rfl
      subst hbo
      refine g_r_then ?_
      replace hm := ocR h3
      refine g_r_then ?_
      obtain rfl := sj hm
      refine g_done rfl (fun w hh => (.tmp rfl .nil)) (fun w hh => ⟨(), rfl, trivial, hh.se [] [] 2 rfl rfl rfl rfl⟩)
     ·replace hm := ifT (of_ndec_false h8) hm
      refine g_skip (g_n_blk (g_n_then (g_region ?_)))
      obtain ⟨t25, h9, hm⟩ := bindO hm
      refine g_ac h9 rfl rfl rfl (g_mv rfl rfl (g_nil ?_))
      obtain rfl := sj hm
      refine g_n_then ?_
      exact g_again' _ () rfl (trivial) (sE rfl) (fun w hh => hh)
    ·replace hm := ifE h5 hm
     refine g_exit (g_x_then (g_x_then (g_x_blk ?_)))
     obtain rfl := sj hm
     have hbo := h4 _ rfl
     subst hbo
     exact g_leaf () (rfl) (.nil) (fun w hh => hh)
   ·intro j hj
    have h10 := hj
    subst h10
    replace hm := ocL h3
    refine g_n_then (g_sr (g_as rfl rfl (g_nt (g_ret ?_))))
    obtain rfl := sj hm
    refine g_done rfl (fun w hh => (.tmp rfl .nil)) (fun w hh => ⟨(), rfl, trivial, hh.se [] [] 2 rfl rfl rfl rfl⟩)
end Go.Proofs.Ws

namespace Go.Proofs.Ws
set_option maxHeartbeats 4000000
set_option maxRecDepth 100000
open Go Go.Fw Go.Gx Go.Sp
set_option linter.unusedVariables false
def m_laurelkit_Eq_apiSpan (a0 : (List Span)) (b1 : (List Span)) : Option Bool :=
 (m_slices_Equal_apiSpanapiSpan a0 b1).bind fun t7 =>
 some t7
theorem c_laurelkit_Eq_apiSpan (a0 : (List Span)) (b1 : (List Span)) (qa0 : Option Addr) (na0 ca0 : Nat) (qa1 : Option Addr) (na1 ca1 : Nat) (w : World) (hw : HV w (keys [] []) [] [] [(aB qa0, aO qa0, RSp.enc a0), (aB qa1, aO qa1, RSp.enc b1)] w) (hna0 : a0.length = na0) (hqa0 : AOK na0 qa0) (hla0 : na0 ≤ ca0) (hna1 : b1.length = na1) (hqa1 : AOK na1 qa1) (hla1 : na1 ≤ ca1) {res : Bool} (hm : m_laurelkit_Eq_apiSpan a0 b1 = some res) :
    Calls Tryz.prog 77 #[.slice qa0 na0 ca0, .slice qa1 na1 ca1] w (fun en w' => ∃ l : Unit, en = .returned (.bool res) ∧ (True) ∧ HV w (keys [] []) [] [] [] w') := by
  unfold m_laurelkit_Eq_apiSpan at hm
  refine g_en Tryz.func77 rfl Tryz.ntmps77 rfl (e := [(0, _), (1, _)]) rfl hw (g_sr (g_as rfl rfl (g_nx (g_mv rfl rfl (g_mv rfl rfl ?_)))))
  obtain ⟨t7, h1, hm⟩ := bindO hm
  refine g_callH [] [] rfl rfl rfl rfl rfl rfl rfl Tryz.call118 (fun w hh => c_slices_Equal_apiSpanapiSpan a0 b1 qa0 na0 ca0 qa1 na1 ca1 w (HV.callee (S0 := []) (vs0 := []) hh (roR hh 0 rfl (roR hh 1 rfl roN))) hna0 hqa0 hla0 hna1 hqa1 hla1 h1) (fun l h2 => ?_)
  refine g_as rfl rfl (g_nt (g_ret ?_))
  obtain rfl := sj hm
  refine g_done rfl (fun w hh => (.tmp rfl .nil)) (fun w hh => ⟨(), rfl, trivial, hh.se [] [] 2 rfl rfl rfl rfl⟩)
def m_laurellaw09_same (a0 : Scalps) (b1 : Scalps) : Option Bool :=
 ((m_laurelkit_Eq_stripStrip a0.strips b1.strips).bind fun t9 =>
 if t9 = true then
 ((m_laurelkit_Eq_apiSpan a0.carried b1.carried).bind fun t15 =>
 some t15) else
 (some false)).bind fun o =>
 some o
theorem c_laurellaw09_same (a0 : Scalps) (b1 : Scalps) (qa0 : Option Addr) (na0 ca0 : Nat) (qa1 : Option Addr) (na1 ca1 : Nat) (qa2 : Option Addr) (na2 ca2 : Nat) (qa3 : Option Addr) (na3 ca3 : Nat) (w : World) (hw : HV w (keys [] []) [] [] [(aB qa0, aO qa0, RSt.enc a0.strips), (aB qa1, aO qa1, RSp.enc a0.carried), (aB qa2, aO qa2, RSt.enc b1.strips), (aB qa3, aO qa3, RSp.enc b1.carried)] w) (hna0 : a0.strips.length = na0) (hqa0 : AOK na0 qa0) (hla0 : na0 ≤ ca0) (hna1 : a0.carried.length = na1) (hqa1 : AOK na1 qa1) (hla1 : na1 ≤ ca1) (hna2 : b1.strips.length = na2) (hqa2 : AOK na2 qa2) (hla2 : na2 ≤ ca2) (hna3 : b1.carried.length = na3) (hqa3 : AOK na3 qa3) (hla3 : na3 ≤ ca3) {res : Bool} (hm : m_laurellaw09_same a0 b1 = some res) :
    Calls Tryz.prog 21 #[.agg #[.slice qa0 na0 ca0, .slice qa1 na1 ca1], .agg #[.slice qa2 na2 ca2, .slice qa3 na3 ca3]] w (fun en w' => ∃ l : Unit, en = .returned (.bool res) ∧ (True) ∧ HV w (keys [] []) [] [] [] w') := by
  unfold m_laurellaw09_same at hm
  refine g_en Tryz.func21 rfl Tryz.ntmps21 rfl (e := [(0, _), (1, _)]) rfl hw (g_sr ?_)
  refine g_boxV rfl rfl (fun b h1 => ?_)
  refine g_boxV rfl rfl (fun b_1 h2 => ?_)
  refine g_as rfl rfl (g_nt (g_seq ?_))
  obtain ⟨o, h3, h4⟩ := bindO hm
  refine g_cut (ι := Unit) (fun l => True) (fun l => [(4, .bool o)]) (fun l => [(b_1, .cells #[.slice qa2 na2 ca2, .slice qa3 na3 ca3] 25 (0, 0)), (b, .cells #[.slice qa0 na0 ca0, .slice qa1 na1 ca1] 25 (0, 0))]) (fun l => []) ?_ ?_
  ·replace hm := h3
   refine g_region (g_fa 0 Tryz.runUnderlying25 rfl Tryz.sizeOf22 rfl rfl (g_lc 1 Tryz.isAgg22 rfl rfl rfl rfl (g_fa 0 Tryz.runUnderlying25 rfl Tryz.sizeOf22 rfl rfl (g_lc 0 Tryz.isAgg22 rfl rfl rfl rfl ?_))))
   obtain ⟨t9, h5, hm⟩ := bindO hm
   refine g_callH [] [] rfl rfl rfl rfl rfl rfl rfl Tryz.call76 (fun w hh => c_laurelkit_Eq_stripStrip a0.strips b1.strips qa0 na0 ca0 qa2 na2 ca2 w (HV.callee (S0 := []) (vs0 := []) hh (roR hh 0 rfl (roR hh 2 rfl roN))) hna0 hqa0 hla0 hna2 hqa2 hla2 h5) (fun l_1 h6 => ?_)
   refine g_mv rfl rfl ?_
   refine g_case 10 rfl (fun h7 => ?_) (fun h7 => ?_)
   ·replace hm := ifT (h7) hm
    refine v_unguard rfl rfl (g_fa 1 Tryz.runUnderlying25 rfl Tryz.sizeOf23 rfl rfl (v_unguard rfl rfl (g_lc 1 Tryz.isAgg23 rfl rfl rfl rfl (v_unguard rfl rfl (g_fa 1 Tryz.runUnderlying25 rfl Tryz.sizeOf23 rfl rfl (v_unguard rfl rfl (g_lc 0 Tryz.isAgg23 rfl rfl rfl rfl ?_)))))))
    refine v_unguard rfl rfl ?_
    obtain ⟨t15, h8, hm⟩ := bindO hm
    refine g_callH [] [] rfl rfl rfl rfl rfl rfl rfl Tryz.call77 (fun w hh => c_laurelkit_Eq_apiSpan a0.carried b1.carried qa1 na1 ca1 qa3 na3 ca3 w (HV.callee (S0 := []) (vs0 := []) hh (roR hh 1 rfl (roR hh 3 rfl roN))) hna1 hqa1 hla1 hna3 hqa3 hla3 h8) (fun l_2 h9 => ?_)
    refine g_pt rfl rfl rfl (g_as rfl rfl (g_nil ?_))
    obtain rfl := sj hm
    exact g_leaf () (trivial) (sE rfl) (fun w hh => hh)
   ·replace hm := ifN h7 hm
    refine g_k rfl rfl rfl rfl (g_k rfl rfl rfl rfl (g_k rfl rfl rfl rfl (g_k rfl rfl rfl rfl (g_k rfl rfl rfl rfl (g_pf rfl rfl rfl (g_as rfl rfl (g_nil ?_)))))))
    obtain rfl := sj hm
    exact g_leaf () (trivial) (sE rfl) (fun w hh => hh)
  ·intro l hj
   replace hm := h4
   refine g_n_then (g_ret ?_)
   obtain rfl := sj hm
   refine g_done rfl (fun w hh => (.tmp rfl .nil)) (fun w hh => ⟨(), rfl, trivial, hh.se [] [] 4 rfl rfl rfl rfl⟩)
structure m_laurelref09_Fits_S0 where
  t6 : Int
  t21 : (List Int)
structure m_laurelref09_Fits_C1 where
  sum7 : Int
  t21 : (List Int)
structure m_laurelref09_Fits_S1 where
  sum7 : Int
  k8 : Int
  t21 : (List Int)
def m_laurelref09_Fits_L1 (shares1 : (List (List Int))) (s : m_laurelref09_Fits_S0) (s0 : Scalps) (s_1 : m_laurelref09_Fits_S1) : Option (m_laurelref09_Fits_S1 ⊕ (m_laurelref09_Fits_C1 ⊕ Bool)) :=
 if s_1.k8 < (s_1.t21.length : Int) then
 ((ix shares1 s.t6).bind fun t45 =>
 (ix t45 s_1.k8).bind fun t48 =>
 ((m_laurelref09_off t48 0 100).bind fun t51 =>
 if t51 = true then
 (some true) else
 (if 0 < t48 then
 ((m_laurelref09_Reaches s0 s.t6 s_1.k8).bind fun t59 =>
 some (!t59)) else
 (some false))).bind fun o_2 =>
 if o_2 = true then
 (some (.inr (.inr false))) else
 ((addc s_1.sum7 t48).bind fun t65 =>
 (ix s_1.t21 s_1.k8).bind fun t70 =>
 (addc t70 t48).bind fun t73 =>
 (ix s_1.t21 s_1.k8).bind fun t74 =>
 (some (s_1.t21.set (Int.toNat s_1.k8) t73)).bind fun t21_1 =>
 (addc s_1.k8 1).bind fun t42 =>
 some (.inl (⟨t65, t42, t21_1⟩ : m_laurelref09_Fits_S1)))) else
 (some (.inr (.inl (⟨s_1.sum7, s_1.t21⟩ : m_laurelref09_Fits_C1))))
def m_laurelref09_Fits_L0 (shares1 : (List (List Int))) (s0 : Scalps) (s : m_laurelref09_Fits_S0) : Option (m_laurelref09_Fits_S0 ⊕ ((List Int) ⊕ Bool)) :=
 if s.t6 < (shares1.length : Int) then
 ((ix shares1 s.t6).bind fun t30 =>
 if (t30.length : Int) = (s0.strips.length : Int) then
 ((iterM FU (m_laurelref09_Fits_L1 shares1 s s0) (⟨0, 0, s.t21⟩ : m_laurelref09_Fits_S1)).bind fun o_1 =>
 oc o_1 (fun j_1 => (ix s0.carried s.t6).bind fun t79 =>
 (ix s0.carried s.t6).bind fun t85 =>
 (m_laurelref09_off j_1.sum7 t79.lo t85.hi).bind fun t88 =>
 if t88 = true then
 (some (.inr (.inr false))) else
 ((addc s.t6 1).bind fun t27 =>
 some (.inl (⟨t27, j_1.t21⟩ : m_laurelref09_Fits_S0)))) (fun r_2 => some (.inr (.inr r_2)))) else
 (some (.inr (.inr false)))) else
 (some (.inr (.inl s.t21)))
def m_laurelref09_Fits_L2 (j : (List Int)) (s0 : Scalps) (s_2 : Int) : Option (Int ⊕ (Unit ⊕ Bool)) :=
 if s_2 < (j.length : Int) then
 ((m_laurelref09_Gone s0 s_2).bind fun t97 =>
 (ix j s_2).bind fun t100 =>
 (m_laurelref09_off t100 t97.lo t97.hi).bind fun t106 =>
 if t106 = true then
 (some (.inr (.inr false))) else
 ((addc s_2 1).bind fun t94 =>
 some (.inl t94))) else
 (some (.inr (.inl ())))
def m_laurelref09_Fits (s0 : Scalps) (shares1 : (List (List Int))) : Option Bool :=
 if (shares1.length : Int) = (s0.carried.length : Int) then
 ((makec 8 0 (s0.strips.length : Int) (s0.strips.length : Int)).bind fun t21 =>
 (iterM FU (m_laurelref09_Fits_L0 shares1 s0) (⟨0, t21⟩ : m_laurelref09_Fits_S0)).bind fun o =>
 oc o (fun j => (iterM FU (m_laurelref09_Fits_L2 j s0) 0).bind fun o_3 =>
 oc o_3 (fun j_2 => some true) (fun r_4 => some r_4)) (fun r_5 => some r_5)) else
 (some false)
theorem c_laurelref09_Fits (s0 : Scalps) (shares1 : (List (List Int))) (qa0 : Option Addr) (na0 ca0 : Nat) (qa1 : Option Addr) (na1 ca1 : Nat) (qa2 : Option Addr) (na2 ca2 : Nat) (ar2 : List AL) (w : World) (hw : HV w (keys [] []) [] [] [(aB qa0, aO qa0, RSt.enc s0.strips), (aB qa1, aO qa1, RSp.enc s0.carried), (aB qa2, aO qa2, RwA.enc ar2)] w) (hna0 : s0.strips.length = na0) (hqa0 : AOK na0 qa0) (hla0 : na0 ≤ ca0) (hna1 : s0.carried.length = na1) (hqa1 : AOK na1 qa1) (hla1 : na1 ≤ ca1) (hna2 : shares1.length = na2) (hqa2 : AOK na2 qa2) (hla2 : na2 ≤ ca2) (hda2 : DRO shares1 ar2) (hTa2 : ∀ t, t ∈ rsg RI shares1 ar2 → segOK w t ∧ (t.2.2 ≠ [] → t.1 ∉ keys [] [])) {res : Bool} (hm : m_laurelref09_Fits s0 shares1 = some res) :
    Calls Tryz.prog 33 #[.agg #[.slice qa0 na0 ca0, .slice qa1 na1 ca1], .slice qa2 na2 ca2] w (fun en w' => ∃ l : Unit, en = .returned (.bool res) ∧ (True) ∧ HV w (keys [] []) [] [] [] w') := by
  unfold m_laurelref09_Fits at hm
  refine g_en Tryz.func33 rfl Tryz.ntmps33 rfl (e := [(0, _), (1, _)]) rfl hw (g_sr ?_)
  refine g_boxV rfl rfl (fun b h1 => ?_)
  refine g_as rfl rfl (g_nt (g_seq (g_sr (g_mv rfl rfl (g_val rfl rfl rfl (fun w _ => v_lenR hna2 (Tryz.runUnderlying70 w) rfl) (g_fa 1 Tryz.runUnderlying38 rfl Tryz.sizeOf23 rfl rfl (g_lc 0 Tryz.isAgg23 rfl rfl rfl rfl ?_)))))))
  refine g_val rfl rfl rfl (fun w _ => v_lenR hna1 (Tryz.runUnderlying23 w) rfl) (g_val rfl rfl rfl (fun _ _ => v_neq rfl rfl) (g_nt ?_))
  refine g_cond rfl (fun h2 => ?_) (fun h2 => ?_)
  ·replace hm := ifF (of_ndec_true h2) hm
   refine g_sr (g_as rfl rfl (g_nt (g_ret (g_r_then ?_))))
   obtain rfl := sj hm
   refine g_done rfl (fun w hh => (.tmp rfl .nil)) (fun w hh => ⟨(), rfl, trivial, hh.se [] [] 3 rfl rfl rfl rfl⟩)
  ·replace hm := ifT (of_ndec_false h2) hm
   refine g_skip (g_n_then (g_sr (g_fa 0 Tryz.runUnderlying38 rfl Tryz.sizeOf36 rfl rfl (g_lc 0 Tryz.isAgg36 rfl rfl rfl rfl (g_val rfl rfl rfl (fun w _ => v_lenR hna0 (Tryz.runUnderlying36 w) rfl) ?_)))))
   obtain ⟨t21, h3, hm⟩ := bindO hm
   refine g_vmake RI 0 h3 Tryz.underlying26 gxinf3 rfl rfl rfl rfl rfl (fun L h4 => ?_)
   refine g_as rfl rfl (g_nt (g_seq (g_sr (g_as rfl rfl (g_nt ?_)))))
   obtain ⟨o, h5, h6⟩ := bindO hm
   refine g_cut (ι := (List Int)) (fun j => o = .inl j ∧ VOK 1 L.n L.cap (RI.enc j) L.sp L.q) (fun j => [(2, ptr b 0), (5, slv L.q L.n L.cap)]) (fun j => [(b, .cells #[.slice qa0 na0 ca0, .slice qa1 na1 ca1] 38 (0, 0))]) (fun j => [⟨3, RI.enc j, L.sp, L.q, []⟩]) ?_ ?_
   ·replace hm := h5
    refine g_block ?_
    refine g_loopF (ι := Unit) hm (fun s l => VOK 1 L.n L.cap (RI.enc s.t21) L.sp L.q) (fun s l => [(1, .slice qa2 na2 ca2), (2, ptr b 0), (5, slv L.q L.n L.cap), (6, .int .i64 s.t6)]) (fun s l => [(b, .cells #[.slice qa0 na0 ca0, .slice qa1 na1 ca1] 38 (0, 0))]) (fun s l => [⟨3, RI.enc s.t21, L.sp, L.q, []⟩]) () (h4) (sE rfl) (fun w hh => hh) (fun s l r hpl hm h9 => ?_)
    have h8 := hpl
    unfold m_laurelref09_Fits_L0 at hm
    refine g_seq (g_sr (g_mv rfl rfl (g_mv rfl rfl (g_val rfl rfl rfl (fun w _ => v_lenR hna2 (Tryz.runUnderlying70 w) rfl) (g_ls rfl rfl rfl (g_nt ?_))))))
    refine g_cond rfl (fun h10 => ?_) (fun h10 => ?_)
    ·replace hm := ifD h10 hm
     refine g_skip (g_n_then (g_seq (g_block (g_seq (g_seq ?_)))))
     refine g_draw none (.free 0 (.free 1 (.free 2 (.hoist 3 (.free 4 (.free 5 (.hoist 6 (.free 7 (.free 8 .done))))))))) _ rfl (by decide +kernel) (fun w k hh => hh.draw k) (fun w hh => hh) ?_
     refine p_mv rfl rfl rfl (p_mv rfl rfl rfl ?_)
     obtain ⟨t30, h11, hm⟩ := bindO hm
     obtain ⟨A, h12, h13, h14, h15⟩ := (hda2).row h11
     refine p_free rfl rfl rfl rfl (fun w _ => v_ixR h12 (Tryz.runUnderlying70 w) (Tryz.sizeOf26 w) rfl rfl (Eq.trans (hda2).len.symm hna2) hqa2) (p_hoist rfl rfl rfl rfl (fun w hh => v_ldE RwA 0 h12 (Tryz.isAgg26 w) rfl (hh.seg 2 rfl) rfl (Nat.add_zero _).symm) (p_free rfl rfl rfl rfl (fun w _ => v_lenR h13 (Tryz.runUnderlying26 w) rfl) (p_fa 0 Tryz.runUnderlying38 Tryz.sizeOf36 rfl rfl rfl rfl (p_lc 0 Tryz.isAgg36 rfl rfl rfl rfl rfl (p_free rfl rfl rfl rfl (fun w _ => v_lenR hna0 (Tryz.runUnderlying36 w) rfl) (p_free rfl rfl rfl rfl (fun _ _ => v_neq rfl rfl) (p_done ?_)))))))
     refine g_n_then ?_
     refine g_cond rfl (fun h16 => ?_) (fun h16 => ?_)
     ·replace hm := ifF (of_ndec_true h16) hm
      refine g_sr (g_as rfl rfl (g_nt (g_ret (g_r_then (g_r_blk (g_r_then (g_r_then ?_)))))))
      refine g_r_blk ?_
      obtain rfl := sj hm
      have hbo := h9 _ rfl
      subst hbo
      refine g_r_then ?_
      replace hm := ocR h6
      refine g_r_then ?_
      obtain rfl := sj hm
      refine g_done rfl (fun w hh => (.tmp rfl .nil)) (fun w hh => ⟨(), rfl, trivial, hh.se [] [] 3 rfl rfl rfl rfl⟩)
     ·replace hm := ifT (of_ndec_false h16) hm
      refine g_skip (g_n_then (g_sr (g_as rfl rfl (g_nt (g_seq (g_sr (g_as rfl rfl ?_)))))))
      refine g_nt ?_
      obtain ⟨o_1, h17, h18⟩ := bindO hm
      refine g_cut (ι := m_laurelref09_Fits_C1) (fun j_1 => o_1 = .inl j_1 ∧ VOK 1 L.n L.cap (RI.enc j_1.t21) L.sp L.q) (fun j_1 => [(1, .slice qa2 na2 ca2), (2, ptr b 0), (5, slv L.q L.n L.cap), (6, .int .i64 s.t6), (7, .int .i64 j_1.sum7)]) (fun j_1 => [(b, .cells #[.slice qa0 na0 ca0, .slice qa1 na1 ca1] 38 (0, 0))]) (fun j_1 => [⟨3, RI.enc j_1.t21, L.sp, L.q, []⟩]) ?_ ?_
      ·replace hm := h17
       refine g_block ?_
       refine g_loopF (ι := Unit) hm (fun s_1 l_1 => VOK 1 L.n L.cap (RI.enc s_1.t21) L.sp L.q) (fun s_1 l_1 => [(1, .slice qa2 na2 ca2), (2, ptr b 0), (5, slv L.q L.n L.cap), (6, .int .i64 s.t6), (7, .int .i64 s_1.sum7), (8, .int .i64 s_1.k8)]) (fun s_1 l_1 => [(b, .cells #[.slice qa0 na0 ca0, .slice qa1 na1 ca1] 38 (0, 0))]) (fun s_1 l_1 => [⟨3, RI.enc s_1.t21, L.sp, L.q, []⟩]) () (h8) (sE rfl) (fun w hh => hh) (fun s_1 l_1 r_1 hpl hm h21 => ?_)
       have h20 := hpl
       unfold m_laurelref09_Fits_L1 at hm
       refine g_seq (g_sr (g_mv rfl rfl (g_mv rfl rfl (g_val rfl rfl rfl (fun w _ => v_lenN (vlen RI h20 rfl) (Tryz.runUnderlying26 w) rfl) (g_ls rfl rfl rfl (g_nt ?_))))))
       refine g_cond rfl (fun h22 => ?_) (fun h22 => ?_)
       ·replace hm := ifD h22 hm
        refine g_skip (g_n_then (g_seq (g_block (g_sr (g_mv rfl rfl (g_mv rfl rfl ?_))))))
        obtain ⟨t45, h23, hm⟩ := bindO hm
        obtain ⟨A_1, h24, h25, h26, h27⟩ := (hda2).row h23
        refine g_val rfl rfl rfl (fun w _ => v_ixR h24 (Tryz.runUnderlying70 w) (Tryz.sizeOf26 w) rfl rfl (Eq.trans (hda2).len.symm hna2) hqa2) (g_val rfl rfl rfl (fun w hh => v_ldE RwA 0 h24 (Tryz.isAgg26 w) rfl (hh.seg 2 rfl) rfl (Nat.add_zero _).symm) (g_mv rfl rfl ?_))
        obtain ⟨t48, h28, hm⟩ := bindO hm
        refine g_val rfl rfl rfl (fun w _ => v_ixR h28 (Tryz.runUnderlying26 w) (Tryz.sizeOf3 w) rfl rfl h25 h26) (g_val rfl rfl rfl (fun w hh => v_ldE RI 0 h28 (Tryz.isAgg3 w) rfl (hh.oldseg (hTa2 _ (rsg_ix h23 h24))) rfl (Nat.add_zero _).symm) (g_as rfl rfl (g_nt (g_seq (g_seq ?_)))))
        obtain ⟨o_2, h29, h30⟩ := bindO hm
        refine g_cut (ι := Unit) (fun l_2 => True) (fun l_2 => [(1, .slice qa2 na2 ca2), (2, ptr b 0), (5, slv L.q L.n L.cap), (6, .int .i64 s.t6), (7, .int .i64 s_1.sum7), (8, .int .i64 s_1.k8), (9, .int .i64 t48), (62, .bool o_2)]) (fun l_2 => [(b, .cells #[.slice qa0 na0 ca0, .slice qa1 na1 ca1] 38 (0, 0))]) (fun l_2 => [⟨3, RI.enc s_1.t21, L.sp, L.q, []⟩]) ?_ ?_
        ·replace hm := h29
         refine g_region (g_mv rfl rfl ?_)
         obtain ⟨t51, h31, hm⟩ := bindO hm
         refine g_callH [] [] rfl rfl rfl rfl rfl rfl rfl Tryz.call50 (fun w hh => c_laurelref09_off t48 0 100 w (HV.callee (S0 := []) (vs0 := []) hh roN)  h31) (fun l_3 h32 => ?_)
         refine g_mv rfl rfl ?_
         refine g_case 52 rfl (fun h33 => ?_) (fun h33 => ?_)
         ·replace hm := ifT (h33) hm
          refine g_k rfl rfl rfl rfl (g_k rfl rfl rfl rfl (g_k rfl rfl rfl rfl ?_))
          refine g_skipU' rfl rfl rfl rfl rfl ?_
          refine g_skipU' rfl rfl rfl rfl rfl ?_
          refine g_skipU' rfl rfl rfl rfl rfl ?_
          refine g_skipU' rfl rfl rfl rfl rfl ?_
          refine g_skipU' rfl rfl rfl rfl rfl ?_
          refine g_k rfl rfl rfl rfl (g_pt rfl rfl rfl (g_nil ?_))
          obtain rfl := sj hm
          exact g_leaf () (trivial) (sE rfl) (fun w hh => hh)
         ·replace hm := ifN h33 hm
          refine v_unguard rfl rfl (g_mv rfl rfl (v_unguard rfl rfl (g_val rfl rfl rfl (fun _ _ => v_gtr rfl rfl) (v_unguard rfl rfl (g_mv rfl rfl ?_)))))
          refine g_case 55 rfl (fun h34 => ?_) (fun h34 => ?_)
          ·replace hm := ifD h34 hm
           refine v_unguard rfl rfl (g_la [_, _] 0 Tryz.isAgg38 Tryz.sizeOf38 rfl rfl rfl rfl (v_unguard rfl rfl (g_mv rfl rfl (v_unguard rfl rfl (g_mv rfl rfl (v_unguard rfl rfl ?_))))))
           obtain ⟨t59, h35, hm⟩ := bindO hm
           refine g_callH [] [] rfl rfl rfl rfl rfl rfl rfl Tryz.call34 (fun w hh => c_laurelref09_Reaches s0 s.t6 s_1.k8 qa0 na0 ca0 qa1 na1 ca1 w (HV.callee (S0 := []) (vs0 := []) hh (roR hh 0 rfl (roR hh 1 rfl roN))) hna0 hqa0 hla0 hna1 hqa1 hla1 h35) (fun l_4 h36 => ?_)
           refine v_unguard rfl rfl (g_val rfl rfl rfl (fun _ _ => v_not rfl) (v_unguard rfl rfl (g_pt rfl rfl rfl (g_pf rfl rfl rfl (g_nil ?_)))))
           obtain rfl := sj hm
           exact g_leaf () (trivial) (sE rfl) (fun w hh => hh)
          ·replace hm := ifE h34 hm
           refine g_k rfl rfl rfl rfl (g_k rfl rfl rfl rfl (g_k rfl rfl rfl rfl (g_k rfl rfl rfl rfl (g_k rfl rfl rfl rfl (v_unguard rfl rfl (g_pf rfl rfl rfl (g_pf rfl rfl rfl ?_)))))))
           refine g_nil ?_
           obtain rfl := sj hm
           exact g_leaf () (trivial) (sE rfl) (fun w hh => hh)
        ·intro l_2 hj
         replace hm := h30
         refine g_n_then ?_
         refine g_cond rfl (fun h37 => ?_) (fun h37 => ?_)
         ·replace hm := ifT (h37) hm
          refine g_sr (g_as rfl rfl (g_nt (g_ret (g_r_then (g_r_blk (g_r_then (g_r_then ?_)))))))
          refine g_r_blk ?_
          obtain rfl := sj hm
          have hbo := h21 _ rfl
          subst hbo
          refine g_r_then ?_
          replace hm := ocR h18
          refine g_r_then (g_r_blk (g_r_then (g_r_then (g_r_blk ?_))))
          obtain rfl := sj hm
          have hbo := h9 _ rfl
          subst hbo
          refine g_r_then ?_
          replace hm := ocR h6
          refine g_r_then ?_
          obtain rfl := sj hm
          refine g_done rfl (fun w hh => (.tmp rfl .nil)) (fun w hh => ⟨(), rfl, trivial, hh.se [] [] 3 rfl rfl rfl rfl⟩)
         ·replace hm := ifN h37 hm
          refine g_skip (g_n_then (g_sr (g_mv rfl rfl (g_mv rfl rfl ?_))))
          obtain ⟨t65, h38, hm⟩ := bindO hm
          refine g_ac h38 rfl rfl rfl (g_as rfl rfl (g_nt (g_region (g_mv rfl rfl (g_mv rfl rfl (g_mv rfl rfl (g_mv rfl rfl ?_)))))))
          obtain ⟨t70, h39, hm⟩ := bindO hm
          refine g_val rfl rfl rfl (fun w _ => v_ixA h39 (Tryz.runUnderlying26 w) (Tryz.sizeOf3 w) rfl rfl (vlen RI h20 rfl) (vne h20)) (g_val rfl rfl rfl (fun w hh => v_ldE RI 0 h39 (Tryz.isAgg3 w) rfl (hh.vseg 0 rfl h20) rfl (Nat.add_zero _).symm) (g_mv rfl rfl ?_))
          obtain ⟨t73, h40, hm⟩ := bindO hm
          refine g_ac h40 rfl rfl rfl ?_
          obtain ⟨t74, h41, hm⟩ := bindO hm
          refine g_val rfl rfl rfl (fun w _ => v_ixA h41 (Tryz.runUnderlying26 w) (Tryz.sizeOf3 w) rfl rfl (vlen RI h20 rfl) (vne h20)) ?_
          obtain ⟨t21_1, ht21_1, hm⟩ := bindO hm
          refine g_vst RI 0 0 t73 (fun w => Tryz.sizeOf3 w) rfl rfl rfl rfl h20 rfl (Nat.add_zero _).symm rfl h41 rfl rfl (Option.some.inj ht21_1) (fun h42 => ?_)
          refine g_se (S' := [_]) (vs' := [_]) [0] [0] 0 rfl rfl rfl rfl (g_nil (g_n_blk (g_n_then (g_region (g_mv rfl rfl ?_)))))
          obtain ⟨t42, h43, hm⟩ := bindO hm
          refine g_ac h43 rfl rfl rfl (g_as rfl rfl (g_nil ?_))
          obtain rfl := sj hm
          refine g_n_then ?_
          exact g_again' _ () rfl (h42) (sE rfl) (fun w hh => hh)
       ·replace hm := ifE h22 hm
        refine g_exit (g_x_then (g_x_then (g_x_blk ?_)))
        obtain rfl := sj hm
        have hbo := h21 _ rfl
        subst hbo
        exact g_leaf (⟨s_1.sum7, s_1.t21⟩ : m_laurelref09_Fits_C1) (⟨rfl, h20⟩) (sE rfl) (fun w hh => hh)
      ·intro j_1 hj
       obtain ⟨h44, h19⟩ := hj
       subst h44
       replace hm := ocL h18
       refine g_n_then (g_seq ?_)
       refine g_draw none (.free 0 (.free 1 (.hoist 2 (.free 3 (.free 4 (.free 5 (.hoist 6 (.free 7 (.hoist 8 (.free 9 (.free 10 (.free 11 (.hoist 12 (.one 13 .done)))))))))))))) _ rfl (by decide +kernel) (fun w k hh => hh.draw k) (fun w hh => hh) ?_
       refine p_mv rfl rfl rfl (p_fa 1 Tryz.runUnderlying38 Tryz.sizeOf23 rfl rfl rfl rfl (p_lc 0 Tryz.isAgg23 rfl rfl rfl rfl rfl (p_mv rfl rfl rfl ?_)))
       obtain ⟨t79, h45, hm⟩ := bindO hm
       refine p_free rfl rfl rfl rfl (fun w _ => v_ixR h45 (Tryz.runUnderlying23 w) (Tryz.sizeOf32 w) rfl rfl hna1 hqa1) (p_fa 0 Tryz.runUnderlying32 Tryz.sizeOf3 rfl rfl rfl rfl (p_hoist rfl rfl rfl rfl (fun w hh => v_ldE RSp 0 h45 (Tryz.isAgg3 w) rfl (hh.seg 1 rfl) rfl rfl) (p_fa 1 Tryz.runUnderlying38 Tryz.sizeOf23 rfl rfl rfl rfl (p_lc 0 Tryz.isAgg23 rfl rfl rfl rfl rfl (p_mv rfl rfl rfl ?_)))))
       obtain ⟨t85, h46, hm⟩ := bindO hm
       refine p_free rfl rfl rfl rfl (fun w _ => v_ixR h46 (Tryz.runUnderlying23 w) (Tryz.sizeOf32 w) rfl rfl hna1 hqa1) (p_fa 1 Tryz.runUnderlying32 Tryz.sizeOf3 rfl rfl rfl rfl (p_hoist rfl rfl rfl rfl (fun w hh => v_ldE RSp 1 h46 (Tryz.isAgg3 w) rfl (hh.seg 1 rfl) rfl rfl) (p_one rfl ?_)))
       obtain ⟨t88, h47, hm⟩ := bindO hm
       refine g_callH [] [] rfl rfl rfl rfl rfl rfl rfl Tryz.call50 (fun w hh => c_laurelref09_off j_1.sum7 t79.lo t85.hi w (HV.callee (S0 := []) (vs0 := []) hh roN)  h47) (fun l_5 h48 => ?_)
       refine p_next (fun w hh => hh) (p_done (g_n_then ?_))
       refine g_cond rfl (fun h49 => ?_) (fun h49 => ?_)
       ·replace hm := ifT (h49) hm
        refine g_sr (g_as rfl rfl (g_nt (g_ret (g_r_blk (g_r_then (g_r_then (g_r_blk ?_)))))))
        obtain rfl := sj hm
        have hbo := h9 _ rfl
        subst hbo
        refine g_r_then ?_
        replace hm := ocR h6
        refine g_r_then ?_
        obtain rfl := sj hm
        refine g_done rfl (fun w hh => (.tmp rfl .nil)) (fun w hh => ⟨(), rfl, trivial, hh.se [] [] 3 rfl rfl rfl rfl⟩)
       ·replace hm := ifN h49 hm
        refine g_skip (g_n_blk (g_n_then (g_region (g_mv rfl rfl ?_))))
        obtain ⟨t27, h50, hm⟩ := bindO hm
        refine g_ac h50 rfl rfl rfl (g_as rfl rfl (g_nil ?_))
        obtain rfl := sj hm
        refine g_n_then ?_
        exact g_again' _ () rfl (h19) (sE rfl) (fun w hh => hh)
    ·replace hm := ifE h10 hm
     refine g_exit (g_x_then (g_x_then (g_x_blk ?_)))
     obtain rfl := sj hm
     have hbo := h9 _ rfl
     subst hbo
     exact g_leaf s.t21 (⟨rfl, h8⟩) (sE rfl) (fun w hh => hh)
   ·intro j hj
    obtain ⟨h51, h7⟩ := hj
    subst h51
    replace hm := ocL h6
    refine g_n_then (g_seq (g_sr (g_as rfl rfl (g_nt ?_))))
    obtain ⟨o_3, h52, h53⟩ := bindO hm
    refine g_cut (ι := Unit) (fun j_2 => o_3 = .inl j_2) (fun j_2 => []) (fun j_2 => [(b, .cells #[.slice qa0 na0 ca0, .slice qa1 na1 ca1] 38 (0, 0))]) (fun j_2 => []) ?_ ?_
    ·replace hm := h52
     refine g_block ?_
     refine g_loopF (ι := Unit) hm (fun s_2 l_6 => True) (fun s_2 l_6 => [(2, ptr b 0), (5, slv L.q L.n L.cap), (10, .int .i64 s_2)]) (fun s_2 l_6 => [(b, .cells #[.slice qa0 na0 ca0, .slice qa1 na1 ca1] 38 (0, 0))]) (fun s_2 l_6 => [⟨3, RI.enc j, L.sp, L.q, []⟩]) () (trivial) (sE rfl) (fun w hh => hh) (fun s_2 l_6 r_3 hpl hm h54 => ?_)
     unfold m_laurelref09_Fits_L2 at hm
     refine g_seq (g_sr (g_mv rfl rfl (g_mv rfl rfl (g_val rfl rfl rfl (fun w _ => v_lenN (vlen RI h7 rfl) (Tryz.runUnderlying26 w) rfl) (g_ls rfl rfl rfl (g_nt ?_))))))
     refine g_cond rfl (fun h55 => ?_) (fun h55 => ?_)
     ·replace hm := ifD h55 hm
      refine g_skip (g_n_then (g_seq (g_block (g_sr (g_la [_, _] 0 Tryz.isAgg38 Tryz.sizeOf38 rfl rfl rfl rfl (g_mv rfl rfl ?_))))))
      obtain ⟨t97, h56, hm⟩ := bindO hm
      refine g_callH [] [] rfl rfl rfl rfl rfl rfl rfl Tryz.call35 (fun w hh => c_laurelref09_Gone s0 s_2 qa0 na0 ca0 qa1 na1 ca1 w (HV.callee (S0 := []) (vs0 := []) hh (roR hh 0 rfl (roR hh 1 rfl roN))) hna0 hqa0 hla0 hna1 hqa1 hla1 h56) (fun l_7 h57 => ?_)
      refine g_allocV (fun w => Tryz.zeroValue32 w) rfl (fun b_1 h58 => ?_)
      refine g_stSA (us := #[_, _]) (cs' := [_, _]) (S' := [_, _]) 0 (fun w => Tryz.sizeOf32 w) rfl rfl rfl rfl rfl rfl rfl (g_nt (g_seq ?_))
      refine g_draw none (.free 0 (.free 1 (.free 2 (.hoist 3 (.free 4 (.hoist 5 (.free 6 (.hoist 7 (.one 8 .done))))))))) _ rfl (by decide +kernel) (fun w k hh => hh.draw k) (fun w hh => hh) ?_
      refine p_mv rfl rfl rfl (p_mv rfl rfl rfl ?_)
      obtain ⟨t100, h59, hm⟩ := bindO hm
      refine p_free rfl rfl rfl rfl (fun w _ => v_ixA h59 (Tryz.runUnderlying26 w) (Tryz.sizeOf3 w) rfl rfl (vlen RI h7 rfl) (vne h7)) (p_hoist rfl rfl rfl rfl (fun w hh => v_ldE RI 0 h59 (Tryz.isAgg3 w) rfl (hh.vseg 0 rfl h7) rfl (Nat.add_zero _).symm) (p_fa 0 Tryz.runUnderlying32 Tryz.sizeOf3 rfl rfl rfl rfl (p_lc 0 Tryz.isAgg3 rfl rfl rfl rfl rfl (p_fa 1 Tryz.runUnderlying32 Tryz.sizeOf3 rfl rfl rfl rfl (p_lc 0 Tryz.isAgg3 rfl rfl rfl rfl rfl (p_one rfl ?_))))))
      obtain ⟨t106, h60, hm⟩ := bindO hm
      refine g_callH [] [] rfl rfl rfl rfl rfl rfl rfl Tryz.call50 (fun w hh => c_laurelref09_off t100 t97.lo t97.hi w (HV.callee (S0 := []) (vs0 := []) hh roN)  h60) (fun l_8 h61 => ?_)
      refine p_next (fun w hh => hh) (p_done (g_n_then ?_))
      refine g_cond rfl (fun h62 => ?_) (fun h62 => ?_)
      ·replace hm := ifT (h62) hm
       refine g_sr (g_as rfl rfl (g_nt (g_ret (g_r_blk (g_r_then (g_r_then (g_r_blk ?_)))))))
       obtain rfl := sj hm
       have hbo := h54 _ rfl
       subst hbo
       refine g_r_then ?_
       replace hm := ocR h53
       refine g_r_then ?_
       obtain rfl := sj hm
       refine g_done rfl (fun w hh => (.tmp rfl .nil)) (fun w hh => ⟨(), rfl, trivial, hh.se [] [] 3 rfl rfl rfl rfl⟩)
      ·replace hm := ifN h62 hm
       refine g_skip (g_n_blk (g_n_then (g_region (g_mv rfl rfl ?_))))
       obtain ⟨t94, h63, hm⟩ := bindO hm
       refine g_ac h63 rfl rfl rfl (g_as rfl rfl (g_nil ?_))
       obtain rfl := sj hm
       refine g_n_then ?_
       exact g_again' _ () rfl (trivial) (sE rfl) (hsE [1] [0] 0 rfl rfl rfl rfl)
     ·replace hm := ifE h55 hm
      refine g_exit (g_x_then (g_x_then (g_x_blk ?_)))
      obtain rfl := sj hm
      have hbo := h54 _ rfl
      subst hbo
      exact g_leaf () (rfl) (.nil) (hsE [0] [] 0 rfl rfl rfl rfl)
    ·intro j_2 hj
     have h64 := hj
     subst h64
     replace hm := ocL h53
     refine g_n_then (g_sr (g_as rfl rfl (g_nt (g_ret ?_))))
     obtain rfl := sj hm
     refine g_done rfl (fun w hh => (.tmp rfl .nil)) (fun w hh => ⟨(), rfl, trivial, hh.se [] [] 3 rfl rfl rfl rfl⟩)
end Go.Proofs.Ws

namespace Go.Proofs.Ws
set_option maxHeartbeats 4000000
set_option maxRecDepth 100000
open Go Go.Fw Go.Gx Go.Sp
set_option linter.unusedVariables false
def m_laurelkit_Dup_int (l0 : (List Int)) : Option (List Int) :=
 (makec 8 0 0 (l0.length : Int)).bind fun t5 =>
 (appc 8 t5 l0).bind fun t7 =>
 some t7
theorem c_laurelkit_Dup_int (l0 : (List Int)) (qa0 : Option Addr) (na0 ca0 : Nat) (w : World) (hw : HV w (keys [] []) [] [] [(aB qa0, aO qa0, RI.enc l0)] w) (hna0 : l0.length = na0) (hqa0 : AOK na0 qa0) (hla0 : na0 ≤ ca0) {res : (List Int)} (hm : m_laurelkit_Dup_int l0 = some res) :
    Calls Tryz.prog 11 #[.slice qa0 na0 ca0] w (fun en w' => ∃ l : VL, en = .returned (slv l.q l.n l.cap) ∧ (VOK 1 l.n l.cap (RI.enc res) l.sp l.q) ∧ HV w (keys [] []) [] [⟨3, RI.enc res, l.sp, l.q, []⟩] [] w') := by
  unfold m_laurelkit_Dup_int at hm
  refine g_en Tryz.func11 rfl Tryz.ntmps11 rfl (e := [(0, _)]) rfl hw (g_sr (g_val rfl rfl rfl (fun _ _ => v_nilS rfl) (g_nx (g_mv rfl rfl (g_val rfl rfl rfl (fun w _ => v_lenR hna0 (Tryz.runUnderlying26 w) rfl) ?_)))))
  obtain ⟨t5, h2, hm⟩ := bindO hm
  refine g_vmake RI 0 h2 Tryz.underlying26 gxinf3 rfl rfl rfl rfl rfl (fun L h3 => ?_)
  refine g_mv rfl rfl ?_
  obtain ⟨t7, h4, hm⟩ := bindO hm
  refine g_vapp RI 0 h4 Tryz.underlying26 gxinf3 rfl rfl rfl rfl rfl h3 rfl rfl hna0 hqa0 (fun w hh => (hh.seg 0 rfl)) rfl (fun L_1 h5 h5n => ?_)
  refine g_se (S' := []) (vs' := [_]) [] [0] 0 rfl rfl rfl rfl (g_as rfl rfl (g_nt (g_ret ?_)))
  obtain rfl := sj hm
  refine g_done rfl (fun w hh => (.tmp rfl .nil)) (fun w hh => ⟨L_1, rfl, h5, hh.se [] [0] 1 rfl rfl rfl rfl⟩)
def m_slices_Equal_intint_L0 (s10 : (List Int)) (s21 : (List Int)) (s : Int) : Option (Int ⊕ (Unit ⊕ Bool)) :=
 if s < (s10.length : Int) then
 ((ix s10 s).bind fun t18 =>
 (ix s21 s).bind fun t22 =>
 if t18 = t22 then
 ((addc s 1).bind fun t25 =>
 some (.inl t25)) else
 (some (.inr (.inr false)))) else
 (some (.inr (.inl ())))
def m_slices_Equal_intint (s10 : (List Int)) (s21 : (List Int)) : Option Bool :=
 if (s10.length : Int) = (s21.length : Int) then
 ((iterM FU (m_slices_Equal_intint_L0 s10 s21) 0).bind fun o =>
 oc o (fun j => some true) (fun r_1 => some r_1)) else
 (some false)
theorem c_slices_Equal_intint (s10 : (List Int)) (s21 : (List Int)) (qa0 : Option Addr) (na0 ca0 : Nat) (qa1 : Option Addr) (na1 ca1 : Nat) (w : World) (hw : HV w (keys [] []) [] [] [(aB qa0, aO qa0, RI.enc s10), (aB qa1, aO qa1, RI.enc s21)] w) (hna0 : s10.length = na0) (hqa0 : AOK na0 qa0) (hla0 : na0 ≤ ca0) (hna1 : s21.length = na1) (hqa1 : AOK na1 qa1) (hla1 : na1 ≤ ca1) {res : Bool} (hm : m_slices_Equal_intint s10 s21 = some res) :
    Calls Tryz.prog 78 #[.slice qa0 na0 ca0, .slice qa1 na1 ca1] w (fun en w' => ∃ l : Unit, en = .returned (.bool res) ∧ (True) ∧ HV w (keys [] []) [] [] [] w') := by
  unfold m_slices_Equal_intint at hm
  refine g_en Tryz.func78 rfl Tryz.ntmps78 rfl (e := [(0, _), (1, _)]) rfl hw (g_sr (g_as rfl rfl (g_nt (g_seq (g_sr (g_mv rfl rfl (g_val rfl rfl rfl (fun w _ => v_lenR hna0 (Tryz.runUnderlying26 w) rfl) ?_)))))))
  refine g_mv rfl rfl (g_val rfl rfl rfl (fun w _ => v_lenR hna1 (Tryz.runUnderlying26 w) rfl) (g_val rfl rfl rfl (fun _ _ => v_neq rfl rfl) (g_nt ?_)))
  refine g_cond rfl (fun h1 => ?_) (fun h1 => ?_)
  ·replace hm := ifF (of_ndec_true h1) hm
   refine g_sr (g_as rfl rfl (g_nt (g_ret (g_r_then ?_))))
   obtain rfl := sj hm
   refine g_done rfl (fun w hh => (.tmp rfl .nil)) (fun w hh => ⟨(), rfl, trivial, hh.se [] [] 2 rfl rfl rfl rfl⟩)
  ·replace hm := ifT (of_ndec_false h1) hm
   refine g_skip (g_n_then (g_seq (g_sr (g_mv rfl rfl (g_val rfl rfl rfl (fun w _ => v_lenR hna0 (Tryz.runUnderlying26 w) rfl) (g_mv rfl rfl (g_nt ?_)))))))
   obtain ⟨o, h2, h3⟩ := bindO hm
   refine g_cut (ι := Unit) (fun j => o = .inl j) (fun j => []) (fun j => []) (fun j => []) ?_ ?_
   ·replace hm := h2
    refine g_block ?_
    refine g_loopF (ι := Unit) hm (fun s l => True) (fun s l => [(0, .slice qa0 na0 ca0), (1, .slice qa1 na1 ca1), (12, .int .i64 (s10.length : Int)), (13, .int .i64 s)]) (fun s l => []) (fun s l => []) () (trivial) (sE rfl) (fun w hh => hh) (fun s l r hpl hm h4 => ?_)
    unfold m_slices_Equal_intint_L0 at hm
    refine g_sr (g_ls rfl rfl rfl (g_nt (g_seq ?_)))
    refine g_cond rfl (fun h5 => ?_) (fun h5 => ?_)
    ·replace hm := ifD h5 hm
     refine g_skip (g_n_then (g_seq (g_block (g_sr (g_mv rfl rfl (g_as rfl rfl (g_nt ?_)))))))
     refine g_seq ?_
     refine g_draw none (.free 0 (.free 1 (.free 2 (.hoist 3 (.free 4 (.free 5 (.free 6 (.hoist 7 (.free 8 .done))))))))) _ rfl (by decide +kernel) (fun w k hh => hh.draw k) (fun w hh => hh) ?_
     refine p_mv rfl rfl rfl (p_mv rfl rfl rfl ?_)
     obtain ⟨t18, h6, hm⟩ := bindO hm
     refine p_free rfl rfl rfl rfl (fun w _ => v_ixR h6 (Tryz.runUnderlying26 w) (Tryz.sizeOf3 w) rfl rfl hna0 hqa0) (p_hoist rfl rfl rfl rfl (fun w hh => v_ldE RI 0 h6 (Tryz.isAgg3 w) rfl (hh.seg 0 rfl) rfl (Nat.add_zero _).symm) (p_mv rfl rfl rfl (p_mv rfl rfl rfl ?_)))
     obtain ⟨t22, h7, hm⟩ := bindO hm
     refine p_free rfl rfl rfl rfl (fun w _ => v_ixR h7 (Tryz.runUnderlying26 w) (Tryz.sizeOf3 w) rfl rfl hna1 hqa1) (p_hoist rfl rfl rfl rfl (fun w hh => v_ldE RI 0 h7 (Tryz.isAgg3 w) rfl (hh.seg 1 rfl) rfl (Nat.add_zero _).symm) (p_free rfl rfl rfl rfl (fun _ _ => v_neq rfl rfl) (p_done (g_n_then ?_))))
     refine g_cond rfl (fun h8 => ?_) (fun h8 => ?_)
     ·replace hm := ifF (of_ndec_true h8) hm
      refine g_sr (g_as rfl rfl (g_nt (g_ret (g_r_blk (g_r_then (g_r_then (g_r_blk ?_)))))))
      obtain rfl := sj hm
      have hbo := h4 _ rfl
      subst hbo
      refine g_r_then ?_
      replace hm := ocR h3
      refine g_r_then ?_
      obtain rfl := sj hm
      refine g_done rfl (fun w hh => (.tmp rfl .nil)) (fun w hh => ⟨(), rfl, trivial, hh.se [] [] 2 rfl rfl rfl rfl⟩)
     ·replace hm := ifT (of_ndec_false h8) hm
      refine g_skip (g_n_blk (g_n_then (g_region ?_)))
      obtain ⟨t25, h9, hm⟩ := bindO hm
      refine g_ac h9 rfl rfl rfl (g_mv rfl rfl (g_nil ?_))
      obtain rfl := sj hm
      refine g_n_then ?_
      exact g_again' _ () rfl (trivial) (sE rfl) (fun w hh => hh)
    ·replace hm := ifE h5 hm
     refine g_exit (g_x_then (g_x_then (g_x_blk ?_)))
     obtain rfl := sj hm
     have hbo := h4 _ rfl
     subst hbo
     exact g_leaf () (rfl) (.nil) (fun w hh => hh)
   ·intro j hj
    have h10 := hj
    subst h10
    replace hm := ocL h3
    refine g_n_then (g_sr (g_as rfl rfl (g_nt (g_ret ?_))))
    obtain rfl := sj hm
    refine g_done rfl (fun w hh => (.tmp rfl .nil)) (fun w hh => ⟨(), rfl, trivial, hh.se [] [] 2 rfl rfl rfl rfl⟩)
def m_laurelkit_Eq_int (a0 : (List Int)) (b1 : (List Int)) : Option Bool :=
 (m_slices_Equal_intint a0 b1).bind fun t7 =>
 some t7
theorem c_laurelkit_Eq_int (a0 : (List Int)) (b1 : (List Int)) (qa0 : Option Addr) (na0 ca0 : Nat) (qa1 : Option Addr) (na1 ca1 : Nat) (w : World) (hw : HV w (keys [] []) [] [] [(aB qa0, aO qa0, RI.enc a0), (aB qa1, aO qa1, RI.enc b1)] w) (hna0 : a0.length = na0) (hqa0 : AOK na0 qa0) (hla0 : na0 ≤ ca0) (hna1 : b1.length = na1) (hqa1 : AOK na1 qa1) (hla1 : na1 ≤ ca1) {res : Bool} (hm : m_laurelkit_Eq_int a0 b1 = some res) :
    Calls Tryz.prog 22 #[.slice qa0 na0 ca0, .slice qa1 na1 ca1] w (fun en w' => ∃ l : Unit, en = .returned (.bool res) ∧ (True) ∧ HV w (keys [] []) [] [] [] w') := by
  unfold m_laurelkit_Eq_int at hm
  refine g_en Tryz.func22 rfl Tryz.ntmps22 rfl (e := [(0, _), (1, _)]) rfl hw (g_sr (g_as rfl rfl (g_nx (g_mv rfl rfl (g_mv rfl rfl ?_)))))
  obtain ⟨t7, h1, hm⟩ := bindO hm
  refine g_callH [] [] rfl rfl rfl rfl rfl rfl rfl Tryz.call78 (fun w hh => c_slices_Equal_intint a0 b1 qa0 na0 ca0 qa1 na1 ca1 w (HV.callee (S0 := []) (vs0 := []) hh (roR hh 0 rfl (roR hh 1 rfl roN))) hna0 hqa0 hla0 hna1 hqa1 hla1 h1) (fun l h2 => ?_)
  refine g_as rfl rfl (g_nt (g_ret ?_))
  obtain rfl := sj hm
  refine g_done rfl (fun w hh => (.tmp rfl .nil)) (fun w hh => ⟨(), rfl, trivial, hh.se [] [] 2 rfl rfl rfl rfl⟩)
end Go.Proofs.Ws

