/- What the functions that the law StripChecks reaches come to, and why it holds: part 4. -/
import Derived.Test.YtnkphlgohnlooaaGreatStripChecks3
namespace Go.Proofs.Ws
set_option maxHeartbeats 4000000
set_option maxRecDepth 100000
open Go Go.Fw Go.Gx Go.Sp
set_option linter.unusedVariables false
structure m_strip_net_cost_S0 where
  sum3 : Int
  t11 : Int
def m_strip_net_cost_L0 (n00 : (List Wy)) (s : m_strip_net_cost_S0) : Option (m_strip_net_cost_S0 ⊕ Int) :=
 if s.t11 < (n00.length : Int) then
 ((ix n00 s.t11).bind fun t13 =>
 (mulc t13.cost t13.goes).bind fun t20 =>
 (addc s.sum3 t20).bind fun t21 =>
 (addc s.t11 1).bind fun t22 =>
 some (.inl (⟨t21, t22⟩ : m_strip_net_cost_S0))) else
 (some (.inr s.sum3))
def m_strip_net_cost (n00 : (List Wy)) : Option Int :=
 (iterM FU (m_strip_net_cost_L0 n00) (⟨0, 0⟩ : m_strip_net_cost_S0)).bind fun o =>
 some o
theorem c_strip_net_cost (n00 : (List Wy)) (rb : Nat) (qa1 : Option Addr) (na1 ca1 : Nat) (w : World) (hw : HV w (keys [] []) [] [] [(rb, 0, [.slice qa1 na1 ca1]), (aB qa1, aO qa1, RWay.enc n00)] w)  (hna1 : n00.length = na1) (hqa1 : AOK na1 qa1) (hla1 : na1 ≤ ca1) {res : Int} (hm : m_strip_net_cost n00 = some res) :
    Calls Tryz.prog 100 #[ptr rb 0] w (fun en w' => ∃ l : Unit, en = .returned (.int .i64 res) ∧ (True) ∧ HV w (keys [] []) [] [] [] w') := by
  unfold m_strip_net_cost at hm
  refine g_en Tryz.func100 rfl Tryz.ntmps100 rfl (e := [(0, _)]) rfl hw (g_sr (g_as rfl rfl (g_nx (g_as rfl rfl (g_nt (g_seq (g_sr ?_)))))))
  refine g_mv rfl rfl (g_val rfl rfl rfl (fun _ _ => v_nilCheck rfl) (g_fa 0 Tryz.runUnderlying154 rfl Tryz.sizeOf152 rfl rfl (g_val rfl rfl rfl (fun w hh => v_load (Tryz.isAgg152 w) rfl (segCell (hh.seg 0 rfl) 0 rfl)) (g_val rfl rfl rfl (fun w _ => v_lenR hna1 (Tryz.runUnderlying152 w) rfl) (g_mv rfl rfl (g_nt ?_))))))
  obtain ⟨o, h1, h2⟩ := bindO hm
  refine g_cut (ι := Unit) (fun l => True) (fun l => [(3, .int .i64 o)]) (fun l => []) (fun l => []) ?_ ?_
  ·replace hm := h1
   refine g_block ?_
   refine g_loopF (ι := Unit) hm (fun s l_1 => True) (fun s l_1 => [(3, .int .i64 s.sum3), (9, .slice qa1 na1 ca1), (10, .int .i64 (n00.length : Int)), (11, .int .i64 s.t11)]) (fun s l_1 => []) (fun s l_1 => []) () (trivial) (sE rfl) (fun w hh => hh) (fun s l_1 r hpl hm h3 => ?_)
   unfold m_strip_net_cost_L0 at hm
   refine g_sr (g_ls rfl rfl rfl (g_nt (g_seq ?_)))
   refine g_cond rfl (fun h4 => ?_) (fun h4 => ?_)
   ·replace hm := ifD h4 hm
    refine g_skip (g_n_then (g_seq (g_block (g_sr ?_))))
    obtain ⟨t13, h5, hm⟩ := bindO hm
    refine g_val rfl rfl rfl (fun w _ => v_ixR h5 (Tryz.runUnderlying152 w) (Tryz.sizeOf156 w) rfl rfl hna1 hqa1) ?_
    refine g_val rfl rfl rfl (fun w hh => v_ldEA RWay 0 [.int .i64 t13.fr, .int .i64 t13.dst, .int .i64 t13.lo, .int .i64 t13.hi, .int .i64 t13.cost, .int .i64 t13.goes] h5 (Tryz.isAgg156 w) (Tryz.sizeOf156 w) rfl (hh.seg 1 rfl) rfl (Nat.add_zero _).symm) ?_
    refine g_allocV (fun w => Tryz.zeroValue156 w) rfl (fun b h6 => ?_)
    refine g_stSA (us := #[_, _, _, _, _, _]) (cs' := [_, _, _, _, _, _]) (S' := [_]) 0 (fun w => Tryz.sizeOf156 w) rfl rfl rfl rfl rfl rfl rfl (g_nt (g_region (g_mv rfl rfl (g_fa 4 Tryz.runUnderlying156 rfl Tryz.sizeOf3 rfl rfl (g_lc 0 Tryz.isAgg3 rfl rfl rfl rfl (g_fa 5 Tryz.runUnderlying156 rfl Tryz.sizeOf3 rfl rfl (g_lc 0 Tryz.isAgg3 rfl rfl rfl rfl ?_)))))))
    obtain ⟨t20, h7, hm⟩ := bindO hm
    refine g_val rfl rfl rfl (fun _ _ => v_mulc h7 rfl rfl) ?_
    obtain ⟨t21, h8, hm⟩ := bindO hm
    refine g_ac h8 rfl rfl rfl (g_as rfl rfl (g_nil (g_n_blk (g_n_then (g_region ?_)))))
    obtain ⟨t22, h9, hm⟩ := bindO hm
    refine g_ac h9 rfl rfl rfl (g_mv rfl rfl (g_nil ?_))
    obtain rfl := sj hm
    refine g_n_then ?_
    exact g_again' _ () rfl (trivial) (sE rfl) (hsE [] [] 0 rfl rfl rfl rfl)
   ·replace hm := ifE h4 hm
    refine g_exit (g_x_then (g_x_then (g_x_blk ?_)))
    obtain rfl := sj hm
    have hbo := h3 _ rfl
    subst hbo
    exact g_leaf () (trivial) (sE rfl) (fun w hh => hh)
  ·intro l hj
   replace hm := h2
   refine g_n_then (g_sr (g_mv rfl rfl (g_as rfl rfl (g_nt (g_ret ?_)))))
   obtain rfl := sj hm
   refine g_done rfl (fun w hh => (.tmp rfl .nil)) (fun w hh => ⟨(), rfl, trivial, hh.se [] [] 2 rfl rfl rfl rfl⟩)
structure m_strip_Least_R where
  r1 : Int
  r2 : Int
  r0 : (List (List Int))
def m_strip_Least (s0 : Scalps) : Option m_strip_Least_R :=
 (m_strip_opened s0).bind fun t11 =>
 oc t11 (fun t11a => some (⟨0, t11a, ([] : List (List Int))⟩ : m_strip_Least_R)) (fun t11b => (m_strip_theft s0.strips s0.carried).bind fun t20 =>
 (m_strip_desk_filled_1 s0.strips s0.carried t11b (fun p : Pair => m_strip_some_1 p s0.strips s0.carried)).bind fun t21 =>
 oc t21 (fun t21a => some (⟨0, 7, ([] : List (List Int))⟩ : m_strip_Least_R)) (fun t21b => (m_strip_net_shares t21b.t12 s0.strips s0.carried).bind fun t28 =>
 (m_strip_net_cost t21b.t12).bind fun t30 =>
 some (⟨t30, 0, t28⟩ : m_strip_Least_R)))
theorem c_strip_Least (s0 : Scalps) (qa0 : Option Addr) (na0 ca0 : Nat) (qa1 : Option Addr) (na1 ca1 : Nat) (w : World) (hw : HV w (keys [] []) [] [] [(aB qa0, aO qa0, RSt.enc s0.strips), (aB qa1, aO qa1, RSp.enc s0.carried)] w) (hna0 : s0.strips.length = na0) (hqa0 : AOK na0 qa0) (hla0 : na0 ≤ ca0) (hna1 : s0.carried.length = na1) (hqa1 : AOK na1 qa1) (hla1 : na1 ≤ ca1) {res : m_strip_Least_R} (hm : m_strip_Least s0 = some res) :
    Calls Tryz.prog 45 #[.agg #[.slice qa0 na0 ca0, .slice qa1 na1 ca1]] w (fun en w' => ∃ l : DL, en = .returned (.tuple #[slv l.v.q l.v.n l.v.cap, .int .i64 res.r1, .int .i64 res.r2]) ∧ (VOK 1 l.v.n l.v.cap (RwH.enc l.rs) l.v.sp l.v.q ∧ DOK RI res.r0 l.rs) ∧ HV w (keys [] []) [] [⟨26, RwH.enc l.rs, l.v.sp, l.v.q, dbl 3 RI res.r0 l.rs⟩] [] w') := by
  unfold m_strip_Least at hm
  refine g_en Tryz.func45 rfl Tryz.ntmps45 rfl (e := [(0, _)]) rfl hw (g_sr ?_)
  refine g_boxV rfl rfl (fun b h3 => ?_)
  refine g_val rfl rfl rfl (fun _ _ => v_nilS rfl) (g_as rfl rfl (g_as rfl rfl (g_nx (g_la [_, _] 0 Tryz.isAgg25 Tryz.sizeOf25 rfl rfl rfl rfl ?_))))
  obtain ⟨t11, h4, hm⟩ := bindO hm
  rcases t11 with t11a | t11b
  ·replace hm := ocL hm
   refine g_callH [] [] rfl rfl rfl rfl rfl rfl rfl Tryz.call57 (fun w hh => c_strip_opened s0 qa0 na0 ca0 qa1 na1 ca1 w (HV.callee (S0 := []) (vs0 := []) hh (roR hh 0 rfl (roR hh 1 rfl roN))) hna0 hqa0 hla0 hna1 hqa1 hla1 h4) (fun l h5 => ?_)
   have h6 := h5
   refine g_mv rfl rfl (g_xt rfl rfl rfl (g_xt rfl rfl rfl (g_as rfl rfl (g_as rfl rfl (g_nt (g_seq (g_sr ?_)))))))
   refine g_mv rfl rfl (g_val rfl rfl rfl (fun _ _ => v_neqT h6 rfl rfl) (g_nt (g_condT rfl rfl (g_sr (g_mv rfl rfl (g_val rfl rfl rfl (fun _ _ => v_nilS rfl) (g_as rfl rfl ?_)))))))
   refine g_as rfl rfl (g_nt (g_ret (g_r_then (g_vnil 26 ?_))))
   obtain rfl := sj hm
   refine g_done rfl (fun w hh => (.tmp rfl (.tmp rfl (.tmp rfl .nil)))) (fun w hh => ⟨⟨⟨none, 0, 0, []⟩, []⟩, rfl, ⟨VOK.nil, DOK.nil⟩, hh.se [] [0] 2 rfl rfl rfl rfl⟩)
  ·replace hm := ocR hm
   refine g_callH [] [] rfl rfl rfl rfl rfl rfl rfl Tryz.call57 (fun w hh => c_strip_opened s0 qa0 na0 ca0 qa1 na1 ca1 w (HV.callee (S0 := []) (vs0 := []) hh (roR hh 0 rfl (roR hh 1 rfl roN))) hna0 hqa0 hla0 hna1 hqa1 hla1 h4) (fun l_1 h7 => ?_)
   refine g_se (S' := [_, _, _]) (vs' := []) [0, 1, 2] [] 0 rfl rfl rfl rfl (g_mv rfl rfl (g_xt rfl rfl rfl (g_xt rfl rfl rfl (g_as rfl rfl (g_as rfl rfl (g_nt (g_seq ?_)))))))
   refine g_sr (g_mv rfl rfl (g_val rfl rfl rfl (fun _ _ => v_neq rfl rfl) (g_nt (g_condF rfl rfl (g_skip (g_n_then (g_sr ?_)))))))
   refine g_mv rfl rfl (g_mv rfl rfl ?_)
   obtain ⟨t20, h8, hm⟩ := bindO hm
   refine g_callH [] [] rfl rfl rfl rfl rfl rfl rfl Tryz.call59 (fun w hh => c_strip_theft s0.strips s0.carried l_1.1 qa0 na0 ca0 qa1 na1 ca1 (.map (some l_1.2)) w (HV.callee (S0 := []) (vs0 := []) hh (roC (bsep (hh.bseg 0 rfl)) (roR hh 0 rfl (roR hh 1 rfl roN)))) hna0 hqa0 hla0 hna1 hqa1 hla1 h8) (fun l_2 h9 => ?_)
   refine g_se (S' := [_, _, _, _]) (vs' := []) [0, 1, 2, 3] [] 0 rfl rfl rfl rfl ?_
   obtain ⟨t21, h10, hm⟩ := bindO hm
   rcases t21 with t21a | t21b
   ·replace hm := ocL hm
    refine g_se (S' := [_, _, _, _]) (vs' := []) [2, 0, 1, 3] [] 0 rfl rfl rfl rfl ?_
    refine g_callH [_] [] rfl rfl rfl rfl rfl rfl rfl Tryz.call58 (fun w hh => c_strip_desk_filled_1 s0.strips s0.carried t11b (fun p : Pair => m_strip_some_1 p s0.strips s0.carried) l_1.1 qa0 na0 ca0 qa1 na1 ca1 l_1.2 120 (#[]) (#[ptr l_2 0]) ([(l_2, 0, [.func (.func 83) #[ptr l_1.1 0] #[]]), (l_1.1, 0, [.slice qa0 na0 ca0, .slice qa1 na1 ca1, .map (some l_1.2)]), (aB qa0, aO qa0, RSt.enc s0.strips), (aB qa1, aO qa1, RSp.enc s0.carried)]) w (HV.callee (S0 := [_]) (vs0 := []) hh (roA (roC (hh.bsepH 1 rfl) (roR hh 0 rfl (roR hh 1 rfl roN))) (roC (hh.bsepH 0 rfl) (roC (hh.bsepH 1 rfl) (roR hh 0 rfl (roR hh 1 rfl roN)))))) hna0 hqa0 hla0 hna1 hqa1 hla1 (⟨fun a w => Tryz.call120 a w, (fun p r hr w hT => clRet (c_strip_some_1 p s0.strips s0.carried l_2 l_1.1 qa0 na0 ca0 qa1 na1 ca1 (.map (some l_1.2)) w (HVstart hT) hna0 hqa0 hla0 hna1 hqa1 hla1 hr))⟩ : ClOK Tryz.prog 120 #[] #[ptr l_2 0] ([(l_2, 0, [.func (.func 83) #[ptr l_1.1 0] #[]]), (l_1.1, 0, [.slice qa0 na0 ca0, .slice qa1 na1 ca1, .map (some l_1.2)]), (aB qa0, aO qa0, RSt.enc s0.strips), (aB qa1, aO qa1, RSp.enc s0.carried)]) (fun x : Pair => [.agg #[.int .i64 x.tenant, .int .i64 x.strip]]) (fun x : Int => .int .i64 x) (fun p : Pair => m_strip_some_1 p s0.strips s0.carried)) h10) (fun l_3 h11 => ?_)
    have h12 := h11
    refine g_se (S' := [_, _, _, _]) (vs' := [_]) [0, 1, 2, 3] [0] 0 rfl rfl rfl rfl (g_mv rfl rfl (g_xt rfl rfl rfl (g_xt rfl rfl rfl ?_)))
    refine g_allocV (fun w => Tryz.zeroValue30 w) rfl (fun b_1 h13 => ?_)
    refine g_as rfl rfl (g_stSA (us := #[_, _]) (cs' := [_, _]) (S' := [_, _, _, _, _]) 0 (fun w => Tryz.sizeOf30 w) rfl rfl rfl rfl rfl rfl rfl (g_nt (g_seq (g_sr (g_mv rfl rfl (g_val rfl rfl rfl (fun w _ => v_eqlPtr (Tryz.runUnderlying110 w) rfl rfl) (g_nt ?_)))))))
    refine g_condT rfl rfl (g_sr (g_val rfl rfl rfl (fun _ _ => v_nilS rfl) (g_as rfl rfl (g_as rfl rfl (g_nt (g_ret (g_r_then ?_)))))))
    refine g_vnil 26 ?_
    obtain rfl := sj hm
    refine g_done rfl (fun w hh => (.tmp rfl (.tmp rfl (.tmp rfl .nil)))) (fun w hh => ⟨⟨⟨none, 0, 0, []⟩, []⟩, rfl, ⟨VOK.nil, DOK.nil⟩, hh.se [] [0] 2 rfl rfl rfl rfl⟩)
   ·replace hm := ocR hm
    refine g_se (S' := [_, _, _, _]) (vs' := []) [2, 0, 1, 3] [] 0 rfl rfl rfl rfl ?_
    refine g_callH [_] [] rfl rfl rfl rfl rfl rfl rfl Tryz.call58 (fun w hh => c_strip_desk_filled_1 s0.strips s0.carried t11b (fun p : Pair => m_strip_some_1 p s0.strips s0.carried) l_1.1 qa0 na0 ca0 qa1 na1 ca1 l_1.2 120 (#[]) (#[ptr l_2 0]) ([(l_2, 0, [.func (.func 83) #[ptr l_1.1 0] #[]]), (l_1.1, 0, [.slice qa0 na0 ca0, .slice qa1 na1 ca1, .map (some l_1.2)]), (aB qa0, aO qa0, RSt.enc s0.strips), (aB qa1, aO qa1, RSp.enc s0.carried)]) w (HV.callee (S0 := [_]) (vs0 := []) hh (roA (roC (hh.bsepH 1 rfl) (roR hh 0 rfl (roR hh 1 rfl roN))) (roC (hh.bsepH 0 rfl) (roC (hh.bsepH 1 rfl) (roR hh 0 rfl (roR hh 1 rfl roN)))))) hna0 hqa0 hla0 hna1 hqa1 hla1 (⟨fun a w => Tryz.call120 a w, (fun p r hr w hT => clRet (c_strip_some_1 p s0.strips s0.carried l_2 l_1.1 qa0 na0 ca0 qa1 na1 ca1 (.map (some l_1.2)) w (HVstart hT) hna0 hqa0 hla0 hna1 hqa1 hla1 hr))⟩ : ClOK Tryz.prog 120 #[] #[ptr l_2 0] ([(l_2, 0, [.func (.func 83) #[ptr l_1.1 0] #[]]), (l_1.1, 0, [.slice qa0 na0 ca0, .slice qa1 na1 ca1, .map (some l_1.2)]), (aB qa0, aO qa0, RSt.enc s0.strips), (aB qa1, aO qa1, RSp.enc s0.carried)]) (fun x : Pair => [.agg #[.int .i64 x.tenant, .int .i64 x.strip]]) (fun x : Int => .int .i64 x) (fun p : Pair => m_strip_some_1 p s0.strips s0.carried)) h10) (fun l_4 h14 => ?_)
    obtain ⟨h15, h16⟩ := h14
    refine g_se (S' := [_, _, _, _, _]) (vs' := [_, _]) [0, 1, 2, 3, 4] [0, 1] 0 rfl rfl rfl rfl (g_mv rfl rfl (g_xt rfl rfl rfl (g_xt rfl rfl rfl ?_)))
    refine g_allocV (fun w => Tryz.zeroValue30 w) rfl (fun b_2 h17 => ?_)
    refine g_as rfl rfl (g_stSA (us := #[_, _]) (cs' := [_, _]) (S' := [_, _, _, _, _, _]) 0 (fun w => Tryz.sizeOf30 w) rfl rfl rfl rfl rfl rfl rfl (g_nt (g_seq (g_sr (g_mv rfl rfl (g_val rfl rfl rfl (fun w _ => v_eqlPtr (Tryz.runUnderlying110 w) rfl rfl) (g_nt ?_)))))))
    refine g_condF rfl rfl (g_skip (g_n_then (g_sr (g_mv rfl rfl (g_mv rfl rfl ?_)))))
    obtain ⟨t28, h18, hm⟩ := bindO hm
    refine g_callH [] [] rfl rfl rfl rfl rfl rfl rfl Tryz.call99 (fun w hh => c_strip_net_shares t21b.t12 s0.strips s0.carried l_4.1 (qA l_4.2.2.q) l_4.2.2.n l_4.2.2.cap l_1.1 qa0 na0 ca0 qa1 na1 ca1 (.map (some l_1.2)) w (HV.callee (S0 := []) (vs0 := []) hh (roC (bsep (hh.bseg 2 rfl)) (roC (hh.vsepA 1 rfl h16) (roC (bsep (hh.bseg 4 rfl)) (roR hh 0 rfl (roR hh 1 rfl roN)))))) (vlen RWay h16 rfl) (AOK.q (vne h16)) (h16).hle hna0 hqa0 hla0 hna1 hqa1 hla1 h18) (fun l_5 h19 => ?_)
    obtain ⟨h20, h21⟩ := h19
    refine g_se (S' := [_, _, _, _, _, _]) (vs' := [_, _, _]) [0, 1, 2, 3, 4, 5] [0, 1, 2] 0 rfl rfl rfl rfl (g_mv rfl rfl ?_)
    obtain ⟨t30, h22, hm⟩ := bindO hm
    refine g_callH [] [] rfl rfl rfl rfl rfl rfl rfl Tryz.call100 (fun w hh => c_strip_net_cost t21b.t12 l_4.1 (qA l_4.2.2.q) l_4.2.2.n l_4.2.2.cap w (HV.callee (S0 := []) (vs0 := []) hh (roC (bsep (hh.bseg 2 rfl)) (roC (hh.vsepA 2 rfl h16) roN))) (vlen RWay h16 rfl) (AOK.q (vne h16)) (h16).hle h22) (fun l_6 h23 => ?_)
    refine g_as rfl rfl (g_as rfl rfl (g_as rfl rfl (g_nt (g_ret ?_))))
    obtain rfl := sj hm
    refine g_done rfl (fun w hh => (.tmp rfl (.tmp rfl (.tmp rfl .nil)))) (fun w hh => ⟨l_5, rfl, ⟨h20, h21⟩, hh.se [] [0] 2 rfl rfl rfl rfl⟩)
def m_strip_Most_1 (p0 : Pair) (a110 : (Pair → Option Int)) : Option Int :=
 (a110 p0).bind fun t7 =>
 (negc t7).bind fun t8 =>
 some t8
theorem c_strip_Most_1 (p0 : Pair) (a110 : (Pair → Option Int)) (rb : Nat) (f_a110 : FuncId) (fs_a110 cs_a110 : Array Value) (T_a110 : List Sg) (w : World) (hw : HV w (keys [] []) [] [] ([(rb, 0, [.func (.func f_a110) fs_a110 cs_a110])] ++ T_a110) w)  (hcl_a110 : ClOK Tryz.prog f_a110 fs_a110 cs_a110 T_a110 (fun x : Pair => [.agg #[.int .i64 x.tenant, .int .i64 x.strip]]) (fun x : Int => .int .i64 x) a110) {res : Int} (hm : m_strip_Most_1 p0 a110 = some res) :
    Calls Tryz.prog 101 #[.agg #[.int .i64 p0.tenant, .int .i64 p0.strip], ptr rb 0] w (fun en w' => ∃ l : Unit, en = .returned (.int .i64 res) ∧ (True) ∧ HV w (keys [] []) [] [] [] w') := by
  unfold m_strip_Most_1 at hm
  refine g_en Tryz.func101 rfl Tryz.ntmps101 rfl (e := [(0, _), (1, _)]) rfl hw (g_sr ?_)
  refine g_boxV rfl rfl (fun b h1 => ?_)
  refine g_as rfl rfl (g_nx (g_fa 0 Tryz.runUnderlying115 rfl Tryz.sizeOf113 rfl rfl (g_val rfl rfl rfl (fun w hh => v_load (Tryz.isAgg113 w) rfl (segCell (hh.seg 0 rfl) 0 rfl)) (g_la [_, _] 0 Tryz.isAgg126 Tryz.sizeOf126 rfl rfl rfl rfl ?_))))
  obtain ⟨t7, h2, hm⟩ := bindO hm
  refine g_callFX hcl_a110 (fun t ht => (List.mem_cons_of_mem _ ht)) h2 rfl rfl rfl rfl rfl rfl ?_
  obtain ⟨t8, h3, hm⟩ := bindO hm
  refine g_val rfl rfl rfl (fun _ _ => v_negc h3 rfl) (g_as rfl rfl (g_nt (g_ret ?_)))
  obtain rfl := sj hm
  refine g_done rfl (fun w hh => (.tmp rfl .nil)) (fun w hh => ⟨(), rfl, trivial, hh.selN [] [] (by decide) (by decide) rfl rfl⟩)
structure m_strip_Most_R where
  r1 : Int
  r2 : Int
  r0 : (List (List Int))
def m_strip_Most (s0 : Scalps) : Option m_strip_Most_R :=
 (m_strip_opened s0).bind fun t12 =>
 oc t12 (fun t12a => some (⟨0, t12a, ([] : List (List Int))⟩ : m_strip_Most_R)) (fun t12b => (m_strip_theft s0.strips s0.carried).bind fun t19 =>
 (m_strip_desk_filled_1 s0.strips s0.carried t12b (fun p : Pair => m_strip_Most_1 p (fun p_1 : Pair => m_strip_some_1 p_1 s0.strips s0.carried))).bind fun t24 =>
 oc t24 (fun t24a => some (⟨0, 7, ([] : List (List Int))⟩ : m_strip_Most_R)) (fun t24b => (m_strip_net_shares t24b.t12 s0.strips s0.carried).bind fun t31 =>
 (m_strip_net_cost t24b.t12).bind fun t33 =>
 (negc t33).bind fun t34 =>
 some (⟨t34, 0, t31⟩ : m_strip_Most_R)))
theorem c_strip_Most (s0 : Scalps) (qa0 : Option Addr) (na0 ca0 : Nat) (qa1 : Option Addr) (na1 ca1 : Nat) (w : World) (hw : HV w (keys [] []) [] [] [(aB qa0, aO qa0, RSt.enc s0.strips), (aB qa1, aO qa1, RSp.enc s0.carried)] w) (hna0 : s0.strips.length = na0) (hqa0 : AOK na0 qa0) (hla0 : na0 ≤ ca0) (hna1 : s0.carried.length = na1) (hqa1 : AOK na1 qa1) (hla1 : na1 ≤ ca1) {res : m_strip_Most_R} (hm : m_strip_Most s0 = some res) :
    Calls Tryz.prog 47 #[.agg #[.slice qa0 na0 ca0, .slice qa1 na1 ca1]] w (fun en w' => ∃ l : DL, en = .returned (.tuple #[slv l.v.q l.v.n l.v.cap, .int .i64 res.r1, .int .i64 res.r2]) ∧ (VOK 1 l.v.n l.v.cap (RwH.enc l.rs) l.v.sp l.v.q ∧ DOK RI res.r0 l.rs) ∧ HV w (keys [] []) [] [⟨26, RwH.enc l.rs, l.v.sp, l.v.q, dbl 3 RI res.r0 l.rs⟩] [] w') := by
  unfold m_strip_Most at hm
  refine g_en Tryz.func47 rfl Tryz.ntmps47 rfl (e := [(0, _)]) rfl hw (g_sr ?_)
  refine g_boxV rfl rfl (fun b h3 => ?_)
  refine g_val rfl rfl rfl (fun _ _ => v_nilS rfl) (g_as rfl rfl (g_as rfl rfl (g_nx (g_la [_, _] 0 Tryz.isAgg25 Tryz.sizeOf25 rfl rfl rfl rfl ?_))))
  obtain ⟨t12, h4, hm⟩ := bindO hm
  rcases t12 with t12a | t12b
  ·replace hm := ocL hm
   refine g_callH [] [] rfl rfl rfl rfl rfl rfl rfl Tryz.call57 (fun w hh => c_strip_opened s0 qa0 na0 ca0 qa1 na1 ca1 w (HV.callee (S0 := []) (vs0 := []) hh (roR hh 0 rfl (roR hh 1 rfl roN))) hna0 hqa0 hla0 hna1 hqa1 hla1 h4) (fun l h5 => ?_)
   have h6 := h5
   refine g_mv rfl rfl (g_xt rfl rfl rfl (g_xt rfl rfl rfl (g_as rfl rfl (g_as rfl rfl (g_nt (g_seq (g_sr ?_)))))))
   refine g_mv rfl rfl (g_val rfl rfl rfl (fun _ _ => v_neqT h6 rfl rfl) (g_nt (g_condT rfl rfl (g_sr (g_mv rfl rfl (g_val rfl rfl rfl (fun _ _ => v_nilS rfl) (g_as rfl rfl ?_)))))))
   refine g_as rfl rfl (g_nt (g_ret (g_r_then (g_vnil 26 ?_))))
   obtain rfl := sj hm
   refine g_done rfl (fun w hh => (.tmp rfl (.tmp rfl (.tmp rfl .nil)))) (fun w hh => ⟨⟨⟨none, 0, 0, []⟩, []⟩, rfl, ⟨VOK.nil, DOK.nil⟩, hh.se [] [0] 2 rfl rfl rfl rfl⟩)
  ·replace hm := ocR hm
   refine g_callH [] [] rfl rfl rfl rfl rfl rfl rfl Tryz.call57 (fun w hh => c_strip_opened s0 qa0 na0 ca0 qa1 na1 ca1 w (HV.callee (S0 := []) (vs0 := []) hh (roR hh 0 rfl (roR hh 1 rfl roN))) hna0 hqa0 hla0 hna1 hqa1 hla1 h4) (fun l_1 h7 => ?_)
   refine g_se (S' := [_, _, _]) (vs' := []) [0, 1, 2] [] 0 rfl rfl rfl rfl (g_mv rfl rfl (g_xt rfl rfl rfl (g_xt rfl rfl rfl (g_as rfl rfl (g_as rfl rfl (g_nt (g_seq ?_)))))))
   refine g_sr (g_mv rfl rfl (g_val rfl rfl rfl (fun _ _ => v_neq rfl rfl) (g_nt (g_condF rfl rfl (g_skip (g_n_then (g_sr ?_)))))))
   refine g_mv rfl rfl ?_
   obtain ⟨t19, h8, hm⟩ := bindO hm
   refine g_callH [] [] rfl rfl rfl rfl rfl rfl rfl Tryz.call59 (fun w hh => c_strip_theft s0.strips s0.carried l_1.1 qa0 na0 ca0 qa1 na1 ca1 (.map (some l_1.2)) w (HV.callee (S0 := []) (vs0 := []) hh (roC (bsep (hh.bseg 0 rfl)) (roR hh 0 rfl (roR hh 1 rfl roN)))) hna0 hqa0 hla0 hna1 hqa1 hla1 h8) (fun l_2 h9 => ?_)
   refine g_se (S' := [_, _, _, _]) (vs' := []) [0, 1, 2, 3] [] 0 rfl rfl rfl rfl ?_
   refine g_allocV (fun w => Tryz.zeroValue115 w) rfl (fun b_1 h10 => ?_)
   refine g_stSA (us := #[_]) (cs' := [_]) (S' := [_, _, _, _, _]) 0 (fun w => Tryz.sizeOf115 w) rfl rfl rfl rfl rfl rfl rfl (g_nx (g_mv rfl rfl (g_val rfl rfl rfl (fun _ _ => v_makeFunc (u := #[]) (u' := #[_]) rfl rfl) (g_val rfl rfl rfl (fun _ _ => v_build (vs := [(0, _)]) (cells := [_]) rfl rfl) ?_))))
   obtain ⟨t24, h11, hm⟩ := bindO hm
   rcases t24 with t24a | t24b
   ·replace hm := ocL hm
    refine g_se (S' := [_, _, _, _, _]) (vs' := []) [3, 0, 1, 2, 4] [] 0 rfl rfl rfl rfl ?_
    refine g_callH [_] [] rfl rfl rfl rfl rfl rfl rfl Tryz.call58 (fun w hh => c_strip_desk_filled_1 s0.strips s0.carried t12b (fun p : Pair => m_strip_Most_1 p (fun p_1 : Pair => m_strip_some_1 p_1 s0.strips s0.carried)) l_1.1 qa0 na0 ca0 qa1 na1 ca1 l_1.2 101 (#[]) (#[ptr b_1 0]) ([(b_1, 0, [.func (.func 120) #[] #[ptr l_2 0]])] ++ [(l_2, 0, [.func (.func 83) #[ptr l_1.1 0] #[]]), (l_1.1, 0, [.slice qa0 na0 ca0, .slice qa1 na1 ca1, .map (some l_1.2)]), (aB qa0, aO qa0, RSt.enc s0.strips), (aB qa1, aO qa1, RSp.enc s0.carried)]) w (HV.callee (S0 := [_]) (vs0 := []) hh (roA (roC (hh.bsepH 2 rfl) (roR hh 0 rfl (roR hh 1 rfl roN))) (roA (roC (hh.bsepH 0 rfl) roN) (roC (hh.bsepH 1 rfl) (roC (hh.bsepH 2 rfl) (roR hh 0 rfl (roR hh 1 rfl roN))))))) hna0 hqa0 hla0 hna1 hqa1 hla1 (⟨fun a w => Tryz.call101 a w, (fun p r hr w hT => clRet (c_strip_Most_1 p (fun p_1 : Pair => m_strip_some_1 p_1 s0.strips s0.carried) b_1 120 (#[]) (#[ptr l_2 0]) ([(l_2, 0, [.func (.func 83) #[ptr l_1.1 0] #[]]), (l_1.1, 0, [.slice qa0 na0 ca0, .slice qa1 na1 ca1, .map (some l_1.2)]), (aB qa0, aO qa0, RSt.enc s0.strips), (aB qa1, aO qa1, RSp.enc s0.carried)]) w (HVstart hT) (⟨fun a w => Tryz.call120 a w, (fun p_1 r hr w hT => clRet (c_strip_some_1 p_1 s0.strips s0.carried l_2 l_1.1 qa0 na0 ca0 qa1 na1 ca1 (.map (some l_1.2)) w (HVstart hT) hna0 hqa0 hla0 hna1 hqa1 hla1 hr))⟩ : ClOK Tryz.prog 120 #[] #[ptr l_2 0] ([(l_2, 0, [.func (.func 83) #[ptr l_1.1 0] #[]]), (l_1.1, 0, [.slice qa0 na0 ca0, .slice qa1 na1 ca1, .map (some l_1.2)]), (aB qa0, aO qa0, RSt.enc s0.strips), (aB qa1, aO qa1, RSp.enc s0.carried)]) (fun x : Pair => [.agg #[.int .i64 x.tenant, .int .i64 x.strip]]) (fun x : Int => .int .i64 x) (fun p_1 : Pair => m_strip_some_1 p_1 s0.strips s0.carried)) hr))⟩ : ClOK Tryz.prog 101 #[] #[ptr b_1 0] ([(b_1, 0, [.func (.func 120) #[] #[ptr l_2 0]])] ++ [(l_2, 0, [.func (.func 83) #[ptr l_1.1 0] #[]]), (l_1.1, 0, [.slice qa0 na0 ca0, .slice qa1 na1 ca1, .map (some l_1.2)]), (aB qa0, aO qa0, RSt.enc s0.strips), (aB qa1, aO qa1, RSp.enc s0.carried)]) (fun x : Pair => [.agg #[.int .i64 x.tenant, .int .i64 x.strip]]) (fun x : Int => .int .i64 x) (fun p : Pair => m_strip_Most_1 p (fun p_1 : Pair => m_strip_some_1 p_1 s0.strips s0.carried))) h11) (fun l_3 h12 => ?_)
    have h13 := h12
    refine g_se (S' := [_, _, _, _, _]) (vs' := [_]) [0, 1, 2, 3, 4] [0] 0 rfl rfl rfl rfl (g_mv rfl rfl (g_xt rfl rfl rfl (g_xt rfl rfl rfl ?_)))
    refine g_allocV (fun w => Tryz.zeroValue30 w) rfl (fun b_2 h14 => ?_)
    refine g_as rfl rfl (g_stSA (us := #[_, _]) (cs' := [_, _]) (S' := [_, _, _, _, _, _]) 0 (fun w => Tryz.sizeOf30 w) rfl rfl rfl rfl rfl rfl rfl (g_nt (g_seq (g_sr (g_mv rfl rfl (g_val rfl rfl rfl (fun w _ => v_eqlPtr (Tryz.runUnderlying110 w) rfl rfl) (g_nt ?_)))))))
    refine g_condT rfl rfl (g_sr (g_val rfl rfl rfl (fun _ _ => v_nilS rfl) (g_as rfl rfl (g_as rfl rfl (g_nt (g_ret (g_r_then ?_)))))))
    refine g_vnil 26 ?_
    obtain rfl := sj hm
    refine g_done rfl (fun w hh => (.tmp rfl (.tmp rfl (.tmp rfl .nil)))) (fun w hh => ⟨⟨⟨none, 0, 0, []⟩, []⟩, rfl, ⟨VOK.nil, DOK.nil⟩, hh.se [] [0] 2 rfl rfl rfl rfl⟩)
   ·replace hm := ocR hm
    refine g_se (S' := [_, _, _, _, _]) (vs' := []) [3, 0, 1, 2, 4] [] 0 rfl rfl rfl rfl ?_
    refine g_callH [_] [] rfl rfl rfl rfl rfl rfl rfl Tryz.call58 (fun w hh => c_strip_desk_filled_1 s0.strips s0.carried t12b (fun p : Pair => m_strip_Most_1 p (fun p_1 : Pair => m_strip_some_1 p_1 s0.strips s0.carried)) l_1.1 qa0 na0 ca0 qa1 na1 ca1 l_1.2 101 (#[]) (#[ptr b_1 0]) ([(b_1, 0, [.func (.func 120) #[] #[ptr l_2 0]])] ++ [(l_2, 0, [.func (.func 83) #[ptr l_1.1 0] #[]]), (l_1.1, 0, [.slice qa0 na0 ca0, .slice qa1 na1 ca1, .map (some l_1.2)]), (aB qa0, aO qa0, RSt.enc s0.strips), (aB qa1, aO qa1, RSp.enc s0.carried)]) w (HV.callee (S0 := [_]) (vs0 := []) hh (roA (roC (hh.bsepH 2 rfl) (roR hh 0 rfl (roR hh 1 rfl roN))) (roA (roC (hh.bsepH 0 rfl) roN) (roC (hh.bsepH 1 rfl) (roC (hh.bsepH 2 rfl) (roR hh 0 rfl (roR hh 1 rfl roN))))))) hna0 hqa0 hla0 hna1 hqa1 hla1 (⟨fun a w => Tryz.call101 a w, (fun p r hr w hT => clRet (c_strip_Most_1 p (fun p_1 : Pair => m_strip_some_1 p_1 s0.strips s0.carried) b_1 120 (#[]) (#[ptr l_2 0]) ([(l_2, 0, [.func (.func 83) #[ptr l_1.1 0] #[]]), (l_1.1, 0, [.slice qa0 na0 ca0, .slice qa1 na1 ca1, .map (some l_1.2)]), (aB qa0, aO qa0, RSt.enc s0.strips), (aB qa1, aO qa1, RSp.enc s0.carried)]) w (HVstart hT) (⟨fun a w => Tryz.call120 a w, (fun p_1 r hr w hT => clRet (c_strip_some_1 p_1 s0.strips s0.carried l_2 l_1.1 qa0 na0 ca0 qa1 na1 ca1 (.map (some l_1.2)) w (HVstart hT) hna0 hqa0 hla0 hna1 hqa1 hla1 hr))⟩ : ClOK Tryz.prog 120 #[] #[ptr l_2 0] ([(l_2, 0, [.func (.func 83) #[ptr l_1.1 0] #[]]), (l_1.1, 0, [.slice qa0 na0 ca0, .slice qa1 na1 ca1, .map (some l_1.2)]), (aB qa0, aO qa0, RSt.enc s0.strips), (aB qa1, aO qa1, RSp.enc s0.carried)]) (fun x : Pair => [.agg #[.int .i64 x.tenant, .int .i64 x.strip]]) (fun x : Int => .int .i64 x) (fun p_1 : Pair => m_strip_some_1 p_1 s0.strips s0.carried)) hr))⟩ : ClOK Tryz.prog 101 #[] #[ptr b_1 0] ([(b_1, 0, [.func (.func 120) #[] #[ptr l_2 0]])] ++ [(l_2, 0, [.func (.func 83) #[ptr l_1.1 0] #[]]), (l_1.1, 0, [.slice qa0 na0 ca0, .slice qa1 na1 ca1, .map (some l_1.2)]), (aB qa0, aO qa0, RSt.enc s0.strips), (aB qa1, aO qa1, RSp.enc s0.carried)]) (fun x : Pair => [.agg #[.int .i64 x.tenant, .int .i64 x.strip]]) (fun x : Int => .int .i64 x) (fun p : Pair => m_strip_Most_1 p (fun p_1 : Pair => m_strip_some_1 p_1 s0.strips s0.carried))) h11) (fun l_4 h15 => ?_)
    obtain ⟨h16, h17⟩ := h15
    refine g_se (S' := [_, _, _, _, _, _]) (vs' := [_, _]) [0, 1, 2, 3, 4, 5] [0, 1] 0 rfl rfl rfl rfl (g_mv rfl rfl (g_xt rfl rfl rfl (g_xt rfl rfl rfl ?_)))
    refine g_allocV (fun w => Tryz.zeroValue30 w) rfl (fun b_3 h18 => ?_)
    refine g_as rfl rfl (g_stSA (us := #[_, _]) (cs' := [_, _]) (S' := [_, _, _, _, _, _, _]) 0 (fun w => Tryz.sizeOf30 w) rfl rfl rfl rfl rfl rfl rfl (g_nt (g_seq (g_sr (g_mv rfl rfl (g_val rfl rfl rfl (fun w _ => v_eqlPtr (Tryz.runUnderlying110 w) rfl rfl) (g_nt ?_)))))))
    refine g_condF rfl rfl (g_skip (g_n_then (g_sr (g_mv rfl rfl (g_mv rfl rfl ?_)))))
    obtain ⟨t31, h19, hm⟩ := bindO hm
    refine g_callH [] [] rfl rfl rfl rfl rfl rfl rfl Tryz.call99 (fun w hh => c_strip_net_shares t24b.t12 s0.strips s0.carried l_4.1 (qA l_4.2.2.q) l_4.2.2.n l_4.2.2.cap l_1.1 qa0 na0 ca0 qa1 na1 ca1 (.map (some l_1.2)) w (HV.callee (S0 := []) (vs0 := []) hh (roC (bsep (hh.bseg 2 rfl)) (roC (hh.vsepA 1 rfl h17) (roC (bsep (hh.bseg 5 rfl)) (roR hh 0 rfl (roR hh 1 rfl roN)))))) (vlen RWay h17 rfl) (AOK.q (vne h17)) (h17).hle hna0 hqa0 hla0 hna1 hqa1 hla1 h19) (fun l_5 h20 => ?_)
    obtain ⟨h21, h22⟩ := h20
    refine g_se (S' := [_, _, _, _, _, _, _]) (vs' := [_, _, _]) [0, 1, 2, 3, 4, 5, 6] [0, 1, 2] 0 rfl rfl rfl rfl (g_mv rfl rfl ?_)
    obtain ⟨t33, h23, hm⟩ := bindO hm
    refine g_callH [] [] rfl rfl rfl rfl rfl rfl rfl Tryz.call100 (fun w hh => c_strip_net_cost t24b.t12 l_4.1 (qA l_4.2.2.q) l_4.2.2.n l_4.2.2.cap w (HV.callee (S0 := []) (vs0 := []) hh (roC (bsep (hh.bseg 2 rfl)) (roC (hh.vsepA 2 rfl h17) roN))) (vlen RWay h17 rfl) (AOK.q (vne h17)) (h17).hle h23) (fun l_6 h24 => ?_)
    obtain ⟨t34, h25, hm⟩ := bindO hm
    refine g_val rfl rfl rfl (fun _ _ => v_negc h25 rfl) (g_as rfl rfl (g_as rfl rfl (g_as rfl rfl (g_nt (g_ret ?_)))))
    obtain rfl := sj hm
    refine g_done rfl (fun w hh => (.tmp rfl (.tmp rfl (.tmp rfl .nil)))) (fun w hh => ⟨l_5, rfl, ⟨h21, h22⟩, hh.se [] [0] 2 rfl rfl rfl rfl⟩)
def m_strip_some_2 (holds0_c0 : Int) (holds0_c10 : (List Strip)) (holds0_c11 : (List Span)) : Option Unit :=
 some ()
theorem c_strip_some_2 (holds0_c0 : Int) (holds0_c10 : (List Strip)) (holds0_c11 : (List Span)) (rb : Nat) (rb_1 : Nat) (rb_2 : Nat) (qa3 : Option Addr) (na3 ca3 : Nat) (qa4 : Option Addr) (na4 ca4 : Nat) (mv : Value) (w : World) (hw : HV w (keys [] []) [] [] [(rb, 0, [.int .i64 holds0_c0]), (rb_1, 0, [ptr rb_2 0]), (rb_2, 0, [.slice qa3 na3 ca3, .slice qa4 na4 ca4, mv]), (aB qa3, aO qa3, RSt.enc holds0_c10), (aB qa4, aO qa4, RSp.enc holds0_c11)] w)    (hna3 : holds0_c10.length = na3) (hqa3 : AOK na3 qa3) (hla3 : na3 ≤ ca3) (hna4 : holds0_c11.length = na4) (hqa4 : AOK na4 qa4) (hla4 : na4 ≤ ca4) {res : Unit} (hm : m_strip_some_2 holds0_c0 holds0_c10 holds0_c11 = some res) :
    Calls Tryz.prog 80 #[.func (.func 85) #[] #[ptr rb 0, ptr rb_1 0]] w (fun en w' => ∃ l : Nat, en = .returned (.agg #[.func (.func 120) #[] #[ptr l 0]]) ∧ (True) ∧ HV w (keys [] []) [(l, .cells #[.func (.func 85) #[] #[ptr rb 0, ptr rb_1 0]] 135 (0, 0))] [] [] w') := by
  unfold m_strip_some_2 at hm
  refine g_en Tryz.func80 rfl Tryz.ntmps80 rfl (e := [(0, _)]) rfl hw (g_sr ?_)
  refine g_boxV rfl rfl (fun b h1 => ?_)
  refine g_allocV (fun w => Tryz.zeroValue115 w) rfl (fun b_1 h2 => ?_)
  refine g_nx (g_val rfl rfl rfl (fun _ _ => v_makeFunc (u := #[]) (u' := #[_]) rfl rfl) (g_val rfl rfl rfl (fun _ _ => v_build (vs := [(0, _)]) (cells := [_]) rfl rfl) (g_stSA (us := #[_]) (cs' := [_]) (S' := [_, _]) 0 (fun w => Tryz.sizeOf115 w) rfl rfl rfl rfl rfl rfl rfl (g_nt (g_ret ?_)))))
  obtain rfl := sj hm
  refine g_done rfl (fun w hh => (.cell rfl (loadVar_agg (vs := [_]) (Tryz.isAgg115 _) (Tryz.sizeOf115 _) (hh.cells 0 rfl rfl)) .nil)) (fun w hh => ⟨b, rfl, trivial, hh.se [1] [] 5 rfl rfl rfl rfl⟩)
def m_strip_Verdicts_1 (p0 : Pair) (a11 : Int) (a220 : (List Strip)) (a221 : (List Span)) : Option Bool :=
 (if p0.tenant = a11 then
 ((m_strip_desk_other a220 a221 p0).bind fun t12 =>
 some t12) else
 (some false)).bind fun o =>
 some o
theorem c_strip_Verdicts_1 (p0 : Pair) (a11 : Int) (a220 : (List Strip)) (a221 : (List Span)) (rb : Nat) (rb_1 : Nat) (rb_2 : Nat) (qa3 : Option Addr) (na3 ca3 : Nat) (qa4 : Option Addr) (na4 ca4 : Nat) (mv : Value) (w : World) (hw : HV w (keys [] []) [] [] [(rb, 0, [.int .i64 a11]), (rb_1, 0, [ptr rb_2 0]), (rb_2, 0, [.slice qa3 na3 ca3, .slice qa4 na4 ca4, mv]), (aB qa3, aO qa3, RSt.enc a220), (aB qa4, aO qa4, RSp.enc a221)] w)    (hna3 : a220.length = na3) (hqa3 : AOK na3 qa3) (hla3 : na3 ≤ ca3) (hna4 : a221.length = na4) (hqa4 : AOK na4 qa4) (hla4 : na4 ≤ ca4) {res : Bool} (hm : m_strip_Verdicts_1 p0 a11 a220 a221 = some res) :
    Calls Tryz.prog 85 #[.agg #[.int .i64 p0.tenant, .int .i64 p0.strip], ptr rb 0, ptr rb_1 0] w (fun en w' => ∃ l : Unit, en = .returned (.bool res) ∧ (True) ∧ HV w (keys [] []) [] [] [] w') := by
  unfold m_strip_Verdicts_1 at hm
  refine g_en Tryz.func85 rfl Tryz.ntmps85 rfl (e := [(0, _), (1, _), (2, _)]) rfl hw (g_sr ?_)
  refine g_boxV rfl rfl (fun b h1 => ?_)
  refine g_as rfl rfl (g_nt (g_seq ?_))
  obtain ⟨o, h2, h3⟩ := bindO hm
  refine g_cut (ι := Unit) (fun l => True) (fun l => [(4, .bool o)]) (fun l => [(b, .cells #[.int .i64 p0.tenant, .int .i64 p0.strip] 126 (0, 0))]) (fun l => []) ?_ ?_
  ·replace hm := h2
   refine g_region (g_fa 0 Tryz.runUnderlying126 rfl Tryz.sizeOf3 rfl rfl (g_lc 0 Tryz.isAgg3 rfl rfl rfl rfl (g_val rfl rfl rfl (fun w hh => v_load (Tryz.isAgg3 w) rfl (segCell (hh.seg 0 rfl) 0 rfl)) (g_val rfl rfl rfl (fun _ _ => v_eql rfl rfl) (g_mv rfl rfl ?_)))))
   refine g_case 9 rfl (fun h4 => ?_) (fun h4 => ?_)
   ·replace hm := ifD h4 hm
    refine v_unguard rfl rfl (g_val rfl rfl rfl (fun w hh => v_load (Tryz.isAgg107 w) rfl (segCell (hh.seg 1 rfl) 0 rfl)) (v_unguard rfl rfl (g_la [_, _] 0 Tryz.isAgg126 Tryz.sizeOf126 rfl rfl rfl rfl (v_unguard rfl rfl ?_))))
    obtain ⟨t12, h5, hm⟩ := bindO hm
    refine g_callH [] [] rfl rfl rfl rfl rfl rfl rfl Tryz.call83 (fun w hh => c_strip_desk_other a220 a221 p0 rb_2 qa3 na3 ca3 qa4 na4 ca4 mv w (HV.callee (S0 := []) (vs0 := []) hh (roR hh 2 rfl (roR hh 3 rfl (roR hh 4 rfl roN)))) hna3 hqa3 hla3 hna4 hqa4 hla4 h5) (fun l_1 h6 => ?_)
    refine g_pt rfl rfl rfl (g_as rfl rfl (g_nil ?_))
    obtain rfl := sj hm
    exact g_leaf () (trivial) (sE rfl) (fun w hh => hh)
   ·replace hm := ifE h4 hm
    refine g_k rfl rfl rfl rfl (g_k rfl rfl rfl rfl (g_k rfl rfl rfl rfl (g_pf rfl rfl rfl (g_as rfl rfl (g_nil ?_)))))
    obtain rfl := sj hm
    exact g_leaf () (trivial) (sE rfl) (fun w hh => hh)
  ·intro l hj
   replace hm := h3
   refine g_n_then (g_ret ?_)
   obtain rfl := sj hm
   refine g_done rfl (fun w hh => (.tmp rfl .nil)) (fun w hh => ⟨(), rfl, trivial, hh.se [] [] 5 rfl rfl rfl rfl⟩)
def m_strip_some_1_1 (p0 : Pair) (a11_c0 : Int) (a11_c10 : (List Strip)) (a11_c11 : (List Span)) : Option Int :=
 (m_strip_Verdicts_1 p0 a11_c0 a11_c10 a11_c11).bind fun t6 =>
 if t6 = true then
 (some 1) else
 (some 0)
theorem c_strip_some_1_1 (p0 : Pair) (a11_c0 : Int) (a11_c10 : (List Strip)) (a11_c11 : (List Span)) (rb : Nat) (rb_1 : Nat) (rb_2 : Nat) (rb_3 : Nat) (qa4 : Option Addr) (na4 ca4 : Nat) (qa5 : Option Addr) (na5 ca5 : Nat) (mv : Value) (w : World) (hw : HV w (keys [] []) [] [] [(rb, 0, [.func (.func 85) #[] #[ptr rb_1 0, ptr rb_2 0]]), (rb_1, 0, [.int .i64 a11_c0]), (rb_2, 0, [ptr rb_3 0]), (rb_3, 0, [.slice qa4 na4 ca4, .slice qa5 na5 ca5, mv]), (aB qa4, aO qa4, RSt.enc a11_c10), (aB qa5, aO qa5, RSp.enc a11_c11)] w)     (hna4 : a11_c10.length = na4) (hqa4 : AOK na4 qa4) (hla4 : na4 ≤ ca4) (hna5 : a11_c11.length = na5) (hqa5 : AOK na5 qa5) (hla5 : na5 ≤ ca5) {res : Int} (hm : m_strip_some_1_1 p0 a11_c0 a11_c10 a11_c11 = some res) :
    Calls Tryz.prog 120 #[.agg #[.int .i64 p0.tenant, .int .i64 p0.strip], ptr rb 0] w (fun en w' => ∃ l : Unit, en = .returned (.int .i64 res) ∧ (True) ∧ HV w (keys [] []) [] [] [] w') := by
  unfold m_strip_some_1_1 at hm
  refine g_en Tryz.func120 rfl Tryz.ntmps120 rfl (e := [(0, _), (1, _)]) rfl hw (g_sr ?_)
  refine g_boxV rfl rfl (fun b h1 => ?_)
  refine g_as rfl rfl (g_nt (g_seq (g_sr (g_val rfl rfl rfl (fun w hh => v_load (Tryz.isAgg135 w) rfl (segCell (hh.seg 0 rfl) 0 rfl)) (g_la [_, _] 0 Tryz.isAgg126 Tryz.sizeOf126 rfl rfl rfl rfl ?_)))))
  obtain ⟨t6, h2, hm⟩ := bindO hm
  refine g_callH [] [] rfl rfl rfl rfl rfl rfl rfl Tryz.call85 (fun w hh => c_strip_Verdicts_1 p0 a11_c0 a11_c10 a11_c11 rb_1 rb_2 rb_3 qa4 na4 ca4 qa5 na5 ca5 mv w (HV.callee (S0 := []) (vs0 := []) hh (roR hh 1 rfl (roR hh 2 rfl (roR hh 3 rfl (roR hh 4 rfl (roR hh 5 rfl roN)))))) hna4 hqa4 hla4 hna5 hqa5 hla5 h2) (fun l h3 => ?_)
  refine g_nt ?_
  refine g_cond rfl (fun h4 => ?_) (fun h4 => ?_)
  ·replace hm := ifT (h4) hm
   refine g_sr (g_as rfl rfl (g_nt (g_ret (g_r_then ?_))))
   obtain rfl := sj hm
   refine g_done rfl (fun w hh => (.tmp rfl .nil)) (fun w hh => ⟨(), rfl, trivial, hh.se [] [] 6 rfl rfl rfl rfl⟩)
  ·replace hm := ifN h4 hm
   refine g_skip (g_n_then (g_sr (g_as rfl rfl (g_nt (g_ret ?_)))))
   obtain rfl := sj hm
   refine g_done rfl (fun w hh => (.tmp rfl .nil)) (fun w hh => ⟨(), rfl, trivial, hh.se [] [] 6 rfl rfl rfl rfl⟩)
def m_strip_desk_spread_1_1 (p0 : Pair) (a110 : (Pair → Option Int)) : Option Int :=
 (a110 p0).bind fun t7 =>
 (negc t7).bind fun t8 =>
 some t8
theorem c_strip_desk_spread_1_1 (p0 : Pair) (a110 : (Pair → Option Int)) (rb : Nat) (f_a110 : FuncId) (fs_a110 cs_a110 : Array Value) (T_a110 : List Sg) (w : World) (hw : HV w (keys [] []) [] [] ([(rb, 0, [.func (.func f_a110) fs_a110 cs_a110])] ++ T_a110) w)  (hcl_a110 : ClOK Tryz.prog f_a110 fs_a110 cs_a110 T_a110 (fun x : Pair => [.agg #[.int .i64 x.tenant, .int .i64 x.strip]]) (fun x : Int => .int .i64 x) a110) {res : Int} (hm : m_strip_desk_spread_1_1 p0 a110 = some res) :
    Calls Tryz.prog 119 #[.agg #[.int .i64 p0.tenant, .int .i64 p0.strip], ptr rb 0] w (fun en w' => ∃ l : Unit, en = .returned (.int .i64 res) ∧ (True) ∧ HV w (keys [] []) [] [] [] w') := by
  unfold m_strip_desk_spread_1_1 at hm
  refine g_en Tryz.func119 rfl Tryz.ntmps119 rfl (e := [(0, _), (1, _)]) rfl hw (g_sr ?_)
  refine g_boxV rfl rfl (fun b h1 => ?_)
  refine g_as rfl rfl (g_nx (g_fa 0 Tryz.runUnderlying115 rfl Tryz.sizeOf113 rfl rfl (g_val rfl rfl rfl (fun w hh => v_load (Tryz.isAgg113 w) rfl (segCell (hh.seg 0 rfl) 0 rfl)) (g_la [_, _] 0 Tryz.isAgg126 Tryz.sizeOf126 rfl rfl rfl rfl ?_))))
  obtain ⟨t7, h2, hm⟩ := bindO hm
  refine g_callFX hcl_a110 (fun t ht => (List.mem_cons_of_mem _ ht)) h2 rfl rfl rfl rfl rfl rfl ?_
  obtain ⟨t8, h3, hm⟩ := bindO hm
  refine g_val rfl rfl rfl (fun _ _ => v_negc h3 rfl) (g_as rfl rfl (g_nt (g_ret ?_)))
  obtain rfl := sj hm
  refine g_done rfl (fun w hh => (.tmp rfl .nil)) (fun w hh => ⟨(), rfl, trivial, hh.selN [] [] (by decide) (by decide) rfl rfl⟩)
structure m_strip_desk_spread_1_R where
  r0 : Span
  r1 : Int
def m_strip_desk_spread_1 (d00 : (List Strip)) (d01 : (List Span)) (d02 : (List (Pair × Bool))) (c1_0 : (Pair → Option Int)) : Option m_strip_desk_spread_1_R :=
 (m_strip_desk_filled_1 d00 d01 d02 c1_0).bind fun t13 =>
 oc t13 (fun t13a => (m_strip_desk_filled_1 d00 d01 d02 (fun p : Pair => m_strip_desk_spread_1_1 p c1_0)).bind fun t20 =>
 oc t20 (fun t20a => some (⟨(⟨0, 0⟩ : Span), 7⟩ : m_strip_desk_spread_1_R)) (fun t20b => some (⟨(⟨0, 0⟩ : Span), 7⟩ : m_strip_desk_spread_1_R))) (fun t13b => (m_strip_desk_filled_1 d00 d01 d02 (fun p_1 : Pair => m_strip_desk_spread_1_1 p_1 c1_0)).bind fun t20_1 =>
 oc t20_1 (fun t20_1a => (m_strip_net_cost t13b.t12).bind fun t27 =>
 none) (fun t20_1b => (m_strip_net_cost t13b.t12).bind fun t27_1 =>
 (m_strip_net_cost t20_1b.t12).bind fun t29 =>
 (negc t29).bind fun t30 =>
 some (⟨(⟨t27_1, t30⟩ : Span), 0⟩ : m_strip_desk_spread_1_R)))
theorem c_strip_desk_spread_1 (d00 : (List Strip)) (d01 : (List Span)) (d02 : (List (Pair × Bool))) (c1_0 : (Pair → Option Int)) (rb : Nat) (qa1 : Option Addr) (na1 ca1 : Nat) (qa2 : Option Addr) (na2 ca2 : Nat) (pb : Nat) (f_c1_0 : FuncId) (fs_c1_0 cs_c1_0 : Array Value) (T_c1_0 : List Sg) (w : World) (hw : HV w (keys [(pb, gobj (kR RPr) kB d02)] []) [(pb, gobj (kR RPr) kB d02)] [] ([(rb, 0, [.slice qa1 na1 ca1, .slice qa2 na2 ca2, .map (some pb)]), (aB qa1, aO qa1, RSt.enc d00), (aB qa2, aO qa2, RSp.enc d01)] ++ T_c1_0) w)  (hna1 : d00.length = na1) (hqa1 : AOK na1 qa1) (hla1 : na1 ≤ ca1) (hna2 : d01.length = na2) (hqa2 : AOK na2 qa2) (hla2 : na2 ≤ ca2) (hcl_c1_0 : ClOK Tryz.prog f_c1_0 fs_c1_0 cs_c1_0 T_c1_0 (fun x : Pair => [.agg #[.int .i64 x.tenant, .int .i64 x.strip]]) (fun x : Int => .int .i64 x) c1_0) {res : m_strip_desk_spread_1_R} (hm : m_strip_desk_spread_1 d00 d01 d02 c1_0 = some res) :
    Calls Tryz.prog 79 #[ptr rb 0, .agg #[.func (.func f_c1_0) fs_c1_0 cs_c1_0]] w (fun en w' => ∃ l : Unit, en = .returned (.tuple #[.agg #[.int .i64 res.r0.lo, .int .i64 res.r0.hi], .int .i64 res.r1]) ∧ (True) ∧ HV w (keys [(pb, gobj (kR RPr) kB d02)] []) [(pb, gobj (kR RPr) kB d02)] [] [] w') := by
  unfold m_strip_desk_spread_1 at hm
  refine g_en Tryz.func79 rfl Tryz.ntmps79 rfl (e := [(0, _), (1, _)]) rfl hw (g_sr ?_)
  refine g_boxV rfl rfl (fun b h1 => ?_)
  refine g_allocV (fun w => Tryz.zeroValue32 w) rfl (fun b_1 h2 => ?_)
  refine g_as rfl rfl (g_nx (g_mv rfl rfl (g_la [_] 1 Tryz.isAgg115 Tryz.sizeOf115 rfl rfl rfl rfl ?_)))
  obtain ⟨t13, h3, hm⟩ := bindO hm
  rcases t13 with t13a | t13b
  ·replace hm := ocL hm
   refine g_se (S' := [_, _, _]) (vs' := []) [2, 0, 1] [] 0 rfl rfl rfl rfl ?_
   refine g_callH [_] [] rfl rfl rfl rfl rfl rfl rfl Tryz.call58 (fun w hh => c_strip_desk_filled_1 d00 d01 d02 c1_0 rb qa1 na1 ca1 qa2 na2 ca2 pb f_c1_0 fs_c1_0 cs_c1_0 T_c1_0 w (HV.callee (S0 := [_]) (vs0 := []) hh (roA (roR hh 0 rfl (roR hh 1 rfl (roR hh 2 rfl roN))) (hh.rsepT (fun t ht => (List.mem_cons_of_mem _ (List.mem_cons_of_mem _ (List.mem_cons_of_mem _ ht))))))) hna1 hqa1 hla1 hna2 hqa2 hla2 hcl_c1_0 h3) (fun l h4 => ?_)
   have h5 := h4
   refine g_se (S' := [_, _, _]) (vs' := [_]) [0, 1, 2] [0] 0 rfl rfl rfl rfl (g_mv rfl rfl (g_xt rfl rfl rfl (g_xt rfl rfl rfl ?_)))
   refine g_allocV (fun w => Tryz.zeroValue30 w) rfl (fun b_2 h6 => ?_)
   refine g_as rfl rfl (g_stSA (us := #[_, _]) (cs' := [_, _]) (S' := [_, _, _, _]) 0 (fun w => Tryz.sizeOf30 w) rfl rfl rfl rfl rfl rfl rfl (g_nx (g_mv rfl rfl (g_val rfl rfl rfl (fun _ _ => v_makeFunc (u := #[]) (u' := #[_]) rfl rfl) (g_val rfl rfl rfl (fun _ _ => v_build (vs := [(0, _)]) (cells := [_]) rfl rfl) ?_)))))
   obtain ⟨t20, h7, hm⟩ := bindO hm
   rcases t20 with t20a | t20b
   ·replace hm := ocL hm
    refine g_se (S' := [_, _, _, _]) (vs' := [_]) [1, 0, 2, 3] [0] 0 rfl rfl rfl rfl ?_
    refine g_callH [_] [] rfl rfl rfl rfl rfl rfl rfl Tryz.call58 (fun w hh => c_strip_desk_filled_1 d00 d01 d02 (fun p : Pair => m_strip_desk_spread_1_1 p c1_0) rb qa1 na1 ca1 qa2 na2 ca2 pb 119 (#[]) (#[ptr b 0]) ([(b, 0, [.func (.func f_c1_0) fs_c1_0 cs_c1_0])] ++ T_c1_0) w (HV.callee (S0 := [_]) (vs0 := []) hh (roA (roR hh 0 rfl (roR hh 1 rfl (roR hh 2 rfl roN))) (roA (roC (hh.bsepH 2 rfl) roN) (hh.rsepT (fun t ht => (List.mem_cons_of_mem _ (List.mem_cons_of_mem _ (List.mem_cons_of_mem _ ht)))))))) hna1 hqa1 hla1 hna2 hqa2 hla2 (⟨fun a w => Tryz.call119 a w, (fun p r hr w hT => clRet (c_strip_desk_spread_1_1 p c1_0 b f_c1_0 fs_c1_0 cs_c1_0 T_c1_0 w (HVstart hT) hcl_c1_0 hr))⟩ : ClOK Tryz.prog 119 #[] #[ptr b 0] ([(b, 0, [.func (.func f_c1_0) fs_c1_0 cs_c1_0])] ++ T_c1_0) (fun x : Pair => [.agg #[.int .i64 x.tenant, .int .i64 x.strip]]) (fun x : Int => .int .i64 x) (fun p : Pair => m_strip_desk_spread_1_1 p c1_0)) h7) (fun l_1 h8 => ?_)
    have h9 := h8
    refine g_se (S' := [_, _, _, _]) (vs' := [_, _]) [0, 1, 2, 3] [0, 1] 0 rfl rfl rfl rfl (g_mv rfl rfl (g_xt rfl rfl rfl (g_xt rfl rfl rfl ?_)))
    refine g_allocV (fun w => Tryz.zeroValue30 w) rfl (fun b_3 h10 => ?_)
    refine g_as rfl rfl (g_stSA (us := #[_, _]) (cs' := [_, _]) (S' := [_, _, _, _, _]) 0 (fun w => Tryz.sizeOf30 w) rfl rfl rfl rfl rfl rfl rfl (g_nt (g_seq (g_sr (g_mv rfl rfl (g_val rfl rfl rfl (fun w _ => v_eqlPtr (Tryz.runUnderlying110 w) rfl rfl) (g_nt ?_)))))))
    refine g_condT rfl rfl (g_sr (g_val rfl rfl rfl (fun _ _ => v_build (vs := []) (cells := [_, _]) rfl rfl) (g_stSA (us := #[_, _]) (cs' := [_, _]) (S' := [_, _, _, _, _]) 3 (fun w => Tryz.sizeOf32 w) rfl rfl rfl rfl rfl rfl rfl (g_as rfl rfl (g_nt (g_ret (g_r_then ?_)))))))
    obtain rfl := sj hm
    refine g_done rfl (fun w hh => (.cell rfl (loadVar_agg (vs := [_, _]) (Tryz.isAgg32 _) (Tryz.sizeOf32 _) (hh.cells 3 rfl rfl)) (.tmp rfl .nil))) (fun w hh => ⟨(), rfl, trivial, hh.selN [1] [] (by decide) (by decide) rfl rfl⟩)
   ·replace hm := ocR hm
    refine g_se (S' := [_, _, _, _]) (vs' := [_]) [1, 0, 2, 3] [0] 0 rfl rfl rfl rfl ?_
    refine g_callH [_] [] rfl rfl rfl rfl rfl rfl rfl Tryz.call58 (fun w hh => c_strip_desk_filled_1 d00 d01 d02 (fun p : Pair => m_strip_desk_spread_1_1 p c1_0) rb qa1 na1 ca1 qa2 na2 ca2 pb 119 (#[]) (#[ptr b 0]) ([(b, 0, [.func (.func f_c1_0) fs_c1_0 cs_c1_0])] ++ T_c1_0) w (HV.callee (S0 := [_]) (vs0 := []) hh (roA (roR hh 0 rfl (roR hh 1 rfl (roR hh 2 rfl roN))) (roA (roC (hh.bsepH 2 rfl) roN) (hh.rsepT (fun t ht => (List.mem_cons_of_mem _ (List.mem_cons_of_mem _ (List.mem_cons_of_mem _ ht)))))))) hna1 hqa1 hla1 hna2 hqa2 hla2 (⟨fun a w => Tryz.call119 a w, (fun p r hr w hT => clRet (c_strip_desk_spread_1_1 p c1_0 b f_c1_0 fs_c1_0 cs_c1_0 T_c1_0 w (HVstart hT) hcl_c1_0 hr))⟩ : ClOK Tryz.prog 119 #[] #[ptr b 0] ([(b, 0, [.func (.func f_c1_0) fs_c1_0 cs_c1_0])] ++ T_c1_0) (fun x : Pair => [.agg #[.int .i64 x.tenant, .int .i64 x.strip]]) (fun x : Int => .int .i64 x) (fun p : Pair => m_strip_desk_spread_1_1 p c1_0)) h7) (fun l_2 h11 => ?_)
    obtain ⟨h12, h13⟩ := h11
    refine g_se (S' := [_, _, _, _, _]) (vs' := [_, _, _]) [0, 1, 2, 3, 4] [0, 1, 2] 0 rfl rfl rfl rfl (g_mv rfl rfl (g_xt rfl rfl rfl (g_xt rfl rfl rfl ?_)))
    refine g_allocV (fun w => Tryz.zeroValue30 w) rfl (fun b_4 h14 => ?_)
    refine g_as rfl rfl (g_stSA (us := #[_, _]) (cs' := [_, _]) (S' := [_, _, _, _, _, _]) 0 (fun w => Tryz.sizeOf30 w) rfl rfl rfl rfl rfl rfl rfl (g_nt (g_seq (g_sr (g_mv rfl rfl (g_val rfl rfl rfl (fun w _ => v_eqlPtr (Tryz.runUnderlying110 w) rfl rfl) (g_nt ?_)))))))
    refine g_condT rfl rfl (g_sr (g_val rfl rfl rfl (fun _ _ => v_build (vs := []) (cells := [_, _]) rfl rfl) (g_stSA (us := #[_, _]) (cs' := [_, _]) (S' := [_, _, _, _, _, _]) 4 (fun w => Tryz.sizeOf32 w) rfl rfl rfl rfl rfl rfl rfl (g_as rfl rfl (g_nt (g_ret (g_r_then ?_)))))))
    obtain rfl := sj hm
    refine g_done rfl (fun w hh => (.cell rfl (loadVar_agg (vs := [_, _]) (Tryz.isAgg32 _) (Tryz.sizeOf32 _) (hh.cells 4 rfl rfl)) (.tmp rfl .nil))) (fun w hh => ⟨(), rfl, trivial, hh.selN [1] [] (by decide) (by decide) rfl rfl⟩)
  ·replace hm := ocR hm
   refine g_se (S' := [_, _, _]) (vs' := []) [2, 0, 1] [] 0 rfl rfl rfl rfl ?_
   refine g_callH [_] [] rfl rfl rfl rfl rfl rfl rfl Tryz.call58 (fun w hh => c_strip_desk_filled_1 d00 d01 d02 c1_0 rb qa1 na1 ca1 qa2 na2 ca2 pb f_c1_0 fs_c1_0 cs_c1_0 T_c1_0 w (HV.callee (S0 := [_]) (vs0 := []) hh (roA (roR hh 0 rfl (roR hh 1 rfl (roR hh 2 rfl roN))) (hh.rsepT (fun t ht => (List.mem_cons_of_mem _ (List.mem_cons_of_mem _ (List.mem_cons_of_mem _ ht))))))) hna1 hqa1 hla1 hna2 hqa2 hla2 hcl_c1_0 h3) (fun l_3 h15 => ?_)
   obtain ⟨h16, h17⟩ := h15
   refine g_se (S' := [_, _, _, _]) (vs' := [_, _]) [0, 1, 2, 3] [0, 1] 0 rfl rfl rfl rfl (g_mv rfl rfl (g_xt rfl rfl rfl (g_xt rfl rfl rfl ?_)))
   refine g_allocV (fun w => Tryz.zeroValue30 w) rfl (fun b_5 h18 => ?_)
   refine g_as rfl rfl (g_stSA (us := #[_, _]) (cs' := [_, _]) (S' := [_, _, _, _, _]) 0 (fun w => Tryz.sizeOf30 w) rfl rfl rfl rfl rfl rfl rfl (g_nx (g_mv rfl rfl (g_val rfl rfl rfl (fun _ _ => v_makeFunc (u := #[]) (u' := #[_]) rfl rfl) (g_val rfl rfl rfl (fun _ _ => v_build (vs := [(0, _)]) (cells := [_]) rfl rfl) ?_)))))
   obtain ⟨t20_1, h19, hm⟩ := bindO hm
   rcases t20_1 with t20_1a | t20_1b
   ·replace hm := ocL hm
    refine g_se (S' := [_, _, _, _, _]) (vs' := [_, _]) [1, 0, 2, 3, 4] [0, 1] 0 rfl rfl rfl rfl ?_
    refine g_callH [_] [] rfl rfl rfl rfl rfl rfl rfl Tryz.call58 (fun w hh => c_strip_desk_filled_1 d00 d01 d02 (fun p_1 : Pair => m_strip_desk_spread_1_1 p_1 c1_0) rb qa1 na1 ca1 qa2 na2 ca2 pb 119 (#[]) (#[ptr b 0]) ([(b, 0, [.func (.func f_c1_0) fs_c1_0 cs_c1_0])] ++ T_c1_0) w (HV.callee (S0 := [_]) (vs0 := []) hh (roA (roR hh 0 rfl (roR hh 1 rfl (roR hh 2 rfl roN))) (roA (roC (hh.bsepH 3 rfl) roN) (hh.rsepT (fun t ht => (List.mem_cons_of_mem _ (List.mem_cons_of_mem _ (List.mem_cons_of_mem _ ht)))))))) hna1 hqa1 hla1 hna2 hqa2 hla2 (⟨fun a w => Tryz.call119 a w, (fun p_1 r hr w hT => clRet (c_strip_desk_spread_1_1 p_1 c1_0 b f_c1_0 fs_c1_0 cs_c1_0 T_c1_0 w (HVstart hT) hcl_c1_0 hr))⟩ : ClOK Tryz.prog 119 #[] #[ptr b 0] ([(b, 0, [.func (.func f_c1_0) fs_c1_0 cs_c1_0])] ++ T_c1_0) (fun x : Pair => [.agg #[.int .i64 x.tenant, .int .i64 x.strip]]) (fun x : Int => .int .i64 x) (fun p_1 : Pair => m_strip_desk_spread_1_1 p_1 c1_0)) h19) (fun l_4 h20 => ?_)
    have h21 := h20
    refine g_se (S' := [_, _, _, _, _]) (vs' := [_, _, _]) [0, 1, 2, 3, 4] [0, 1, 2] 0 rfl rfl rfl rfl (g_mv rfl rfl (g_xt rfl rfl rfl (g_xt rfl rfl rfl ?_)))
    refine g_allocV (fun w => Tryz.zeroValue30 w) rfl (fun b_6 h22 => ?_)
    refine g_as rfl rfl (g_stSA (us := #[_, _]) (cs' := [_, _]) (S' := [_, _, _, _, _, _]) 0 (fun w => Tryz.sizeOf30 w) rfl rfl rfl rfl rfl rfl rfl (g_nt (g_seq (g_sr (g_mv rfl rfl (g_val rfl rfl rfl (fun w _ => v_eqlPtr (Tryz.runUnderlying110 w) rfl rfl) (g_nt ?_)))))))
    refine g_condF rfl rfl (g_skip (g_n_then (g_sr (g_mv rfl rfl ?_))))
    obtain ⟨t27, h23, hm⟩ := bindO hm
    refine g_callH [] [] rfl rfl rfl rfl rfl rfl rfl Tryz.call100 (fun w hh => c_strip_net_cost t13b.t12 l_3.1 (qA l_3.2.2.q) l_3.2.2.n l_3.2.2.cap w (HV.callee (S0 := []) (vs0 := []) hh (roC (bsep (hh.bseg 3 rfl)) (roC (hh.vsepA 2 rfl h17) roN))) (vlen RWay h17 rfl) (AOK.q (vne h17)) (h17).hle h23) (fun l_5 h24 => ?_)
    refine g_mv rfl rfl ?_
    exact absurd hm (by simp)
   ·replace hm := ocR hm
    refine g_se (S' := [_, _, _, _, _]) (vs' := [_, _]) [1, 0, 2, 3, 4] [0, 1] 0 rfl rfl rfl rfl ?_
    refine g_callH [_] [] rfl rfl rfl rfl rfl rfl rfl Tryz.call58 (fun w hh => c_strip_desk_filled_1 d00 d01 d02 (fun p_1 : Pair => m_strip_desk_spread_1_1 p_1 c1_0) rb qa1 na1 ca1 qa2 na2 ca2 pb 119 (#[]) (#[ptr b 0]) ([(b, 0, [.func (.func f_c1_0) fs_c1_0 cs_c1_0])] ++ T_c1_0) w (HV.callee (S0 := [_]) (vs0 := []) hh (roA (roR hh 0 rfl (roR hh 1 rfl (roR hh 2 rfl roN))) (roA (roC (hh.bsepH 3 rfl) roN) (hh.rsepT (fun t ht => (List.mem_cons_of_mem _ (List.mem_cons_of_mem _ (List.mem_cons_of_mem _ ht)))))))) hna1 hqa1 hla1 hna2 hqa2 hla2 (⟨fun a w => Tryz.call119 a w, (fun p_1 r hr w hT => clRet (c_strip_desk_spread_1_1 p_1 c1_0 b f_c1_0 fs_c1_0 cs_c1_0 T_c1_0 w (HVstart hT) hcl_c1_0 hr))⟩ : ClOK Tryz.prog 119 #[] #[ptr b 0] ([(b, 0, [.func (.func f_c1_0) fs_c1_0 cs_c1_0])] ++ T_c1_0) (fun x : Pair => [.agg #[.int .i64 x.tenant, .int .i64 x.strip]]) (fun x : Int => .int .i64 x) (fun p_1 : Pair => m_strip_desk_spread_1_1 p_1 c1_0)) h19) (fun l_6 h25 => ?_)
    obtain ⟨h26, h27⟩ := h25
    refine g_se (S' := [_, _, _, _, _, _]) (vs' := [_, _, _, _]) [0, 1, 2, 3, 4, 5] [0, 1, 2, 3] 0 rfl rfl rfl rfl (g_mv rfl rfl (g_xt rfl rfl rfl (g_xt rfl rfl rfl ?_)))
    refine g_allocV (fun w => Tryz.zeroValue30 w) rfl (fun b_7 h28 => ?_)
    refine g_as rfl rfl (g_stSA (us := #[_, _]) (cs' := [_, _]) (S' := [_, _, _, _, _, _, _]) 0 (fun w => Tryz.sizeOf30 w) rfl rfl rfl rfl rfl rfl rfl (g_nt (g_seq (g_sr (g_mv rfl rfl (g_val rfl rfl rfl (fun w _ => v_eqlPtr (Tryz.runUnderlying110 w) rfl rfl) (g_nt ?_)))))))
    refine g_condF rfl rfl (g_skip (g_n_then (g_sr (g_mv rfl rfl ?_))))
    obtain ⟨t27_1, h29, hm⟩ := bindO hm
    refine g_callH [] [] rfl rfl rfl rfl rfl rfl rfl Tryz.call100 (fun w hh => c_strip_net_cost t13b.t12 l_3.1 (qA l_3.2.2.q) l_3.2.2.n l_3.2.2.cap w (HV.callee (S0 := []) (vs0 := []) hh (roC (bsep (hh.bseg 4 rfl)) (roC (hh.vsepA 3 rfl h17) roN))) (vlen RWay h17 rfl) (AOK.q (vne h17)) (h17).hle h29) (fun l_7 h30 => ?_)
    refine g_mv rfl rfl ?_
    obtain ⟨t29, h31, hm⟩ := bindO hm
    refine g_callH [] [] rfl rfl rfl rfl rfl rfl rfl Tryz.call100 (fun w hh => c_strip_net_cost t20_1b.t12 l_6.1 (qA l_6.2.2.q) l_6.2.2.n l_6.2.2.cap w (HV.callee (S0 := []) (vs0 := []) hh (roC (bsep (hh.bseg 2 rfl)) (roC (hh.vsepA 1 rfl h27) roN))) (vlen RWay h27 rfl) (AOK.q (vne h27)) (h27).hle h31) (fun l_8 h32 => ?_)
    obtain ⟨t30, h33, hm⟩ := bindO hm
    refine g_val rfl rfl rfl (fun _ _ => v_negc h33 rfl) (g_val rfl rfl rfl (fun _ _ => v_build (vs := [(0, _), (1, _)]) (cells := [_, _]) rfl rfl) (g_stSA (us := #[_, _]) (cs' := [_, _]) (S' := [_, _, _, _, _, _, _]) 5 (fun w => Tryz.sizeOf32 w) rfl rfl rfl rfl rfl rfl rfl (g_as rfl rfl (g_nt (g_ret ?_)))))
    obtain rfl := sj hm
    refine g_done rfl (fun w hh => (.cell rfl (loadVar_agg (vs := [_, _]) (Tryz.isAgg32 _) (Tryz.sizeOf32 _) (hh.cells 5 rfl rfl)) (.tmp rfl .nil))) (fun w hh => ⟨(), rfl, trivial, hh.selN [1] [] (by decide) (by decide) rfl rfl⟩)
structure m_strip_Verdicts_R where
  r1 : Int
  r0 : (List Int)
structure m_strip_Verdicts_S0 where
  t21 : Int
  out6 : (List Int)
structure m_strip_Verdicts_C2 where
  x8 : Span
  e9 : Int
def m_strip_Verdicts_L0 (s0 : Scalps) (t12b : (List (Pair × Bool))) (s : m_strip_Verdicts_S0) : Option (m_strip_Verdicts_S0 ⊕ ((List Int) ⊕ m_strip_Verdicts_R)) :=
 if s.t21 < (s0.carried.length : Int) then
 ((((m_strip_some_2 s.t21 s0.strips s0.carried).bind fun t27 =>
 (m_strip_desk_spread_1 s0.strips s0.carried t12b (fun p_1 : Pair => m_strip_some_1_1 p_1 s.t21 s0.strips s0.carried)).bind fun t28 =>
 some (⟨t28.r0, t28.r1⟩ : m_strip_Verdicts_C2)).bind fun o_2 =>
 if o_2.e9 = 0 then
 (if o_2.x8.hi = 0 then
 ((appc 8 s.out6 [1]).bind fun t44 =>
 some (.inl t44)) else
 (if 0 < o_2.x8.lo then
 ((appc 8 s.out6 [2]).bind fun t51 =>
 some (.inl t51)) else
 ((appc 8 s.out6 [0]).bind fun t33 =>
 some (.inl t33)))) else
 (some (.inr (⟨o_2.e9, []⟩ : m_strip_Verdicts_R)))).bind fun o_1 =>
 oc o_1 (fun j_2 => (addc s.t21 1).bind fun t52 =>
 some (.inl (⟨t52, j_2⟩ : m_strip_Verdicts_S0))) (fun r_1 => some (.inr (.inr r_1)))) else
 (some (.inr (.inl s.out6)))
def m_strip_Verdicts (s0 : Scalps) : Option m_strip_Verdicts_R :=
 (m_strip_opened s0).bind fun t12 =>
 oc t12 (fun t12a => some (⟨t12a, []⟩ : m_strip_Verdicts_R)) (fun t12b => (iterM FU (m_strip_Verdicts_L0 s0 t12b) (⟨0, []⟩ : m_strip_Verdicts_S0)).bind fun o =>
 oc o (fun j_3 => some (⟨0, j_3⟩ : m_strip_Verdicts_R)) (fun r_2 => some r_2))
theorem c_strip_Verdicts (s0 : Scalps) (qa0 : Option Addr) (na0 ca0 : Nat) (qa1 : Option Addr) (na1 ca1 : Nat) (w : World) (hw : HV w (keys [] []) [] [] [(aB qa0, aO qa0, RSt.enc s0.strips), (aB qa1, aO qa1, RSp.enc s0.carried)] w) (hna0 : s0.strips.length = na0) (hqa0 : AOK na0 qa0) (hla0 : na0 ≤ ca0) (hna1 : s0.carried.length = na1) (hqa1 : AOK na1 qa1) (hla1 : na1 ≤ ca1) {res : m_strip_Verdicts_R} (hm : m_strip_Verdicts s0 = some res) :
    Calls Tryz.prog 28 #[.agg #[.slice qa0 na0 ca0, .slice qa1 na1 ca1]] w (fun en w' => ∃ l : VL, en = .returned (.tuple #[slv l.q l.n l.cap, .int .i64 res.r1]) ∧ (VOK 1 l.n l.cap (RI.enc res.r0) l.sp l.q) ∧ HV w (keys [] []) [] [⟨62, RI.enc res.r0, l.sp, l.q, []⟩] [] w') := by
  unfold m_strip_Verdicts at hm
  refine g_en Tryz.func28 rfl Tryz.ntmps28 rfl (e := [(0, _)]) rfl hw (g_sr ?_)
  refine g_boxV rfl rfl (fun b h2 => ?_)
  refine g_val rfl rfl rfl (fun _ _ => v_nilS rfl) (g_as rfl rfl (g_nx (g_la [_, _] 0 Tryz.isAgg25 Tryz.sizeOf25 rfl rfl rfl rfl ?_)))
  obtain ⟨t12, h3, hm⟩ := bindO hm
  rcases t12 with t12a | t12b
  ·replace hm := ocL hm
   refine g_callH [] [] rfl rfl rfl rfl rfl rfl rfl Tryz.call57 (fun w hh => c_strip_opened s0 qa0 na0 ca0 qa1 na1 ca1 w (HV.callee (S0 := []) (vs0 := []) hh (roR hh 0 rfl (roR hh 1 rfl roN))) hna0 hqa0 hla0 hna1 hqa1 hla1 h3) (fun l h4 => ?_)
   have h5 := h4
   refine g_mv rfl rfl (g_xt rfl rfl rfl (g_xt rfl rfl rfl ?_))
   refine g_allocV (fun w => Tryz.zeroValue107 w) rfl (fun b_1 h6 => ?_)
   refine g_stS (cs' := #[_]) (S' := [_, _]) 0 (fun w => Tryz.sizeOf107 w) rfl rfl rfl rfl rfl rfl rfl (g_as rfl rfl (g_nt (g_seq (g_sr (g_mv rfl rfl (g_val rfl rfl rfl (fun _ _ => v_neqT h5 rfl rfl) (g_nt ?_)))))))
   refine g_condT rfl rfl (g_sr (g_mv rfl rfl (g_val rfl rfl rfl (fun _ _ => v_nilS rfl) (g_as rfl rfl (g_nt (g_ret (g_r_then ?_)))))))
   refine g_vnil 62 ?_
   obtain rfl := sj hm
   refine g_done rfl (fun w hh => (.tmp rfl (.tmp rfl .nil))) (fun w hh => ⟨⟨none, 0, 0, []⟩, rfl, VOK.nil, hh.se [] [0] 2 rfl rfl rfl rfl⟩)
  ·replace hm := ocR hm
   refine g_callH [] [] rfl rfl rfl rfl rfl rfl rfl Tryz.call57 (fun w hh => c_strip_opened s0 qa0 na0 ca0 qa1 na1 ca1 w (HV.callee (S0 := []) (vs0 := []) hh (roR hh 0 rfl (roR hh 1 rfl roN))) hna0 hqa0 hla0 hna1 hqa1 hla1 h3) (fun l_1 h7 => ?_)
   refine g_se (S' := [_, _, _]) (vs' := []) [0, 1, 2] [] 0 rfl rfl rfl rfl (g_mv rfl rfl (g_xt rfl rfl rfl (g_xt rfl rfl rfl ?_)))
   refine g_allocV (fun w => Tryz.zeroValue107 w) rfl (fun b_2 h8 => ?_)
   refine g_stS (cs' := #[_]) (S' := [_, _, _, _]) 0 (fun w => Tryz.sizeOf107 w) rfl rfl rfl rfl rfl rfl rfl (g_as rfl rfl (g_nt (g_seq (g_sr (g_mv rfl rfl (g_val rfl rfl rfl (fun _ _ => v_neq rfl rfl) (g_nt ?_)))))))
   refine g_condF rfl rfl (g_skip (g_n_then (g_sr (g_val rfl rfl rfl (fun _ _ => v_nilS rfl) (g_nt (g_seq (g_sr ?_)))))))
   refine g_fa 1 Tryz.runUnderlying25 rfl Tryz.sizeOf23 rfl rfl (g_lc 3 Tryz.isAgg23 rfl rfl rfl rfl (g_val rfl rfl rfl (fun w _ => v_lenR hna1 (Tryz.runUnderlying23 w) rfl) (g_mv rfl rfl (g_nt (g_vnil 62 ?_)))))
   obtain ⟨o, h9, h10⟩ := bindO hm
   refine g_cut (ι := (List Int) × VL) (fun j => o = .inl j.1 ∧ VOK 1 j.2.n j.2.cap (RI.enc j.1) j.2.sp j.2.q) (fun j => [(6, slv j.2.q j.2.n j.2.cap)]) (fun j => [(b_2, .cells #[ptr l_1.1 0] 107 (0, 0)), (l_1.1, .cells #[.slice qa0 na0 ca0, .slice qa1 na1 ca1, .map (some l_1.2)] 144 (0, 0)), (l_1.2, gobj (kR RPr) kB t12b), (b, .cells #[.slice qa0 na0 ca0, .slice qa1 na1 ca1] 25 (0, 0))]) (fun j => [⟨62, RI.enc j.1, j.2.sp, j.2.q, []⟩]) ?_ ?_
   ·replace hm := h9
    refine g_block ?_
    refine g_loopF (ι := VL) hm (fun s l_2 => VOK 1 l_2.n l_2.cap (RI.enc s.out6) l_2.sp l_2.q) (fun s l_2 => [(4, ptr b_2 0), (6, slv l_2.q l_2.n l_2.cap), (20, .int .i64 (s0.carried.length : Int)), (21, .int .i64 s.t21)]) (fun s l_2 => [(b_2, .cells #[ptr l_1.1 0] 107 (0, 0)), (l_1.1, .cells #[.slice qa0 na0 ca0, .slice qa1 na1 ca1, .map (some l_1.2)] 144 (0, 0)), (l_1.2, gobj (kR RPr) kB t12b), (b, .cells #[.slice qa0 na0 ca0, .slice qa1 na1 ca1] 25 (0, 0))]) (fun s l_2 => [⟨62, RI.enc s.out6, l_2.sp, l_2.q, []⟩]) ⟨none, 0, 0, []⟩ (VOK.nil) (sE rfl) (fun w hh => hh) (fun s l_2 r hpl hm h13 => ?_)
    have h12 := hpl
    unfold m_strip_Verdicts_L0 at hm
    refine g_sr (g_ls rfl rfl rfl (g_nt (g_seq ?_)))
    refine g_cond rfl (fun h14 => ?_) (fun h14 => ?_)
    ·replace hm := ifD h14 hm
     refine g_skip (g_n_then (g_seq ?_))
     obtain ⟨o_1, h15, h16⟩ := bindO hm
     refine g_cut (ι := (List Int) × VL) (fun j_1 => o_1 = .inl j_1.1 ∧ VOK 1 j_1.2.n j_1.2.cap (RI.enc j_1.1) j_1.2.sp j_1.2.q) (fun j_1 => [(4, ptr b_2 0), (6, slv j_1.2.q j_1.2.n j_1.2.cap), (20, .int .i64 (s0.carried.length : Int)), (21, .int .i64 s.t21)]) (fun j_1 => [(b_2, .cells #[ptr l_1.1 0] 107 (0, 0)), (l_1.1, .cells #[.slice qa0 na0 ca0, .slice qa1 na1 ca1, .map (some l_1.2)] 144 (0, 0)), (l_1.2, gobj (kR RPr) kB t12b), (b, .cells #[.slice qa0 na0 ca0, .slice qa1 na1 ca1] 25 (0, 0))]) (fun j_1 => [⟨62, RI.enc j_1.1, j_1.2.sp, j_1.2.q, []⟩]) ?_ ?_
     ·replace hm := h15
      refine g_block (g_sr (g_mv rfl rfl ?_))
      refine g_allocV (fun w => Tryz.zeroValue3 w) rfl (fun b_3 h18 => ?_)
      refine g_stS (cs' := #[_]) (S' := [_, _, _, _, _]) 0 (fun w => Tryz.sizeOf3 w) rfl rfl rfl rfl rfl rfl rfl (g_nt (g_seq ?_))
      obtain ⟨o_2, h19, h20⟩ := bindO hm
      refine g_cut (ι := Nat) (fun l_3 => True) (fun l_3 => [(4, ptr b_2 0), (6, slv l_2.q l_2.n l_2.cap), (8, ptr l_3 0), (9, .int .i64 o_2.e9), (20, .int .i64 (s0.carried.length : Int)), (21, .int .i64 s.t21)]) (fun l_3 => [(b_3, .cells #[.int .i64 s.t21] 3 (0, 0)), (b_2, .cells #[ptr l_1.1 0] 107 (0, 0)), (l_1.1, .cells #[.slice qa0 na0 ca0, .slice qa1 na1 ca1, .map (some l_1.2)] 144 (0, 0)), (l_1.2, gobj (kR RPr) kB t12b), (b, .cells #[.slice qa0 na0 ca0, .slice qa1 na1 ca1] 25 (0, 0)), (l_3, .cells #[.int .i64 o_2.x8.lo, .int .i64 o_2.x8.hi] 32 (0, 0))]) (fun l_3 => [⟨62, RI.enc s.out6, l_2.sp, l_2.q, []⟩]) ?_ ?_
      ·replace hm := h19
       obtain ⟨t27, h21, hm⟩ := bindO hm
       obtain ⟨t28, h22, hm⟩ := bindO hm
       refine g_draw none (.hoist 0 (.free 1 (.br (.alt 2 (.br (.alt 3 (.free 4 (.free 5 (.free 6 (.one 7 (.one 8 (.free 9 .done)))))) (.alt 7 (.one 3 (.free 4 (.free 5 (.free 6 (.one 8 (.free 9 .done)))))) .nil))) (.alt 7 (.one 2 (.one 3 (.free 4 (.free 5 (.free 6 (.one 8 (.free 9 .done))))))) .nil))))) _ rfl (by decide +kernel) (fun w k hh => hh.draw k) (fun w hh => hh) ?_
       refine p_lc 1 Tryz.isAgg107 rfl rfl rfl rfl rfl (p_free rfl rfl rfl rfl (fun _ _ => v_makeFunc (u := #[]) (u' := #[_, _]) rfl rfl) (p_br ?_))
       refine p_alt rfl ?_ ?_
       ·refine g_callH [] [] rfl rfl rfl rfl rfl rfl rfl Tryz.call80 (fun w hh => c_strip_some_2 s.t21 s0.strips s0.carried b_3 b_2 l_1.1 qa0 na0 ca0 qa1 na1 ca1 (.map (some l_1.2)) w (HV.callee (S0 := []) (vs0 := []) hh (roC (bsep (hh.bseg 0 rfl)) (roC (bsep (hh.bseg 1 rfl)) (roC (bsep (hh.bseg 2 rfl)) (roR hh 0 rfl (roR hh 1 rfl roN)))))) hna0 hqa0 hla0 hna1 hqa1 hla1 h21) (fun l_4 h23 => ?_)
        refine g_se (S' := [_, _, _, _, _, _]) (vs' := [_]) [0, 1, 2, 3, 4, 5] [0] 0 rfl rfl rfl rfl (p_next (hsE [1, 2, 3, 4, 5] [0] 0 rfl rfl rfl rfl) (p_br ?_))
        refine p_alt rfl ?_ ?_
        ·refine g_se (S' := [_, _, _, _, _, _]) (vs' := [_]) [4, 0, 1, 2, 3, 5] [0] 0 rfl rfl rfl rfl ?_
         refine g_callH [_] [] rfl rfl rfl rfl rfl rfl rfl Tryz.call79 (fun w hh => c_strip_desk_spread_1 s0.strips s0.carried t12b (fun p_1 : Pair => m_strip_some_1_1 p_1 s.t21 s0.strips s0.carried) l_1.1 qa0 na0 ca0 qa1 na1 ca1 l_1.2 120 (#[]) (#[ptr l_4 0]) ([(l_4, 0, [.func (.func 85) #[] #[ptr b_3 0, ptr b_2 0]]), (b_3, 0, [.int .i64 s.t21]), (b_2, 0, [ptr l_1.1 0]), (l_1.1, 0, [.slice qa0 na0 ca0, .slice qa1 na1 ca1, .map (some l_1.2)]), (aB qa0, aO qa0, RSt.enc s0.strips), (aB qa1, aO qa1, RSp.enc s0.carried)]) w (HV.callee (S0 := [_]) (vs0 := []) hh (roA (roC (hh.bsepH 3 rfl) (roR hh 0 rfl (roR hh 1 rfl roN))) (roC (hh.bsepH 0 rfl) (roC (hh.bsepH 1 rfl) (roC (hh.bsepH 2 rfl) (roC (hh.bsepH 3 rfl) (roR hh 0 rfl (roR hh 1 rfl roN)))))))) hna0 hqa0 hla0 hna1 hqa1 hla1 (⟨fun a w => Tryz.call120 a w, (fun p_1 r hr w hT => clRet (c_strip_some_1_1 p_1 s.t21 s0.strips s0.carried l_4 b_3 b_2 l_1.1 qa0 na0 ca0 qa1 na1 ca1 (.map (some l_1.2)) w (HVstart hT) hna0 hqa0 hla0 hna1 hqa1 hla1 hr))⟩ : ClOK Tryz.prog 120 #[] #[ptr l_4 0] ([(l_4, 0, [.func (.func 85) #[] #[ptr b_3 0, ptr b_2 0]]), (b_3, 0, [.int .i64 s.t21]), (b_2, 0, [ptr l_1.1 0]), (l_1.1, 0, [.slice qa0 na0 ca0, .slice qa1 na1 ca1, .map (some l_1.2)]), (aB qa0, aO qa0, RSt.enc s0.strips), (aB qa1, aO qa1, RSp.enc s0.carried)]) (fun x : Pair => [.agg #[.int .i64 x.tenant, .int .i64 x.strip]]) (fun x : Int => .int .i64 x) (fun p_1 : Pair => m_strip_some_1_1 p_1 s.t21 s0.strips s0.carried)) h22) (fun l_5 h24 => ?_)
         refine g_se (S' := [_, _, _, _, _, _]) (vs' := [_]) [0, 1, 2, 3, 4, 5] [0] 0 rfl rfl rfl rfl (p_next (hsE [2, 3, 4, 0, 5] [0] 0 rfl rfl rfl rfl) (p_mv rfl rfl rfl (p_free rfl rfl rfl rfl (fun _ _ => v_extract rfl rfl) (p_free rfl rfl rfl rfl (fun _ _ => v_extract rfl rfl) (p_one rfl ?_)))))
         refine g_allocV (fun w => Tryz.zeroValue32 w) rfl (fun b_4 h25 => ?_)
         refine p_next (hsE [3, 4, 5, 1, 6] [0] 0 rfl rfl rfl rfl) (p_one rfl (g_stSA (us := #[_, _]) (cs' := [_, _]) (S' := [_, _, _, _, _, _, _]) 0 (fun w => Tryz.sizeOf32 w) rfl rfl rfl rfl rfl rfl rfl (p_next (hsE [3, 4, 5, 1, 6] [0] 0 rfl rfl rfl rfl) (p_free rfl rfl rfl rfl (fun _ _ => v_assign rfl) (p_done ?_)))))
         obtain rfl := sj hm
         exact g_leaf b_4 (trivial) (sE rfl) (hsE [3, 4, 5, 1, 6, 0] [0] 0 rfl rfl rfl rfl)
        refine p_alt rfl ?_ ?_
        ·refine g_allocV (fun w => Tryz.zeroValue32 w) rfl (fun b_5 h26 => ?_)
         refine p_next (hsE [2, 3, 4, 5, 6] [0] 0 rfl rfl rfl rfl) (p_one rfl (g_se (S' := [_, _, _, _, _, _, _]) (vs' := [_]) [5, 0, 1, 2, 3, 4, 6] [0] 0 rfl rfl rfl rfl ?_))
         refine g_callH [_] [] rfl rfl rfl rfl rfl rfl rfl Tryz.call79 (fun w hh => c_strip_desk_spread_1 s0.strips s0.carried t12b (fun p_3 : Pair => m_strip_some_1_1 p_3 s.t21 s0.strips s0.carried) l_1.1 qa0 na0 ca0 qa1 na1 ca1 l_1.2 120 (#[]) (#[ptr l_4 0]) ([(l_4, 0, [.func (.func 85) #[] #[ptr b_3 0, ptr b_2 0]]), (b_3, 0, [.int .i64 s.t21]), (b_2, 0, [ptr l_1.1 0]), (l_1.1, 0, [.slice qa0 na0 ca0, .slice qa1 na1 ca1, .map (some l_1.2)]), (aB qa0, aO qa0, RSt.enc s0.strips), (aB qa1, aO qa1, RSp.enc s0.carried)]) w (HV.callee (S0 := [_]) (vs0 := []) hh (roA (roC (hh.bsepH 4 rfl) (roR hh 0 rfl (roR hh 1 rfl roN))) (roC (hh.bsepH 1 rfl) (roC (hh.bsepH 2 rfl) (roC (hh.bsepH 3 rfl) (roC (hh.bsepH 4 rfl) (roR hh 0 rfl (roR hh 1 rfl roN)))))))) hna0 hqa0 hla0 hna1 hqa1 hla1 (⟨fun a w => Tryz.call120 a w, (fun p_3 r hr w hT => clRet (c_strip_some_1_1 p_3 s.t21 s0.strips s0.carried l_4 b_3 b_2 l_1.1 qa0 na0 ca0 qa1 na1 ca1 (.map (some l_1.2)) w (HVstart hT) hna0 hqa0 hla0 hna1 hqa1 hla1 hr))⟩ : ClOK Tryz.prog 120 #[] #[ptr l_4 0] ([(l_4, 0, [.func (.func 85) #[] #[ptr b_3 0, ptr b_2 0]]), (b_3, 0, [.int .i64 s.t21]), (b_2, 0, [ptr l_1.1 0]), (l_1.1, 0, [.slice qa0 na0 ca0, .slice qa1 na1 ca1, .map (some l_1.2)]), (aB qa0, aO qa0, RSt.enc s0.strips), (aB qa1, aO qa1, RSp.enc s0.carried)]) (fun x : Pair => [.agg #[.int .i64 x.tenant, .int .i64 x.strip]]) (fun x : Int => .int .i64 x) (fun p_3 : Pair => m_strip_some_1_1 p_3 s.t21 s0.strips s0.carried)) h22) (fun l_6 h27 => ?_)
         refine g_se (S' := [_, _, _, _, _, _, _]) (vs' := [_]) [0, 1, 2, 3, 4, 5, 6] [0] 0 rfl rfl rfl rfl (p_next (hsE [3, 4, 5, 0, 6] [0] 0 rfl rfl rfl rfl) (p_mv rfl rfl rfl (p_free rfl rfl rfl rfl (fun _ _ => v_extract rfl rfl) (p_free rfl rfl rfl rfl (fun _ _ => v_extract rfl rfl) (p_one rfl (g_stSA (us := #[_, _]) (cs' := [_, _]) (S' := [_, _, _, _, _, _, _]) 1 (fun w => Tryz.sizeOf32 w) rfl rfl rfl rfl rfl rfl rfl (p_next (hsE [3, 4, 5, 0, 6] [0] 0 rfl rfl rfl rfl) ?_)))))))
         refine p_free rfl rfl rfl rfl (fun _ _ => v_assign rfl) (p_done ?_)
         obtain rfl := sj hm
         exact g_leaf b_5 (trivial) (sE rfl) (hsE [3, 4, 5, 0, 6, 1] [0] 0 rfl rfl rfl rfl)
        exact p_nil
       refine p_alt rfl ?_ ?_
       ·refine g_allocV (fun w => Tryz.zeroValue32 w) rfl (fun b_6 h28 => ?_)
        refine p_next (hsE [1, 2, 3, 4, 5] [0] 0 rfl rfl rfl rfl) (p_one rfl ?_)
        refine g_callH [] [] rfl rfl rfl rfl rfl rfl rfl Tryz.call80 (fun w hh => c_strip_some_2 s.t21 s0.strips s0.carried b_3 b_2 l_1.1 qa0 na0 ca0 qa1 na1 ca1 (.map (some l_1.2)) w (HV.callee (S0 := []) (vs0 := []) hh (roC (bsep (hh.bseg 1 rfl)) (roC (bsep (hh.bseg 2 rfl)) (roC (bsep (hh.bseg 3 rfl)) (roR hh 0 rfl (roR hh 1 rfl roN)))))) hna0 hqa0 hla0 hna1 hqa1 hla1 h21) (fun l_7 h29 => ?_)
        refine g_se (S' := [_, _, _, _, _, _, _]) (vs' := [_]) [0, 1, 2, 3, 4, 5, 6] [0] 0 rfl rfl rfl rfl (p_next (hsE [2, 3, 4, 5, 6] [0] 0 rfl rfl rfl rfl) (p_one rfl (g_se (S' := [_, _, _, _, _, _, _]) (vs' := [_]) [5, 0, 1, 2, 3, 4, 6] [0] 0 rfl rfl rfl rfl ?_)))
        refine g_callH [_] [] rfl rfl rfl rfl rfl rfl rfl Tryz.call79 (fun w hh => c_strip_desk_spread_1 s0.strips s0.carried t12b (fun p_5 : Pair => m_strip_some_1_1 p_5 s.t21 s0.strips s0.carried) l_1.1 qa0 na0 ca0 qa1 na1 ca1 l_1.2 120 (#[]) (#[ptr l_7 0]) ([(l_7, 0, [.func (.func 85) #[] #[ptr b_3 0, ptr b_2 0]]), (b_3, 0, [.int .i64 s.t21]), (b_2, 0, [ptr l_1.1 0]), (l_1.1, 0, [.slice qa0 na0 ca0, .slice qa1 na1 ca1, .map (some l_1.2)]), (aB qa0, aO qa0, RSt.enc s0.strips), (aB qa1, aO qa1, RSp.enc s0.carried)]) w (HV.callee (S0 := [_]) (vs0 := []) hh (roA (roC (hh.bsepH 4 rfl) (roR hh 0 rfl (roR hh 1 rfl roN))) (roC (hh.bsepH 0 rfl) (roC (hh.bsepH 2 rfl) (roC (hh.bsepH 3 rfl) (roC (hh.bsepH 4 rfl) (roR hh 0 rfl (roR hh 1 rfl roN)))))))) hna0 hqa0 hla0 hna1 hqa1 hla1 (⟨fun a w => Tryz.call120 a w, (fun p_5 r hr w hT => clRet (c_strip_some_1_1 p_5 s.t21 s0.strips s0.carried l_7 b_3 b_2 l_1.1 qa0 na0 ca0 qa1 na1 ca1 (.map (some l_1.2)) w (HVstart hT) hna0 hqa0 hla0 hna1 hqa1 hla1 hr))⟩ : ClOK Tryz.prog 120 #[] #[ptr l_7 0] ([(l_7, 0, [.func (.func 85) #[] #[ptr b_3 0, ptr b_2 0]]), (b_3, 0, [.int .i64 s.t21]), (b_2, 0, [ptr l_1.1 0]), (l_1.1, 0, [.slice qa0 na0 ca0, .slice qa1 na1 ca1, .map (some l_1.2)]), (aB qa0, aO qa0, RSt.enc s0.strips), (aB qa1, aO qa1, RSp.enc s0.carried)]) (fun x : Pair => [.agg #[.int .i64 x.tenant, .int .i64 x.strip]]) (fun x : Int => .int .i64 x) (fun p_5 : Pair => m_strip_some_1_1 p_5 s.t21 s0.strips s0.carried)) h22) (fun l_8 h30 => ?_)
        refine g_se (S' := [_, _, _, _, _, _, _]) (vs' := [_]) [0, 1, 2, 3, 4, 5, 6] [0] 0 rfl rfl rfl rfl (p_next (hsE [3, 4, 5, 0, 6] [0] 0 rfl rfl rfl rfl) (p_mv rfl rfl rfl (p_free rfl rfl rfl rfl (fun _ _ => v_extract rfl rfl) (p_free rfl rfl rfl rfl (fun _ _ => v_extract rfl rfl) (p_one rfl (g_stSA (us := #[_, _]) (cs' := [_, _]) (S' := [_, _, _, _, _, _, _]) 2 (fun w => Tryz.sizeOf32 w) rfl rfl rfl rfl rfl rfl rfl (p_next (hsE [3, 4, 5, 0, 6] [0] 0 rfl rfl rfl rfl) ?_)))))))
        refine p_free rfl rfl rfl rfl (fun _ _ => v_assign rfl) (p_done ?_)
        obtain rfl := sj hm
        exact g_leaf b_6 (trivial) (sE rfl) (hsE [3, 4, 5, 0, 6, 2] [0] 0 rfl rfl rfl rfl)
       exact p_nil
      ·intro l_3 hj
       replace hm := h20
       refine g_n_then (g_block (g_sr (g_mv rfl rfl (g_val rfl rfl rfl (fun _ _ => v_neq rfl rfl) (g_as rfl rfl (g_nt ?_))))))
       refine g_cond rfl (fun h31 => ?_) (fun h31 => ?_)
       ·replace hm := ifF (of_ndec_true h31) hm
        refine g_sr (g_mv rfl rfl (g_val rfl rfl rfl (fun _ _ => v_nilS rfl) (g_as rfl rfl (g_nt (g_ret (g_r_blk (g_r_blk ?_)))))))
        obtain rfl := sj hm
        refine g_r_then ?_
        replace hm := ocR h16
        refine g_r_then (g_r_then (g_r_blk ?_))
        obtain rfl := sj hm
        have hbo := h13 _ rfl
        subst hbo
        refine g_r_then ?_
        replace hm := ocR h10
        refine g_r_then (g_vnil 62 ?_)
        obtain rfl := sj hm
        refine g_done rfl (fun w hh => (.tmp rfl (.tmp rfl .nil))) (fun w hh => ⟨⟨none, 0, 0, []⟩, rfl, VOK.nil, hh.se [] [0] 2 rfl rfl rfl rfl⟩)
       ·replace hm := ifT (of_ndec_false h31) hm
        refine g_sr (g_fa 1 Tryz.runUnderlying32 rfl Tryz.sizeOf3 rfl rfl (g_lc 5 Tryz.isAgg3 rfl rfl rfl rfl (g_val rfl rfl rfl (fun _ _ => v_eql rfl rfl) (g_as rfl rfl (g_nt ?_)))))
        refine g_cond rfl (fun h32 => ?_) (fun h32 => ?_)
        ·replace hm := ifD h32 hm
         refine g_region (g_mv rfl rfl ?_)
         refine g_vlit RI [1] (ps := [(0, _)]) (cells := [_]) (fun w => Tryz.runUnderlying60 w) (fun w => Tryz.sizeOf62 w) (fun w => Tryz.zeroValue62 w) rfl rfl rfl rfl rfl rfl rfl rfl (fun L h33 => ?_)
         obtain ⟨t44, h34, hm⟩ := bindO hm
         refine g_vapp RI 1 h34 Tryz.underlying60 gxinf62 rfl rfl rfl rfl rfl h12 rfl rfl (vlen RI h33 rfl) (AOK.q (vne h33)) (fun w hh => (hh.vsegA 0 rfl h33)) rfl (fun L_1 h35 h35n => ?_)
         refine g_se (S' := [_, _, _, _, _, _]) (vs' := [_, _]) [0, 1, 2, 3, 4, 5] [0, 1] 0 rfl rfl rfl rfl (g_as rfl rfl (g_nil (g_n_blk (g_n_blk ?_))))
         obtain rfl := sj hm
         exact g_leaf (t44, L_1) (⟨rfl, h35⟩) (sE rfl) (hsE [1, 2, 3, 4] [1] 0 rfl rfl rfl rfl)
        ·replace hm := ifE h32 hm
         refine g_sr (g_fa 0 Tryz.runUnderlying32 rfl Tryz.sizeOf3 rfl rfl (g_lc 5 Tryz.isAgg3 rfl rfl rfl rfl (g_val rfl rfl rfl (fun _ _ => v_gtr rfl rfl) (g_as rfl rfl (g_nt ?_)))))
         refine g_cond rfl (fun h36 => ?_) (fun h36 => ?_)
         ·replace hm := ifD h36 hm
          refine g_region (g_mv rfl rfl ?_)
          refine g_vlit RI [2] (ps := [(0, _)]) (cells := [_]) (fun w => Tryz.runUnderlying60 w) (fun w => Tryz.sizeOf62 w) (fun w => Tryz.zeroValue62 w) rfl rfl rfl rfl rfl rfl rfl rfl (fun L_2 h37 => ?_)
          obtain ⟨t51, h38, hm⟩ := bindO hm
          refine g_vapp RI 1 h38 Tryz.underlying60 gxinf62 rfl rfl rfl rfl rfl h12 rfl rfl (vlen RI h37 rfl) (AOK.q (vne h37)) (fun w hh => (hh.vsegA 0 rfl h37)) rfl (fun L_3 h39 h39n => ?_)
          refine g_se (S' := [_, _, _, _, _, _]) (vs' := [_, _]) [0, 1, 2, 3, 4, 5] [0, 1] 0 rfl rfl rfl rfl (g_as rfl rfl (g_nil (g_n_blk (g_n_blk ?_))))
          obtain rfl := sj hm
          exact g_leaf (t51, L_3) (⟨rfl, h39⟩) (sE rfl) (hsE [1, 2, 3, 4] [1] 0 rfl rfl rfl rfl)
         ·replace hm := ifE h36 hm
          refine g_region (g_mv rfl rfl ?_)
          refine g_vlit RI [0] (ps := [(0, _)]) (cells := [_]) (fun w => Tryz.runUnderlying60 w) (fun w => Tryz.sizeOf62 w) (fun w => Tryz.zeroValue62 w) rfl rfl rfl rfl rfl rfl rfl rfl (fun L_4 h40 => ?_)
          obtain ⟨t33, h41, hm⟩ := bindO hm
          refine g_vapp RI 1 h41 Tryz.underlying60 gxinf62 rfl rfl rfl rfl rfl h12 rfl rfl (vlen RI h40 rfl) (AOK.q (vne h40)) (fun w hh => (hh.vsegA 0 rfl h40)) rfl (fun L_5 h42 h42n => ?_)
          refine g_se (S' := [_, _, _, _, _, _]) (vs' := [_, _]) [0, 1, 2, 3, 4, 5] [0, 1] 0 rfl rfl rfl rfl (g_as rfl rfl (g_nil (g_n_blk (g_n_blk ?_))))
          obtain rfl := sj hm
          exact g_leaf (t33, L_5) (⟨rfl, h42⟩) (sE rfl) (hsE [1, 2, 3, 4] [1] 0 rfl rfl rfl rfl)
     ·rintro ⟨j_2, l_9⟩ hj
      obtain ⟨h44, h43⟩ := hj
      subst h44
      replace hm := ocL h16
      refine g_n_then (g_region ?_)
      obtain ⟨t52, h45, hm⟩ := bindO hm
      refine g_ac h45 rfl rfl rfl (g_mv rfl rfl (g_nil ?_))
      obtain rfl := sj hm
      refine g_n_then ?_
      exact g_again' _ l_9 rfl (h43) (sE rfl) (fun w hh => hh)
    ·replace hm := ifE h14 hm
     refine g_exit (g_x_then (g_x_then (g_x_blk ?_)))
     obtain rfl := sj hm
     have hbo := h13 _ rfl
     subst hbo
     exact g_leaf (s.out6, l_2) (⟨rfl, h12⟩) (sE rfl) (fun w hh => hh)
   ·rintro ⟨j_3, l_10⟩ hj
    obtain ⟨h47, h46⟩ := hj
    subst h47
    replace hm := ocL h10
    refine g_n_then (g_sr (g_mv rfl rfl (g_as rfl rfl (g_as rfl rfl (g_nt (g_ret ?_))))))
    obtain rfl := sj hm
    refine g_done rfl (fun w hh => (.tmp rfl (.tmp rfl .nil))) (fun w hh => ⟨l_10, rfl, h46, hh.se [] [0] 2 rfl rfl rfl rfl⟩)
def m_strip_Proves_1 (n0 : Int) : Option Bool :=
 (m_strip_in n0 (-20) 20).bind fun t4 =>
 some t4
theorem c_strip_Proves_1 (n0 : Int)  (w : World) (hw : HV w (keys [] []) [] [] [] w)  {res : Bool} (hm : m_strip_Proves_1 n0 = some res) :
    Calls Tryz.prog 61 #[.int .i64 n0] w (fun en w' => ∃ l : Unit, en = .returned (.bool res) ∧ (True) ∧ HV w (keys [] []) [] [] [] w') := by
  unfold m_strip_Proves_1 at hm
  refine g_en Tryz.func61 rfl Tryz.ntmps61 rfl (e := [(0, _)]) rfl hw (g_sr (g_as rfl rfl (g_nx (g_mv rfl rfl ?_))))
  obtain ⟨t4, h1, hm⟩ := bindO hm
  refine g_callH [] [] rfl rfl rfl rfl rfl rfl rfl Tryz.call62 (fun w hh => c_strip_in n0 (-20) 20 w (HV.callee (S0 := []) (vs0 := []) hh roN)  h1) (fun l h2 => ?_)
  refine g_as rfl rfl (g_nt (g_ret ?_))
  obtain rfl := sj hm
  refine g_done rfl (fun w hh => (.tmp rfl .nil)) (fun w hh => ⟨(), rfl, trivial, hh⟩)
def m_strip_every_int_1 (x0 : Int) : Option Bool :=
 (m_strip_Proves_1 x0).bind fun t6 =>
 some (!t6)
theorem c_strip_every_int_1 (x0 : Int) (rb : Nat) (w : World) (hw : HV w (keys [] []) [] [] [(rb, 0, [.func (.func 61) #[] #[]])] w)  {res : Bool} (hm : m_strip_every_int_1 x0 = some res) :
    Calls Tryz.prog 111 #[.int .i64 x0, ptr rb 0] w (fun en w' => ∃ l : Unit, en = .returned (.bool res) ∧ (True) ∧ HV w (keys [] []) [] [] [] w') := by
  unfold m_strip_every_int_1 at hm
  refine g_en Tryz.func111 rfl Tryz.ntmps111 rfl (e := [(0, _), (1, _)]) rfl hw (g_sr (g_as rfl rfl (g_nx (g_val rfl rfl rfl (fun w hh => v_load (Tryz.isAgg120 w) rfl (segCell (hh.seg 0 rfl) 0 rfl)) (g_mv rfl rfl ?_)))))
  obtain ⟨t6, h1, hm⟩ := bindO hm
  refine g_callH [] [] rfl rfl rfl rfl rfl rfl rfl Tryz.call61 (fun w hh => c_strip_Proves_1 x0 w (HV.callee (S0 := []) (vs0 := []) hh roN)  h1) (fun l h2 => ?_)
  refine g_val rfl rfl rfl (fun _ _ => v_not rfl) (g_as rfl rfl (g_nt (g_ret ?_)))
  obtain rfl := sj hm
  refine g_done rfl (fun w hh => (.tmp rfl .nil)) (fun w hh => ⟨(), rfl, trivial, hh.se [] [] 1 rfl rfl rfl rfl⟩)
def m_slices_IndexFunc_intint_L0 (s0 : (List Int)) (s : Int) : Option (Int ⊕ (Unit ⊕ Int)) :=
 if s < (s0.length : Int) then
 ((ix s0 s).bind fun t14 =>
 (m_strip_every_int_1 t14).bind fun t16 =>
 if t16 = true then
 (some (.inr (.inr s))) else
 ((addc s 1).bind fun t18 =>
 some (.inl t18))) else
 (some (.inr (.inl ())))
def m_slices_IndexFunc_intint (s0 : (List Int)) : Option Int :=
 (iterM FU (m_slices_IndexFunc_intint_L0 s0) 0).bind fun o =>
 oc o (fun j => some (-1)) (fun r_1 => some r_1)
theorem c_slices_IndexFunc_intint (s0 : (List Int)) (qa0 : Option Addr) (na0 ca0 : Nat) (rb : Nat) (w : World) (hw : HV w (keys [] []) [] [] [(aB qa0, aO qa0, RI.enc s0), (rb, 0, [.func (.func 61) #[] #[]])] w) (hna0 : s0.length = na0) (hqa0 : AOK na0 qa0) (hla0 : na0 ≤ ca0)  {res : Int} (hm : m_slices_IndexFunc_intint s0 = some res) :
    Calls Tryz.prog 132 #[.slice qa0 na0 ca0, .func (.func 111) #[] #[ptr rb 0]] w (fun en w' => ∃ l : Unit, en = .returned (.int .i64 res) ∧ (True) ∧ HV w (keys [] []) [] [] [] w') := by
  unfold m_slices_IndexFunc_intint at hm
  refine g_en Tryz.func132 rfl Tryz.ntmps132 rfl (e := [(0, _), (1, _)]) rfl hw (g_sr (g_as rfl rfl (g_nt (g_seq (g_sr (g_mv rfl rfl (g_val rfl rfl rfl (fun w _ => v_lenR hna0 (Tryz.runUnderlying26 w) rfl) ?_)))))))
  refine g_mv rfl rfl (g_nt ?_)
  obtain ⟨o, h1, h2⟩ := bindO hm
  refine g_cut (ι := Unit) (fun j => o = .inl j) (fun j => []) (fun j => []) (fun j => []) ?_ ?_
  ·replace hm := h1
   refine g_block ?_
   refine g_loopF (ι := Unit) hm (fun s l => True) (fun s l => [(0, .slice qa0 na0 ca0), (1, .func (.func 111) #[] #[ptr rb 0]), (7, .int .i64 (s0.length : Int)), (8, .int .i64 s)]) (fun s l => []) (fun s l => []) () (trivial) (sE rfl) (fun w hh => hh) (fun s l r hpl hm h3 => ?_)
   unfold m_slices_IndexFunc_intint_L0 at hm
   refine g_sr (g_ls rfl rfl rfl (g_nt (g_seq ?_)))
   refine g_cond rfl (fun h4 => ?_) (fun h4 => ?_)
   ·replace hm := ifD h4 hm
    refine g_skip (g_n_then (g_seq (g_block (g_sr (g_mv rfl rfl (g_as rfl rfl (g_nx ?_)))))))
    refine g_mv rfl rfl (g_mv rfl rfl (g_mv rfl rfl ?_))
    obtain ⟨t14, h5, hm⟩ := bindO hm
    refine g_val rfl rfl rfl (fun w _ => v_ixR h5 (Tryz.runUnderlying26 w) (Tryz.sizeOf3 w) rfl rfl hna0 hqa0) (g_val rfl rfl rfl (fun w hh => v_ldE RI 0 h5 (Tryz.isAgg3 w) rfl (hh.seg 0 rfl) rfl (Nat.add_zero _).symm) ?_)
    obtain ⟨t16, h6, hm⟩ := bindO hm
    refine g_callH [] [] rfl rfl rfl rfl rfl rfl rfl Tryz.call111 (fun w hh => c_strip_every_int_1 t14 rb w (HV.callee (S0 := []) (vs0 := []) hh (roR hh 1 rfl roN))  h6) (fun l_1 h7 => ?_)
    refine g_nt ?_
    refine g_cond rfl (fun h8 => ?_) (fun h8 => ?_)
    ·replace hm := ifT (h8) hm
     refine g_sr (g_mv rfl rfl (g_as rfl rfl (g_nt (g_ret (g_r_blk (g_r_then (g_r_then ?_)))))))
     refine g_r_blk ?_
     obtain rfl := sj hm
     have hbo := h3 _ rfl
     subst hbo
     refine g_r_then ?_
     replace hm := ocR h2
     refine g_r_then ?_
     obtain rfl := sj hm
     refine g_done rfl (fun w hh => (.tmp rfl .nil)) (fun w hh => ⟨(), rfl, trivial, hh.se [] [] 2 rfl rfl rfl rfl⟩)
    ·replace hm := ifN h8 hm
     refine g_skip (g_n_blk (g_n_then (g_region ?_)))
     obtain ⟨t18, h9, hm⟩ := bindO hm
     refine g_ac h9 rfl rfl rfl (g_mv rfl rfl (g_nil ?_))
     obtain rfl := sj hm
     refine g_n_then ?_
     exact g_again' _ () rfl (trivial) (sE rfl) (fun w hh => hh)
   ·replace hm := ifE h4 hm
    refine g_exit (g_x_then (g_x_then (g_x_blk ?_)))
    obtain rfl := sj hm
    have hbo := h3 _ rfl
    subst hbo
    exact g_leaf () (rfl) (.nil) (fun w hh => hh)
  ·intro j hj
   have h10 := hj
   subst h10
   replace hm := ocL h2
   refine g_n_then (g_sr (g_as rfl rfl (g_nt (g_ret ?_))))
   obtain rfl := sj hm
   refine g_done rfl (fun w hh => (.tmp rfl .nil)) (fun w hh => ⟨(), rfl, trivial, hh.se [] [] 2 rfl rfl rfl rfl⟩)
def m_slices_ContainsFunc_intint (s0 : (List Int)) : Option Bool :=
 (m_slices_IndexFunc_intint s0).bind fun t7 =>
 some (decide (0 ≤ t7))
theorem c_slices_ContainsFunc_intint (s0 : (List Int)) (qa0 : Option Addr) (na0 ca0 : Nat) (rb : Nat) (w : World) (hw : HV w (keys [] []) [] [] [(aB qa0, aO qa0, RI.enc s0), (rb, 0, [.func (.func 61) #[] #[]])] w) (hna0 : s0.length = na0) (hqa0 : AOK na0 qa0) (hla0 : na0 ≤ ca0)  {res : Bool} (hm : m_slices_ContainsFunc_intint s0 = some res) :
    Calls Tryz.prog 110 #[.slice qa0 na0 ca0, .func (.func 111) #[] #[ptr rb 0]] w (fun en w' => ∃ l : Unit, en = .returned (.bool res) ∧ (True) ∧ HV w (keys [] []) [] [] [] w') := by
  unfold m_slices_ContainsFunc_intint at hm
  refine g_en Tryz.func110 rfl Tryz.ntmps110 rfl (e := [(0, _), (1, _)]) rfl hw (g_sr (g_as rfl rfl (g_nx (g_mv rfl rfl (g_mv rfl rfl ?_)))))
  obtain ⟨t7, h1, hm⟩ := bindO hm
  refine g_callH [] [] rfl rfl rfl rfl rfl rfl rfl Tryz.call132 (fun w hh => c_slices_IndexFunc_intint s0 qa0 na0 ca0 rb w (HV.callee (S0 := []) (vs0 := []) hh (roR hh 0 rfl (roR hh 1 rfl roN))) hna0 hqa0 hla0 h1) (fun l h2 => ?_)
  refine g_val rfl rfl rfl (fun _ _ => v_geq rfl rfl) (g_as rfl rfl (g_nt (g_ret ?_)))
  obtain rfl := sj hm
  refine g_done rfl (fun w hh => (.tmp rfl .nil)) (fun w hh => ⟨(), rfl, trivial, hh.se [] [] 2 rfl rfl rfl rfl⟩)
def m_strip_every_int (l0 : (List Int)) : Option Bool :=
 (m_slices_ContainsFunc_intint l0).bind fun t7 =>
 some (!t7)
theorem c_strip_every_int (l0 : (List Int)) (qa0 : Option Addr) (na0 ca0 : Nat) (w : World) (hw : HV w (keys [] []) [] [] [(aB qa0, aO qa0, RI.enc l0)] w) (hna0 : l0.length = na0) (hqa0 : AOK na0 qa0) (hla0 : na0 ≤ ca0) {res : Bool} (hm : m_strip_every_int l0 = some res) :
    Calls Tryz.prog 63 #[.slice qa0 na0 ca0, .func (.func 61) #[] #[]] w (fun en w' => ∃ l : Unit, en = .returned (.bool res) ∧ (True) ∧ HV w (keys [] []) [] [] [] w') := by
  unfold m_strip_every_int at hm
  refine g_en Tryz.func63 rfl Tryz.ntmps63 rfl (e := [(0, _), (1, _)]) rfl hw (g_sr ?_)
  refine g_boxV rfl rfl (fun b h1 => ?_)
  refine g_as rfl rfl (g_nx (g_mv rfl rfl (g_val rfl rfl rfl (fun _ _ => v_makeFunc (u := #[]) (u' := #[_]) rfl rfl) ?_)))
  obtain ⟨t7, h2, hm⟩ := bindO hm
  refine g_callH [] [] rfl rfl rfl rfl rfl rfl rfl Tryz.call110 (fun w hh => c_slices_ContainsFunc_intint l0 qa0 na0 ca0 b w (HV.callee (S0 := []) (vs0 := []) hh (roR hh 0 rfl (roC (bsep (hh.bseg 0 rfl)) roN))) hna0 hqa0 hla0 h2) (fun l h3 => ?_)
  refine g_val rfl rfl rfl (fun _ _ => v_not rfl) (g_as rfl rfl (g_nt (g_ret ?_)))
  obtain rfl := sj hm
  refine g_done rfl (fun w hh => (.tmp rfl .nil)) (fun w hh => ⟨(), rfl, trivial, hh.se [] [] 1 rfl rfl rfl rfl⟩)
def m_strip_proven (mark0 : Int) (x1 : Span) : Option Int :=
 if 0 < mark0 then
 ((mulc mark0 x1.lo).bind fun t10 =>
 some t10) else
 ((mulc mark0 x1.hi).bind fun t14 =>
 some t14)
theorem c_strip_proven (mark0 : Int) (x1 : Span)  (w : World) (hw : HV w (keys [] []) [] [] [] w)  {res : Int} (hm : m_strip_proven mark0 x1 = some res) :
    Calls Tryz.prog 65 #[.int .i64 mark0, .agg #[.int .i64 x1.lo, .int .i64 x1.hi]] w (fun en w' => ∃ l : Unit, en = .returned (.int .i64 res) ∧ (True) ∧ HV w (keys [] []) [] [] [] w') := by
  unfold m_strip_proven at hm
  refine g_en Tryz.func65 rfl Tryz.ntmps65 rfl (e := [(0, _), (1, _)]) rfl hw (g_sr ?_)
  refine g_boxV rfl rfl (fun b h1 => ?_)
  refine g_as rfl rfl (g_nt (g_seq (g_sr (g_mv rfl rfl (g_val rfl rfl rfl (fun _ _ => v_gtr rfl rfl) (g_nt ?_))))))
  refine g_cond rfl (fun h2 => ?_) (fun h2 => ?_)
  ·replace hm := ifD h2 hm
   refine g_sr (g_mv rfl rfl (g_fa 0 Tryz.runUnderlying32 rfl Tryz.sizeOf3 rfl rfl (g_lc 0 Tryz.isAgg3 rfl rfl rfl rfl ?_)))
   obtain ⟨t10, h3, hm⟩ := bindO hm
   refine g_val rfl rfl rfl (fun _ _ => v_mulc h3 rfl rfl) (g_as rfl rfl (g_nt (g_ret (g_r_then ?_))))
   obtain rfl := sj hm
   refine g_done rfl (fun w hh => (.tmp rfl .nil)) (fun w hh => ⟨(), rfl, trivial, hh.se [] [] 0 rfl rfl rfl rfl⟩)
  ·replace hm := ifE h2 hm
   refine g_skip (g_n_then (g_sr (g_mv rfl rfl (g_fa 1 Tryz.runUnderlying32 rfl Tryz.sizeOf3 rfl rfl (g_lc 0 Tryz.isAgg3 rfl rfl rfl rfl ?_)))))
   obtain ⟨t14, h4, hm⟩ := bindO hm
   refine g_val rfl rfl rfl (fun _ _ => v_mulc h4 rfl rfl) (g_as rfl rfl (g_nt (g_ret ?_)))
   obtain rfl := sj hm
   refine g_done rfl (fun w hh => (.tmp rfl .nil)) (fun w hh => ⟨(), rfl, trivial, hh.se [] [] 0 rfl rfl rfl rfl⟩)
structure m_strip_Proves_R where
  r0 : Int
  r1 : Int
structure m_strip_Proves_S0 where
  sum10 : Int
  t60 : Int
def m_strip_Proves_F1 (m1 : Marks) (t63 : Int) (s : m_strip_Proves_S0) (s0 : Scalps) (x : Int) (s_1 : Unit) : Option (Unit ⊕ Int) :=
 (ix m1.strips x).bind fun t73 =>
 (addc t63 t73).bind fun t75 =>
 (m_strip_some_1 (⟨s.t60, x⟩ : Pair) s0.strips s0.carried).bind fun t81 =>
 if t81 < t75 then
 (some (.inr 8)) else
 (some (.inl ()))
def m_strip_Proves_L0 (m1 : Marks) (s0 : Scalps) (t18b : (List (Pair × Bool))) (s : m_strip_Proves_S0) : Option (m_strip_Proves_S0 ⊕ (Int ⊕ m_strip_Proves_R)) :=
 if s.t60 < (m1.tenants.length : Int) then
 ((ix m1.tenants s.t60).bind fun t63 =>
 (m_strip_desk_reach s0.strips s0.carried s.t60).bind fun t67 =>
 if (s0.strips.length : Int) ≤ 1000000 then ((iterX (m_strip_Proves_F1 m1 t63 s s0) (reachL s0.strips.length t18b t67) ()).bind fun o_3 =>
 oc o_3 (fun s_1 => (ix s0.carried s.t60).bind fun t88 =>
 (m_strip_proven t63 t88).bind fun t90 =>
 (addc s.sum10 t90).bind fun t91 =>
 (addc s.t60 1).bind fun t92 =>
 some (.inl (⟨t91, t92⟩ : m_strip_Proves_S0))) (fun b_7 => some (.inr (.inr (⟨0, b_7⟩ : m_strip_Proves_R))))) else none) else
 (some (.inr (.inl s.sum10)))
structure m_strip_Proves_S2 where
  sum10 : Int
  t96 : Int
def m_strip_Proves_L2 (m1 : Marks) (s0 : Scalps) (s_2 : m_strip_Proves_S2) : Option (m_strip_Proves_S2 ⊕ Int) :=
 if s_2.t96 < (m1.strips.length : Int) then
 ((ix m1.strips s_2.t96).bind fun t99 =>
 (ix s0.strips s_2.t96).bind fun t106 =>
 (m_strip_Strip_gone (⟨t106.tenant, (⟨t106.lay.lo, t106.lay.hi⟩ : Span), (⟨t106.seeded.lo, t106.seeded.hi⟩ : Span), (⟨t106.left.lo, t106.left.hi⟩ : Span)⟩ : Strip)).bind fun t108 =>
 (m_strip_proven t99 t108).bind fun t109 =>
 (addc s_2.sum10 t109).bind fun t110 =>
 (addc s_2.t96 1).bind fun t111 =>
 some (.inl (⟨t110, t111⟩ : m_strip_Proves_S2))) else
 (some (.inr s_2.sum10))
def m_strip_Proves (s0 : Scalps) (m1 : Marks) : Option m_strip_Proves_R :=
 (m_strip_opened s0).bind fun t18 =>
 oc t18 (fun t18a => some (⟨0, t18a⟩ : m_strip_Proves_R)) (fun t18b => (if (m1.strips.length : Int) = (s0.strips.length : Int) then
 (some (!decide ((m1.tenants.length : Int) = (s0.carried.length : Int)))) else
 (some true)).bind fun o =>
 if o = true then
 (some (⟨0, 2⟩ : m_strip_Proves_R)) else
 (((m_strip_every_int m1.strips).bind fun t46 =>
 if (!t46) = true then
 (some true) else
 ((m_strip_every_int m1.tenants).bind fun t52 =>
 some (!t52))).bind fun o_1 =>
 if o_1 = true then
 (some (⟨0, 3⟩ : m_strip_Proves_R)) else
 ((m_strip_theft s0.strips s0.carried).bind fun t56 =>
 (iterM FU (m_strip_Proves_L0 m1 s0 t18b) (⟨0, 0⟩ : m_strip_Proves_S0)).bind fun o_2 =>
 oc o_2 (fun j_1 => (iterM FU (m_strip_Proves_L2 m1 s0) (⟨j_1, 0⟩ : m_strip_Proves_S2)).bind fun o_4 =>
 some (⟨o_4, 0⟩ : m_strip_Proves_R)) (fun r_3 => some r_3))))
theorem c_strip_Proves (s0 : Scalps) (m1 : Marks) (qa0 : Option Addr) (na0 ca0 : Nat) (qa1 : Option Addr) (na1 ca1 : Nat) (qa2 : Option Addr) (na2 ca2 : Nat) (qa3 : Option Addr) (na3 ca3 : Nat) (w : World) (hw : HV w (keys [] []) [] [] [(aB qa0, aO qa0, RSt.enc s0.strips), (aB qa1, aO qa1, RSp.enc s0.carried), (aB qa2, aO qa2, RI.enc m1.strips), (aB qa3, aO qa3, RI.enc m1.tenants)] w) (hna0 : s0.strips.length = na0) (hqa0 : AOK na0 qa0) (hla0 : na0 ≤ ca0) (hna1 : s0.carried.length = na1) (hqa1 : AOK na1 qa1) (hla1 : na1 ≤ ca1) (hna2 : m1.strips.length = na2) (hqa2 : AOK na2 qa2) (hla2 : na2 ≤ ca2) (hna3 : m1.tenants.length = na3) (hqa3 : AOK na3 qa3) (hla3 : na3 ≤ ca3) {res : m_strip_Proves_R} (hm : m_strip_Proves s0 m1 = some res) :
    Calls Tryz.prog 18 #[.agg #[.slice qa0 na0 ca0, .slice qa1 na1 ca1], .agg #[.slice qa2 na2 ca2, .slice qa3 na3 ca3]] w (fun en w' => ∃ l : Unit, en = .returned (.tuple #[.int .i64 res.r0, .int .i64 res.r1]) ∧ (True) ∧ HV w (keys [] []) [] [] [] w') := by
  unfold m_strip_Proves at hm
  refine g_enterM (args := [.agg #[.slice qa0 na0 ca0, .slice qa1 na1 ca1], .agg #[.slice qa2 na2 ca2, .slice qa3 na3 ca3]]) Tryz.func18 rfl Tryz.ntmps18 rfl (e := [(0, _), (1, _)]) rfl (H := HV w (keys [] []) [] [] [(aB qa0, aO qa0, RSt.enc s0.strips), (aB qa1, aO qa1, RSp.enc s0.carried), (aB qa2, aO qa2, RI.enc m1.strips), (aB qa3, aO qa3, RI.enc m1.tenants)]) hw ?_
  refine g_noMarks (g_sr ?_)
  refine g_boxV rfl rfl (fun b h1 => ?_)
  refine g_boxV rfl rfl (fun b_1 h2 => ?_)
  refine g_allocV (fun w => Tryz.zeroValue3 w) rfl (fun b_2 h3 => ?_)
  refine g_allocV (fun w => Tryz.zeroValue41 w) rfl (fun b_3 h4 => ?_)
  refine g_nx (g_la [_, _] 3 Tryz.isAgg25 Tryz.sizeOf25 rfl rfl rfl rfl ?_)
  obtain ⟨t18, h5, hm⟩ := bindO hm
  rcases t18 with t18a | t18b
  ·replace hm := ocL hm
   refine g_callH [] [] rfl rfl rfl rfl rfl rfl rfl Tryz.call57 (fun w hh => c_strip_opened s0 qa0 na0 ca0 qa1 na1 ca1 w (HV.callee (S0 := []) (vs0 := []) hh (roR hh 0 rfl (roR hh 1 rfl roN))) hna0 hqa0 hla0 hna1 hqa1 hla1 h5) (fun l h6 => ?_)
   have h7 := h6
   refine g_mv rfl rfl (g_xt rfl rfl rfl (g_xt rfl rfl rfl (g_as rfl rfl (g_as rfl rfl (g_nx (g_as rfl rfl (g_nt ?_)))))))
   refine g_seq (g_block (g_sr (g_mv rfl rfl (g_val rfl rfl rfl (fun _ _ => v_neqT h7 rfl rfl) (g_as rfl rfl (g_nt (g_condT rfl rfl ?_)))))))
   refine g_sr (g_mv rfl rfl (g_stS (cs' := #[_]) (S' := [_, _, _, _]) 1 (fun w => Tryz.sizeOf3 w) rfl rfl rfl rfl rfl rfl rfl (g_stS (cs' := #[_]) (S' := [_, _, _, _]) 0 (fun w => Tryz.sizeOf41 w) rfl rfl rfl rfl rfl rfl rfl (g_nt (g_ret (g_r_blk (g_r_then ?_)))))))
   obtain rfl := sj hm
   refine g_doneMC rfl rfl rfl (fun w hh => (.cell rfl (loadVar_one (Tryz.isAgg3 _) (hh.cell 1 rfl rfl)) (.cell rfl (loadVar_one (Tryz.isAgg41 _) (hh.cell 0 rfl rfl)) .nil))) (fun w hh => ⟨(), rfl, trivial, hh.se [] [] 4 rfl rfl rfl rfl⟩)
  ·replace hm := ocR hm
   refine g_callH [] [] rfl rfl rfl rfl rfl rfl rfl Tryz.call57 (fun w hh => c_strip_opened s0 qa0 na0 ca0 qa1 na1 ca1 w (HV.callee (S0 := []) (vs0 := []) hh (roR hh 0 rfl (roR hh 1 rfl roN))) hna0 hqa0 hla0 hna1 hqa1 hla1 h5) (fun l_1 h8 => ?_)
   refine g_se (S' := [_, _, _, _, _, _]) (vs' := [_]) [0, 1, 2, 3, 4, 5] [0] 0 rfl rfl rfl rfl (g_mv rfl rfl (g_xt rfl rfl rfl (g_xt rfl rfl rfl (g_as rfl rfl (g_as rfl rfl (g_nx (g_as rfl rfl ?_)))))))
   refine g_nt (g_seq (g_block (g_sr (g_mv rfl rfl (g_val rfl rfl rfl (fun _ _ => v_neq rfl rfl) (g_as rfl rfl (g_nt ?_)))))))
   refine g_condF rfl rfl (g_seq ?_)
   obtain ⟨o, h9, h10⟩ := bindO hm
   refine g_cutM (ι := Unit) (fun l_2 => mks []) (fun l_2 => True) (fun l_2 => [(2, ptr b 0), (3, ptr b_1 0), (4, ptr b_2 0), (5, ptr b_3 0), (6, ptr l_1.1 0), (8, .func (.func 61) #[] #[]), (25, .bool o)]) (fun l_2 => [(l_1.1, .cells #[.slice qa0 na0 ca0, .slice qa1 na1 ca1, .map (some l_1.2)] 144 (0, 0)), (l_1.2, gobj (kR RPr) kB t18b), (b_3, .cells #[.int .i64 0] 41 (0, 0)), (b_2, .cells #[.int .i64 0] 3 (0, 0)), (b_1, .cells #[.slice qa2 na2 ca2, .slice qa3 na3 ca3] 28 (0, 0)), (b, .cells #[.slice qa0 na0 ca0, .slice qa1 na1 ca1] 25 (0, 0))]) (fun l_2 => [mkV []]) ?_ ?_
   ·replace hm := h9
    refine g_region (g_fa 0 Tryz.runUnderlying28 rfl Tryz.sizeOf26 rfl rfl (g_lc 4 Tryz.isAgg26 rfl rfl rfl rfl (g_val rfl rfl rfl (fun w _ => v_lenR hna2 (Tryz.runUnderlying26 w) rfl) (g_fa 0 Tryz.runUnderlying25 rfl Tryz.sizeOf22 rfl rfl (g_lc 5 Tryz.isAgg22 rfl rfl rfl rfl (g_val rfl rfl rfl (fun w _ => v_lenR hna0 (Tryz.runUnderlying22 w) rfl) (g_val rfl rfl rfl (fun _ _ => v_neq rfl rfl) ?_)))))))
    refine g_mv rfl rfl ?_
    refine g_case 33 rfl (fun h11 => ?_) (fun h11 => ?_)
    ·replace hm := ifF (of_ndec_true h11) hm
     refine g_k rfl rfl rfl rfl (g_k rfl rfl rfl rfl (g_k rfl rfl rfl rfl (g_k rfl rfl rfl rfl (g_k rfl rfl rfl rfl (g_k rfl rfl rfl rfl (g_k rfl rfl rfl rfl (g_pt rfl rfl rfl ?_)))))))
     refine g_as rfl rfl (g_nil ?_)
     obtain rfl := sj hm
     exact g_leafM () rfl (trivial) (sE rfl) (fun w hh => hh)
    ·replace hm := ifT (of_ndec_false h11) hm
     refine v_unguard rfl rfl (g_fa 1 Tryz.runUnderlying28 rfl Tryz.sizeOf26 rfl rfl (v_unguard rfl rfl (g_lc 4 Tryz.isAgg26 rfl rfl rfl rfl (v_unguard rfl rfl (g_val rfl rfl rfl (fun w _ => v_lenR hna3 (Tryz.runUnderlying26 w) rfl) (v_unguard rfl rfl (g_fa 1 Tryz.runUnderlying25 rfl Tryz.sizeOf23 rfl rfl ?_)))))))
     refine v_unguard rfl rfl (g_lc 5 Tryz.isAgg23 rfl rfl rfl rfl (v_unguard rfl rfl (g_val rfl rfl rfl (fun w _ => v_lenR hna1 (Tryz.runUnderlying23 w) rfl) (v_unguard rfl rfl (g_val rfl rfl rfl (fun _ _ => v_neq rfl rfl) (g_pf rfl rfl rfl (g_as rfl rfl ?_)))))))
     refine g_nil ?_
     obtain rfl := sj hm
     exact g_leafM () rfl (trivial) (sE rfl) (fun w hh => hh)
   ·intro l_2 hj
    replace hm := h10
    refine g_n_then ?_
    refine g_cond rfl (fun h12 => ?_) (fun h12 => ?_)
    ·replace hm := ifT (h12) hm
     refine g_sr (g_stS (cs' := #[_]) (S' := [_, _, _, _, _, _]) 3 (fun w => Tryz.sizeOf3 w) rfl rfl rfl rfl rfl rfl rfl (g_stS (cs' := #[_]) (S' := [_, _, _, _, _, _]) 2 (fun w => Tryz.sizeOf41 w) rfl rfl rfl rfl rfl rfl rfl (g_nt (g_ret (g_r_blk (g_r_then ?_))))))
     obtain rfl := sj hm
     refine g_doneMC rfl rfl rfl (fun w hh => (.cell rfl (loadVar_one (Tryz.isAgg3 _) (hh.cell 3 rfl rfl)) (.cell rfl (loadVar_one (Tryz.isAgg41 _) (hh.cell 2 rfl rfl)) .nil))) (fun w hh => ⟨(), rfl, trivial, hh.se [] [] 4 rfl rfl rfl rfl⟩)
    ·replace hm := ifN h12 hm
     refine g_seq ?_
     obtain ⟨o_1, h13, h14⟩ := bindO hm
     refine g_cutM (ι := Unit) (fun l_3 => mks []) (fun l_3 => True) (fun l_3 => [(2, ptr b 0), (3, ptr b_1 0), (4, ptr b_2 0), (5, ptr b_3 0), (6, ptr l_1.1 0), (42, .bool o_1)]) (fun l_3 => [(l_1.1, .cells #[.slice qa0 na0 ca0, .slice qa1 na1 ca1, .map (some l_1.2)] 144 (0, 0)), (l_1.2, gobj (kR RPr) kB t18b), (b_3, .cells #[.int .i64 0] 41 (0, 0)), (b_2, .cells #[.int .i64 0] 3 (0, 0)), (b_1, .cells #[.slice qa2 na2 ca2, .slice qa3 na3 ca3] 28 (0, 0)), (b, .cells #[.slice qa0 na0 ca0, .slice qa1 na1 ca1] 25 (0, 0))]) (fun l_3 => [mkV []]) ?_ ?_
     ·replace hm := h13
      refine g_region (g_fa 0 Tryz.runUnderlying28 rfl Tryz.sizeOf26 rfl rfl (g_lc 4 Tryz.isAgg26 rfl rfl rfl rfl (g_mv rfl rfl ?_)))
      obtain ⟨t46, h15, hm⟩ := bindO hm
      refine g_callH [] [] rfl rfl rfl rfl rfl rfl rfl Tryz.call63 (fun w hh => c_strip_every_int m1.strips qa2 na2 ca2 w (HV.callee (S0 := []) (vs0 := []) hh (roR hh 2 rfl roN)) hna2 hqa2 hla2 h15) (fun l_4 h16 => ?_)
      refine g_val rfl rfl rfl (fun _ _ => v_not rfl) (g_mv rfl rfl ?_)
      refine g_case 48 rfl (fun h17 => ?_) (fun h17 => ?_)
      ·replace hm := ifT (h17) hm
       refine g_k rfl rfl rfl rfl (g_k rfl rfl rfl rfl (g_k rfl rfl rfl rfl (g_k rfl rfl rfl rfl (g_k rfl rfl rfl rfl (g_pt rfl rfl rfl (g_as rfl rfl (g_nil ?_)))))))
       obtain rfl := sj hm
       exact g_leafM () rfl (trivial) (sE rfl) (fun w hh => hh)
      ·replace hm := ifN h17 hm
       refine v_unguard rfl rfl (g_fa 1 Tryz.runUnderlying28 rfl Tryz.sizeOf26 rfl rfl (v_unguard rfl rfl (g_lc 4 Tryz.isAgg26 rfl rfl rfl rfl (v_unguard rfl rfl (g_mv rfl rfl (v_unguard rfl rfl ?_))))))
       obtain ⟨t52, h18, hm⟩ := bindO hm
       refine g_callH [] [] rfl rfl rfl rfl rfl rfl rfl Tryz.call63 (fun w hh => c_strip_every_int m1.tenants qa3 na3 ca3 w (HV.callee (S0 := []) (vs0 := []) hh (roR hh 3 rfl roN)) hna3 hqa3 hla3 h18) (fun l_5 h19 => ?_)
       refine v_unguard rfl rfl (g_val rfl rfl rfl (fun _ _ => v_not rfl) (g_pf rfl rfl rfl (g_as rfl rfl (g_nil ?_))))
       obtain rfl := sj hm
       exact g_leafM () rfl (trivial) (sE rfl) (fun w hh => hh)
     ·intro l_3 hj
      replace hm := h14
      refine g_n_then ?_
      refine g_cond rfl (fun h20 => ?_) (fun h20 => ?_)
      ·replace hm := ifT (h20) hm
       refine g_sr (g_stS (cs' := #[_]) (S' := [_, _, _, _, _, _]) 3 (fun w => Tryz.sizeOf3 w) rfl rfl rfl rfl rfl rfl rfl (g_stS (cs' := #[_]) (S' := [_, _, _, _, _, _]) 2 (fun w => Tryz.sizeOf41 w) rfl rfl rfl rfl rfl rfl rfl (g_nt (g_ret (g_r_blk (g_r_then ?_))))))
       obtain rfl := sj hm
       refine g_doneMC rfl rfl rfl (fun w hh => (.cell rfl (loadVar_one (Tryz.isAgg3 _) (hh.cell 3 rfl rfl)) (.cell rfl (loadVar_one (Tryz.isAgg41 _) (hh.cell 2 rfl rfl)) .nil))) (fun w hh => ⟨(), rfl, trivial, hh.se [] [] 4 rfl rfl rfl rfl⟩)
      ·replace hm := ifN h20 hm
       refine g_skip (g_n_blk (g_n_then (g_sr (g_mv rfl rfl ?_))))
       obtain ⟨t56, h21, hm⟩ := bindO hm
       refine g_callH [] [] rfl rfl rfl rfl rfl rfl rfl Tryz.call59 (fun w hh => c_strip_theft s0.strips s0.carried l_1.1 qa0 na0 ca0 qa1 na1 ca1 (.map (some l_1.2)) w (HV.callee (S0 := []) (vs0 := []) hh (roC (bsep (hh.bseg 0 rfl)) (roR hh 0 rfl (roR hh 1 rfl roN)))) hna0 hqa0 hla0 hna1 hqa1 hla1 h21) (fun l_6 h22 => ?_)
       refine g_se (S' := [_, _, _, _, _, _, _]) (vs' := [_]) [0, 1, 2, 3, 4, 5, 6] [0] 0 rfl rfl rfl rfl ?_
       refine g_allocV (fun w => Tryz.zeroValue115 w) rfl (fun b_4 h23 => ?_)
       refine g_stSA (us := #[_]) (cs' := [_]) (S' := [_, _, _, _, _, _, _, _]) 0 (fun w => Tryz.sizeOf115 w) rfl rfl rfl rfl rfl rfl rfl (g_nx (g_as rfl rfl (g_nt (g_seq (g_sr (g_fa 1 Tryz.runUnderlying28 rfl Tryz.sizeOf26 rfl rfl (g_lc 6 Tryz.isAgg26 rfl rfl rfl rfl ?_)))))))
       refine g_val rfl rfl rfl (fun w _ => v_lenR hna3 (Tryz.runUnderlying26 w) rfl) (g_mv rfl rfl (g_nt ?_))
       obtain ⟨o_2, h24, h25⟩ := bindO hm
       refine g_cutM (ι := Int × List Nat) (fun j => mks j.2) (fun j => o_2 = .inl j.1) (fun j => [(2, ptr b 0), (3, ptr b_1 0), (4, ptr b_2 0), (5, ptr b_3 0), (10, .int .i64 j.1)]) (fun j => [(b_4, .cells #[.func (.func 120) #[] #[ptr l_6 0]] 115 (0, 0)), (l_6, .cells #[.func (.func 83) #[ptr l_1.1 0] #[]] 135 (0, 0)), (l_1.1, .cells #[.slice qa0 na0 ca0, .slice qa1 na1 ca1, .map (some l_1.2)] 144 (0, 0)), (l_1.2, gobj (kR RPr) kB t18b), (b_3, .cells #[.int .i64 0] 41 (0, 0)), (b_2, .cells #[.int .i64 0] 3 (0, 0)), (b_1, .cells #[.slice qa2 na2 ca2, .slice qa3 na3 ca3] 28 (0, 0)), (b, .cells #[.slice qa0 na0 ca0, .slice qa1 na1 ca1] 25 (0, 0))]) (fun j => [mkV j.2]) ?_ ?_
       ·replace hm := h24
        refine g_block ?_
        refine g_loopFM (ι := List Nat) hm (fun s l_7 => mks l_7) (fun s l_7 => True) (fun s l_7 => [(2, ptr b 0), (3, ptr b_1 0), (4, ptr b_2 0), (5, ptr b_3 0), (6, ptr l_1.1 0), (9, ptr b_4 0), (10, .int .i64 s.sum10), (58, .slice qa3 na3 ca3), (59, .int .i64 (m1.tenants.length : Int)), (60, .int .i64 s.t60)]) (fun s l_7 => [(b_4, .cells #[.func (.func 120) #[] #[ptr l_6 0]] 115 (0, 0)), (l_6, .cells #[.func (.func 83) #[ptr l_1.1 0] #[]] 135 (0, 0)), (l_1.1, .cells #[.slice qa0 na0 ca0, .slice qa1 na1 ca1, .map (some l_1.2)] 144 (0, 0)), (l_1.2, gobj (kR RPr) kB t18b), (b_3, .cells #[.int .i64 0] 41 (0, 0)), (b_2, .cells #[.int .i64 0] 3 (0, 0)), (b_1, .cells #[.slice qa2 na2 ca2, .slice qa3 na3 ca3] 28 (0, 0)), (b, .cells #[.slice qa0 na0 ca0, .slice qa1 na1 ca1] 25 (0, 0))]) (fun s l_7 => [mkV l_7]) [] rfl (trivial) (sE rfl) (fun w hh => hh) (fun s l_7 r hpl hm h26 => ?_)
        unfold m_strip_Proves_L0 at hm
        refine g_sr (g_ls rfl rfl rfl (g_nt (g_seq ?_)))
        refine g_cond rfl (fun h27 => ?_) (fun h27 => ?_)
        ·replace hm := ifD h27 hm
         refine g_skip (g_n_then (g_seq (g_block (g_sr (g_mv rfl rfl ?_)))))
         obtain ⟨t63, h28, hm⟩ := bindO hm
         refine g_val rfl rfl rfl (fun w _ => v_ixR h28 (Tryz.runUnderlying26 w) (Tryz.sizeOf3 w) rfl rfl hna3 hqa3) (g_val rfl rfl rfl (fun w hh => v_ldE RI 0 h28 (Tryz.isAgg3 w) rfl (hh.seg 3 rfl) rfl (Nat.add_zero _).symm) ?_)
         refine g_allocV (fun w => Tryz.zeroValue3 w) rfl (fun b_5 h29 => ?_)
         refine g_allocV (fun w => Tryz.zeroValue3 w) rfl (fun b_6 h30 => ?_)
         refine g_stS (cs' := #[_]) (S' := [_, _, _, _, _, _, _, _, _, _]) 1 (fun w => Tryz.sizeOf3 w) rfl rfl rfl rfl rfl rfl rfl (g_stS (cs' := #[_]) (S' := [_, _, _, _, _, _, _, _, _, _]) 0 (fun w => Tryz.sizeOf3 w) rfl rfl rfl rfl rfl rfl rfl (g_nt (g_seq (g_sr (g_mv rfl rfl (g_lc 1 Tryz.isAgg3 rfl rfl rfl rfl ?_))))))
         obtain ⟨t67, h31, hm⟩ := bindO hm
         refine g_callH [] [] rfl rfl rfl rfl rfl rfl rfl Tryz.call64 (fun w hh => c_strip_desk_reach s0.strips s0.carried s.t60 l_1.1 qa0 na0 ca0 qa1 na1 ca1 (.map (some l_1.2)) w (HV.callee (S0 := []) (vs0 := []) hh (roC (bsep (hh.bseg 4 rfl)) (roR hh 0 rfl (roR hh 1 rfl roN)))) hna0 hqa0 hla0 hna1 hqa1 hla1 h31) (fun l_8 h32 => ?_)
         refine g_se (S' := [_, _, _, _, _, _, _, _, _, _, _, _]) (vs' := [_]) [0, 1, 2, 3, 4, 5, 6, 7, 8, 9, 10, 11] [0] 0 rfl rfl rfl rfl (g_nt (g_block ?_))
         obtain ⟨h33, hm⟩ := ifO hm
         refine g_sub (e' := [(2, ptr b 0), (3, ptr b_1 0), (4, ptr b_2 0), (5, ptr b_3 0), (6, ptr l_1.1 0), (9, ptr b_4 0), (10, .int .i64 s.sum10), (11, ptr b_5 0), (12, ptr b_6 0), (58, .slice qa3 na3 ca3), (59, .int .i64 (m1.tenants.length : Int)), (60, .int .i64 s.t60), (67, .func (.func 112) #[] #[ptr l_8.1 0, ptr l_8.2 0])]) (sE rfl) ?_
         obtain ⟨o_3, h34, hm⟩ := bindO hm
         refine g_rangeX (ι := Unit) (ι' := Unit) (reachL s0.strips.length t18b t67) (fun x => .int .i64 x) h34 (fun s_1 l_9 => True) (fun s_1 l_9 => [(l_8.1, .cells #[ptr l_1.1 0] 107 (0, 0)), (l_8.2, .cells #[.int .i64 t67] 3 (0, 0)), (b_6, .cells #[.int .i64 t63] 3 (0, 0)), (b_5, .cells #[.int .i64 s.t60] 3 (0, 0)), (b_4, .cells #[.func (.func 120) #[] #[ptr l_6 0]] 115 (0, 0)), (l_6, .cells #[.func (.func 83) #[ptr l_1.1 0] #[]] 135 (0, 0)), (l_1.1, .cells #[.slice qa0 na0 ca0, .slice qa1 na1 ca1, .map (some l_1.2)] 144 (0, 0)), (l_1.2, gobj (kR RPr) kB t18b), (b_3, .cells #[.int .i64 0] 41 (0, 0)), (b_2, .cells #[.int .i64 0] 3 (0, 0)), (b_1, .cells #[.slice qa2 na2 ca2, .slice qa3 na3 ca3] 28 (0, 0)), (b, .cells #[.slice qa0 na0 ca0, .slice qa1 na1 ca1] 25 (0, 0))]) (fun s_1 l_9 => [mkV l_7]) (fun b_7 l_10 => True) (fun b_7 l_10 => [(l_8.1, .cells #[ptr l_1.1 0] 107 (0, 0)), (l_8.2, .cells #[.int .i64 t67] 3 (0, 0)), (b_6, .cells #[.int .i64 t63] 3 (0, 0)), (b_5, .cells #[.int .i64 s.t60] 3 (0, 0)), (b_4, .cells #[.func (.func 120) #[] #[ptr l_6 0]] 115 (0, 0)), (l_6, .cells #[.func (.func 83) #[ptr l_1.1 0] #[]] 135 (0, 0)), (l_1.1, .cells #[.slice qa0 na0 ca0, .slice qa1 na1 ca1, .map (some l_1.2)] 144 (0, 0)), (l_1.2, gobj (kR RPr) kB t18b), (b_3, .cells #[.int .i64 b_7] 41 (0, 0)), (b_2, .cells #[.int .i64 0] 3 (0, 0)), (b_1, .cells #[.slice qa2 na2 ca2, .slice qa3 na3 ca3] 28 (0, 0)), (b, .cells #[.slice qa0 na0 ca0, .slice qa1 na1 ca1] 25 (0, 0))]) (fun b_7 l_10 => [mkV l_7]) () (trivial) (fun w hh => hh) (RdReach l_8.1 l_8.2 l_1.1 l_1.2 t67 qa0 na0 ca0 t18b) (fun s_1 l_9 w h35 hh => ⟨hh.cell 0 rfl rfl, hh.cell 1 rfl rfl, hh.cell 6 rfl rfl, hh.cell 6 rfl rfl, hh.get 7 rfl⟩) (fun b_7 l_10 w h35 hh => ⟨hh.cell 0 rfl rfl, hh.cell 1 rfl rfl, hh.cell 6 rfl rfl, hh.cell 6 rfl rfl, hh.get 7 rfl⟩) (it_reach _ _ _ l_8.1 l_8.2 l_1.1 l_1.2 t67 qa0 na0 ca0 s0.strips t18b hna0 h33) rfl Tryz.call112 rfl (e1 := fun x => (13, .int .i64 x) :: (68, .int .i64 x) :: [(2, ptr b 0), (3, ptr b_1 0), (4, ptr b_2 0), (5, ptr b_3 0), (6, ptr l_1.1 0), (9, ptr b_4 0), (10, .int .i64 s.sum10), (11, ptr b_5 0), (12, ptr b_6 0), (58, .slice qa3 na3 ca3), (59, .int .i64 (m1.tenants.length : Int)), (60, .int .i64 s.t60), (67, .func (.func 112) #[] #[ptr l_8.1 0, ptr l_8.2 0])]) (fun x lr H X hX => ?_) (fun x s_1 r_1 l_9 lr w1 h35 hm h36 => ?_) (fun s_1 l_9 D h37 h35 => ?_) (fun b_7 l_10 D h37 h35 => ?_)
         ·refine g_region ?_
          refine g_as rfl rfl (g_nt ?_)
          exact hX
         ·unfold m_strip_Proves_F1 at hm
          refine g_block (g_seq ?_)
          refine g_draw none (.hoist 0 (.free 1 (.hoist 2 (.free 3 (.free 4 (.hoist 5 (.free 6 (.free 7 (.hoist 8 (.hoist 9 (.free 10 (.free 11 (.one 12 (.free 13 .done)))))))))))))) _ rfl (by decide +kernel) (fun w k hh => hh.draw k) (fun w hh => hh) ?_
          refine p_lc 2 Tryz.isAgg3 rfl rfl rfl rfl rfl (p_fa 0 Tryz.runUnderlying28 Tryz.sizeOf26 rfl rfl rfl rfl (p_lc 10 Tryz.isAgg26 rfl rfl rfl rfl rfl (p_mv rfl rfl rfl ?_)))
          obtain ⟨t73, h38, hm⟩ := bindO hm
          refine p_free rfl rfl rfl rfl (fun w _ => v_ixR h38 (Tryz.runUnderlying26 w) (Tryz.sizeOf3 w) rfl rfl hna2 hqa2) (p_hoist rfl rfl rfl rfl (fun w hh => v_ldE RI 0 h38 (Tryz.isAgg3 w) rfl (hh.seg 2 rfl) rfl (Nat.add_zero _).symm) ?_)
          obtain ⟨t75, h39, hm⟩ := bindO hm
          refine p_free rfl rfl rfl rfl (fun _ _ => v_addc h39 rfl rfl) (p_fa 0 Tryz.runUnderlying115 Tryz.sizeOf113 rfl rfl rfl rfl (p_lc 4 Tryz.isAgg113 rfl rfl rfl rfl rfl (p_lc 3 Tryz.isAgg3 rfl rfl rfl rfl rfl (p_mv rfl rfl rfl (p_free rfl rfl rfl rfl (fun _ _ => v_build (vs := [(0, _), (1, _)]) (cells := [_, _]) rfl rfl) (p_one rfl ?_))))))
          obtain ⟨t81, h40, hm⟩ := bindO hm
          refine g_callH [] [] rfl rfl rfl rfl rfl rfl rfl Tryz.call120 (fun w hh => c_strip_some_1 (⟨s.t60, x⟩ : Pair) s0.strips s0.carried l_6 l_1.1 qa0 na0 ca0 qa1 na1 ca1 (.map (some l_1.2)) w (HV.callee (S0 := []) (vs0 := []) hh (roC (bsep (hh.bseg 5 rfl)) (roC (bsep (hh.bseg 6 rfl)) (roR hh 0 rfl (roR hh 1 rfl roN))))) hna0 hqa0 hla0 hna1 hqa1 hla1 h40) (fun l_11 h41 => ?_)
          refine p_next (fun w hh => hh) (p_free rfl rfl rfl rfl (fun _ _ => v_gtr rfl rfl) (p_done (g_n_then ?_)))
          refine g_cond rfl (fun h42 => ?_) (fun h42 => ?_)
          ·replace hm := ifD h42 hm
           refine g_sr (g_stS (cs' := #[_]) (S' := [_, _, _, _, _, _, _, _, _, _, _, _]) 9 (fun w => Tryz.sizeOf3 w) rfl rfl rfl rfl rfl rfl rfl (g_stS (cs' := #[_]) (S' := [_, _, _, _, _, _, _, _, _, _, _, _]) 8 (fun w => Tryz.sizeOf41 w) rfl rfl rfl rfl rfl rfl rfl (g_nt (g_ret (g_r_blk ?_)))))
           obtain rfl := sj hm
           exact g_bodyR 8 () rfl (trivial) (hsE [0, 1, 2, 3, 4, 5, 6, 7, 8, 9, 10, 11] [0] 4 rfl rfl rfl rfl)
          ·replace hm := ifE h42 hm
           refine g_skip (g_n_blk ?_)
           obtain rfl := sj hm
           exact g_bodyN () () rfl (trivial) (hsE [0, 1, 2, 3, 4, 5, 6, 7, 8, 9, 10, 11] [0] 4 rfl rfl rfl rfl)
         ·subst h37
          replace hm := ocL hm
          refine g_markIn 0 rfl rfl (g_n_blk (g_n_then ?_))
          refine g_draw none (.free 0 (.hoist 1 (.free 2 (.hoist 3 (.hoist 4 (.free 5 (.hoist 6 (.one 7 (.free 8 (.free 9 .done)))))))))) _ rfl (by decide +kernel) (fun w k hh => hh.draw k) (fun w hh => hh) ?_
          refine p_mv rfl rfl rfl (p_lc 2 Tryz.isAgg3 rfl rfl rfl rfl rfl (p_fa 1 Tryz.runUnderlying25 Tryz.sizeOf23 rfl rfl rfl rfl (p_lc 11 Tryz.isAgg23 rfl rfl rfl rfl rfl (p_lc 3 Tryz.isAgg3 rfl rfl rfl rfl rfl ?_))))
          obtain ⟨t88, h43, hm⟩ := bindO hm
          refine p_free rfl rfl rfl rfl (fun w _ => v_ixR h43 (Tryz.runUnderlying23 w) (Tryz.sizeOf32 w) rfl rfl hna1 hqa1) ?_
          refine p_hoist rfl rfl rfl rfl (fun w hh => v_ldEA RSp 0 [.int .i64 t88.lo, .int .i64 t88.hi] h43 (Tryz.isAgg32 w) (Tryz.sizeOf32 w) rfl (hh.seg 1 rfl) rfl (Nat.add_zero _).symm) ?_
          refine p_one rfl ?_
          obtain ⟨t90, h44, hm⟩ := bindO hm
          refine g_callH [] [] rfl rfl rfl rfl rfl rfl rfl Tryz.call65 (fun w hh => c_strip_proven t63 t88 w (HV.callee (S0 := []) (vs0 := []) hh roN)  h44) (fun l_12 h45 => ?_)
          refine p_next (fun w hh => hh) ?_
          obtain ⟨t91, h46, hm⟩ := bindO hm
          refine p_free rfl rfl rfl rfl (fun _ _ => v_addc h46 rfl rfl) (p_free rfl rfl rfl rfl (fun _ _ => v_assign rfl) (p_done (g_n_blk (g_n_then (g_region ?_)))))
          obtain ⟨t92, h47, hm⟩ := bindO hm
          refine g_ac h47 rfl rfl rfl (g_mv rfl rfl (g_nil ?_))
          obtain rfl := sj hm
          refine g_n_then ?_
          exact g_again'M _ (D :: l_7) rfl rfl (trivial) (sE rfl) (hsE [4, 5, 6, 7, 8, 9, 10, 11] [0] 0 rfl rfl rfl rfl)
         ·subst h37
          replace hm := ocR hm
          refine g_markIn 0 rfl rfl (g_r_blk (g_r_then (g_r_blk (g_r_then (g_r_then (g_r_blk ?_))))))
          obtain rfl := sj hm
          have hbo := h26 _ rfl
          subst hbo
          refine g_r_then ?_
          replace hm := ocR h25
          refine g_r_then ?_
          obtain rfl := sj hm
          refine g_doneMC rfl rfl rfl (fun w hh => (.cell rfl (loadVar_one (Tryz.isAgg3 _) (hh.cell 9 rfl rfl)) (.cell rfl (loadVar_one (Tryz.isAgg41 _) (hh.cell 8 rfl rfl)) .nil))) (fun w hh => ⟨(), rfl, trivial, hh.se [] [] 4 rfl rfl rfl rfl⟩)
        ·replace hm := ifE h27 hm
         refine g_exit (g_x_then (g_x_then (g_x_blk ?_)))
         obtain rfl := sj hm
         have hbo := h26 _ rfl
         subst hbo
         exact g_leafM (s.sum10, l_7) rfl (rfl) (sE rfl) (fun w hh => hh)
       ·rintro ⟨j_1, l_13⟩ hj
        have h48 := hj
        subst h48
        replace hm := ocL h25
        refine g_n_then (g_seq (g_sr (g_fa 0 Tryz.runUnderlying28 rfl Tryz.sizeOf26 rfl rfl (g_lc 6 Tryz.isAgg26 rfl rfl rfl rfl (g_val rfl rfl rfl (fun w _ => v_lenR hna2 (Tryz.runUnderlying26 w) rfl) (g_mv rfl rfl (g_nt ?_)))))))
        obtain ⟨o_4, h49, h50⟩ := bindO hm
        refine g_cutM (ι := Unit) (fun l_14 => mks l_13) (fun l_14 => True) (fun l_14 => [(4, ptr b_2 0), (5, ptr b_3 0), (10, .int .i64 o_4)]) (fun l_14 => [(b_4, .cells #[.func (.func 120) #[] #[ptr l_6 0]] 115 (0, 0)), (l_6, .cells #[.func (.func 83) #[ptr l_1.1 0] #[]] 135 (0, 0)), (l_1.1, .cells #[.slice qa0 na0 ca0, .slice qa1 na1 ca1, .map (some l_1.2)] 144 (0, 0)), (l_1.2, gobj (kR RPr) kB t18b), (b_3, .cells #[.int .i64 0] 41 (0, 0)), (b_2, .cells #[.int .i64 0] 3 (0, 0)), (b_1, .cells #[.slice qa2 na2 ca2, .slice qa3 na3 ca3] 28 (0, 0)), (b, .cells #[.slice qa0 na0 ca0, .slice qa1 na1 ca1] 25 (0, 0))]) (fun l_14 => [mkV l_13]) ?_ ?_
        ·replace hm := h49
         refine g_block ?_
         refine g_loopFM (ι := Unit) hm (fun s_2 l_15 => mks l_13) (fun s_2 l_15 => True) (fun s_2 l_15 => [(2, ptr b 0), (4, ptr b_2 0), (5, ptr b_3 0), (10, .int .i64 s_2.sum10), (94, .slice qa2 na2 ca2), (95, .int .i64 (m1.strips.length : Int)), (96, .int .i64 s_2.t96)]) (fun s_2 l_15 => [(b_4, .cells #[.func (.func 120) #[] #[ptr l_6 0]] 115 (0, 0)), (l_6, .cells #[.func (.func 83) #[ptr l_1.1 0] #[]] 135 (0, 0)), (l_1.1, .cells #[.slice qa0 na0 ca0, .slice qa1 na1 ca1, .map (some l_1.2)] 144 (0, 0)), (l_1.2, gobj (kR RPr) kB t18b), (b_3, .cells #[.int .i64 0] 41 (0, 0)), (b_2, .cells #[.int .i64 0] 3 (0, 0)), (b_1, .cells #[.slice qa2 na2 ca2, .slice qa3 na3 ca3] 28 (0, 0)), (b, .cells #[.slice qa0 na0 ca0, .slice qa1 na1 ca1] 25 (0, 0))]) (fun s_2 l_15 => [mkV l_13]) () rfl (trivial) (sE rfl) (fun w hh => hh) (fun s_2 l_15 r_2 hpl hm h51 => ?_)
         unfold m_strip_Proves_L2 at hm
         refine g_sr (g_ls rfl rfl rfl (g_nt (g_seq ?_)))
         refine g_cond rfl (fun h52 => ?_) (fun h52 => ?_)
         ·replace hm := ifD h52 hm
          refine g_skip (g_n_then (g_seq (g_block (g_sr (g_mv rfl rfl ?_)))))
          obtain ⟨t99, h53, hm⟩ := bindO hm
          refine g_val rfl rfl rfl (fun w _ => v_ixR h53 (Tryz.runUnderlying26 w) (Tryz.sizeOf3 w) rfl rfl hna2 hqa2) (g_val rfl rfl rfl (fun w hh => v_ldE RI 0 h53 (Tryz.isAgg3 w) rfl (hh.seg 2 rfl) rfl (Nat.add_zero _).symm) (g_as rfl rfl (g_as rfl rfl (g_nt (g_region (g_mv rfl rfl (g_mv rfl rfl ?_)))))))
          refine g_fa 0 Tryz.runUnderlying25 rfl Tryz.sizeOf22 rfl rfl (g_lc 7 Tryz.isAgg22 rfl rfl rfl rfl (g_mv rfl rfl ?_))
          obtain ⟨t106, h54, hm⟩ := bindO hm
          refine g_val rfl rfl rfl (fun w _ => v_ixR h54 (Tryz.runUnderlying22 w) (Tryz.sizeOf85 w) rfl rfl hna0 hqa0) ?_
          refine g_val rfl rfl rfl (fun w hh => v_ldEA RSt 0 [.int .i64 t106.tenant, .int .i64 t106.lay.lo, .int .i64 t106.lay.hi, .int .i64 t106.seeded.lo, .int .i64 t106.seeded.hi, .int .i64 t106.left.lo, .int .i64 t106.left.hi] h54 (Tryz.isAgg85 w) (Tryz.sizeOf85 w) rfl (hh.seg 0 rfl) rfl (Nat.add_zero _).symm) ?_
          obtain ⟨t108, h55, hm⟩ := bindO hm
          refine g_callH [] [] rfl rfl rfl rfl rfl rfl rfl Tryz.call66 (fun w hh => c_strip_Strip_gone (⟨t106.tenant, (⟨t106.lay.lo, t106.lay.hi⟩ : Span), (⟨t106.seeded.lo, t106.seeded.hi⟩ : Span), (⟨t106.left.lo, t106.left.hi⟩ : Span)⟩ : Strip) w (HV.callee (S0 := []) (vs0 := []) hh roN)  h55) (fun l_16 h56 => ?_)
          obtain ⟨t109, h57, hm⟩ := bindO hm
          refine g_callH [] [] rfl rfl rfl rfl rfl rfl rfl Tryz.call65 (fun w hh => c_strip_proven t99 t108 w (HV.callee (S0 := []) (vs0 := []) hh roN)  h57) (fun l_17 h58 => ?_)
          obtain ⟨t110, h59, hm⟩ := bindO hm
          refine g_ac h59 rfl rfl rfl (g_as rfl rfl (g_nil (g_n_blk (g_n_then (g_region ?_)))))
          obtain ⟨t111, h60, hm⟩ := bindO hm
          refine g_ac h60 rfl rfl rfl (g_mv rfl rfl (g_nil ?_))
          obtain rfl := sj hm
          refine g_n_then ?_
          exact g_again'M _ () rfl rfl (trivial) (sE rfl) (fun w hh => hh)
         ·replace hm := ifE h52 hm
          refine g_exit (g_x_then (g_x_then (g_x_blk ?_)))
          obtain rfl := sj hm
          have hbo := h51 _ rfl
          subst hbo
          exact g_leafM () rfl (trivial) (sE rfl) (fun w hh => hh)
        ·intro l_14 hj
         replace hm := h50
         refine g_n_then (g_sr (g_mv rfl rfl (g_stS (cs' := #[_]) (S' := [_, _, _, _, _, _, _, _]) 5 (fun w => Tryz.sizeOf3 w) rfl rfl rfl rfl rfl rfl rfl (g_stS (cs' := #[_]) (S' := [_, _, _, _, _, _, _, _]) 4 (fun w => Tryz.sizeOf41 w) rfl rfl rfl rfl rfl rfl rfl (g_nt (g_ret ?_))))))
         obtain rfl := sj hm
         refine g_doneMC rfl rfl rfl (fun w hh => (.cell rfl (loadVar_one (Tryz.isAgg3 _) (hh.cell 5 rfl rfl)) (.cell rfl (loadVar_one (Tryz.isAgg41 _) (hh.cell 4 rfl rfl)) .nil))) (fun w hh => ⟨(), rfl, trivial, hh.se [] [] 4 rfl rfl rfl rfl⟩)
def m_slices_Equal_stripVerdictstripVerdict_L0 (s10 : (List Int)) (s21 : (List Int)) (s : Int) : Option (Int ⊕ (Unit ⊕ Bool)) :=
 if s < (s10.length : Int) then
 ((ix s10 s).bind fun t18 =>
 (ix s21 s).bind fun t22 =>
 if t18 = t22 then
 ((addc s 1).bind fun t25 =>
 some (.inl t25)) else
 (some (.inr (.inr false)))) else
 (some (.inr (.inl ())))
def m_slices_Equal_stripVerdictstripVerdict (s10 : (List Int)) (s21 : (List Int)) : Option Bool :=
 if (s10.length : Int) = (s21.length : Int) then
 ((iterM FU (m_slices_Equal_stripVerdictstripVerdict_L0 s10 s21) 0).bind fun o =>
 oc o (fun j => some true) (fun r_1 => some r_1)) else
 (some false)
theorem c_slices_Equal_stripVerdictstripVerdict (s10 : (List Int)) (s21 : (List Int)) (qa0 : Option Addr) (na0 ca0 : Nat) (qa1 : Option Addr) (na1 ca1 : Nat) (w : World) (hw : HV w (keys [] []) [] [] [(aB qa0, aO qa0, RI.enc s10), (aB qa1, aO qa1, RI.enc s21)] w) (hna0 : s10.length = na0) (hqa0 : AOK na0 qa0) (hla0 : na0 ≤ ca0) (hna1 : s21.length = na1) (hqa1 : AOK na1 qa1) (hla1 : na1 ≤ ca1) {res : Bool} (hm : m_slices_Equal_stripVerdictstripVerdict s10 s21 = some res) :
    Calls Tryz.prog 86 #[.slice qa0 na0 ca0, .slice qa1 na1 ca1] w (fun en w' => ∃ l : Unit, en = .returned (.bool res) ∧ (True) ∧ HV w (keys [] []) [] [] [] w') := by
  unfold m_slices_Equal_stripVerdictstripVerdict at hm
  refine g_en Tryz.func86 rfl Tryz.ntmps86 rfl (e := [(0, _), (1, _)]) rfl hw (g_sr (g_as rfl rfl (g_nt (g_seq (g_sr (g_mv rfl rfl (g_val rfl rfl rfl (fun w _ => v_lenR hna0 (Tryz.runUnderlying60 w) rfl) ?_)))))))
  refine g_mv rfl rfl (g_val rfl rfl rfl (fun w _ => v_lenR hna1 (Tryz.runUnderlying60 w) rfl) (g_val rfl rfl rfl (fun _ _ => v_neq rfl rfl) (g_nt ?_)))
  refine g_cond rfl (fun h1 => ?_) (fun h1 => ?_)
  ·replace hm := ifF (of_ndec_true h1) hm
   refine g_sr (g_as rfl rfl (g_nt (g_ret (g_r_then ?_))))
   obtain rfl := sj hm
   refine g_done rfl (fun w hh => (.tmp rfl .nil)) (fun w hh => ⟨(), rfl, trivial, hh.se [] [] 2 rfl rfl rfl rfl⟩)
  ·replace hm := ifT (of_ndec_false h1) hm
   refine g_skip (g_n_then (g_seq (g_sr (g_mv rfl rfl (g_val rfl rfl rfl (fun w _ => v_lenR hna0 (Tryz.runUnderlying60 w) rfl) (g_mv rfl rfl (g_nt ?_)))))))
   obtain ⟨o, h2, h3⟩ := bindO hm
   refine g_cut (ι := Unit) (fun j => o = .inl j) (fun j => []) (fun j => []) (fun j => []) ?_ ?_
   ·replace hm := h2
    refine g_block ?_
    refine g_loopF (ι := Unit) hm (fun s l => True) (fun s l => [(0, .slice qa0 na0 ca0), (1, .slice qa1 na1 ca1), (12, .int .i64 (s10.length : Int)), (13, .int .i64 s)]) (fun s l => []) (fun s l => []) () (trivial) (sE rfl) (fun w hh => hh) (fun s l r hpl hm h4 => ?_)
    unfold m_slices_Equal_stripVerdictstripVerdict_L0 at hm
    refine g_sr (g_ls rfl rfl rfl (g_nt (g_seq ?_)))
    refine g_cond rfl (fun h5 => ?_) (fun h5 => ?_)
    ·replace hm := ifD h5 hm
     refine g_skip (g_n_then (g_seq (g_block (g_sr (g_mv rfl rfl (g_as rfl rfl (g_nt ?_)))))))
     refine g_seq ?_
     refine g_draw none (.free 0 (.free 1 (.free 2 (.hoist 3 (.free 4 (.free 5 (.free 6 (.hoist 7 (.free 8 .done))))))))) _ rfl (by decide +kernel) (fun w k hh => hh.draw k) (fun w hh => hh) ?_
     refine p_mv rfl rfl rfl (p_mv rfl rfl rfl ?_)
     obtain ⟨t18, h6, hm⟩ := bindO hm
     refine p_free rfl rfl rfl rfl (fun w _ => v_ixR h6 (Tryz.runUnderlying60 w) (Tryz.sizeOf62 w) rfl rfl hna0 hqa0) (p_hoist rfl rfl rfl rfl (fun w hh => v_ldE RI 0 h6 (Tryz.isAgg62 w) rfl (hh.seg 0 rfl) rfl (Nat.add_zero _).symm) (p_mv rfl rfl rfl (p_mv rfl rfl rfl ?_)))
     obtain ⟨t22, h7, hm⟩ := bindO hm
     refine p_free rfl rfl rfl rfl (fun w _ => v_ixR h7 (Tryz.runUnderlying60 w) (Tryz.sizeOf62 w) rfl rfl hna1 hqa1) (p_hoist rfl rfl rfl rfl (fun w hh => v_ldE RI 0 h7 (Tryz.isAgg62 w) rfl (hh.seg 1 rfl) rfl (Nat.add_zero _).symm) (p_free rfl rfl rfl rfl (fun _ _ => v_neq rfl rfl) (p_done (g_n_then ?_))))
     refine g_cond rfl (fun h8 => ?_) (fun h8 => ?_)
     ·replace hm := ifF (of_ndec_true h8) hm
      refine g_sr (g_as rfl rfl (g_nt (g_ret (g_r_blk (g_r_then (g_r_then (g_r_blk ?_)))))))
      obtain rfl := sj hm
      have hbo := h4 _ rfl
      subst hbo
      refine g_r_then ?_
      replace hm := ocR h3
      refine g_r_then ?_
      obtain rfl := sj hm
      refine g_done rfl (fun w hh => (.tmp rfl .nil)) (fun w hh => ⟨(), rfl, trivial, hh.se [] [] 2 rfl rfl rfl rfl⟩)
     ·replace hm := ifT (of_ndec_false h8) hm
      refine g_skip (g_n_blk (g_n_then (g_region ?_)))
      obtain ⟨t25, h9, hm⟩ := bindO hm
      refine g_ac h9 rfl rfl rfl (g_mv rfl rfl (g_nil ?_))
      obtain rfl := sj hm
      refine g_n_then ?_
      exact g_again' _ () rfl (trivial) (sE rfl) (fun w hh => hh)
    ·replace hm := ifE h5 hm
     refine g_exit (g_x_then (g_x_then (g_x_blk ?_)))
     obtain rfl := sj hm
     have hbo := h4 _ rfl
     subst hbo
     exact g_leaf () (rfl) (.nil) (fun w hh => hh)
   ·intro j hj
    have h10 := hj
    subst h10
    replace hm := ocL h3
    refine g_n_then (g_sr (g_as rfl rfl (g_nt (g_ret ?_))))
    obtain rfl := sj hm
    refine g_done rfl (fun w hh => (.tmp rfl .nil)) (fun w hh => ⟨(), rfl, trivial, hh.se [] [] 2 rfl rfl rfl rfl⟩)
def m_laurelkit_Eq_stripVerdict (a0 : (List Int)) (b1 : (List Int)) : Option Bool :=
 (m_slices_Equal_stripVerdictstripVerdict a0 b1).bind fun t7 =>
 some t7
theorem c_laurelkit_Eq_stripVerdict (a0 : (List Int)) (b1 : (List Int)) (qa0 : Option Addr) (na0 ca0 : Nat) (qa1 : Option Addr) (na1 ca1 : Nat) (w : World) (hw : HV w (keys [] []) [] [] [(aB qa0, aO qa0, RI.enc a0), (aB qa1, aO qa1, RI.enc b1)] w) (hna0 : a0.length = na0) (hqa0 : AOK na0 qa0) (hla0 : na0 ≤ ca0) (hna1 : b1.length = na1) (hqa1 : AOK na1 qa1) (hla1 : na1 ≤ ca1) {res : Bool} (hm : m_laurelkit_Eq_stripVerdict a0 b1 = some res) :
    Calls Tryz.prog 29 #[.slice qa0 na0 ca0, .slice qa1 na1 ca1] w (fun en w' => ∃ l : Unit, en = .returned (.bool res) ∧ (True) ∧ HV w (keys [] []) [] [] [] w') := by
  unfold m_laurelkit_Eq_stripVerdict at hm
  refine g_en Tryz.func29 rfl Tryz.ntmps29 rfl (e := [(0, _), (1, _)]) rfl hw (g_sr (g_as rfl rfl (g_nx (g_mv rfl rfl (g_mv rfl rfl ?_)))))
  obtain ⟨t7, h1, hm⟩ := bindO hm
  refine g_callH [] [] rfl rfl rfl rfl rfl rfl rfl Tryz.call86 (fun w hh => c_slices_Equal_stripVerdictstripVerdict a0 b1 qa0 na0 ca0 qa1 na1 ca1 w (HV.callee (S0 := []) (vs0 := []) hh (roR hh 0 rfl (roR hh 1 rfl roN))) hna0 hqa0 hla0 hna1 hqa1 hla1 h1) (fun l h2 => ?_)
  refine g_as rfl rfl (g_nt (g_ret ?_))
  obtain rfl := sj hm
  refine g_done rfl (fun w hh => (.tmp rfl .nil)) (fun w hh => ⟨(), rfl, trivial, hh.se [] [] 2 rfl rfl rfl rfl⟩)
def m_strip_every_int_1_1 (x0 : Int) (a11_f0 : Scalps) : Option Bool :=
 (m_strip_Scalps_tenant a11_f0 x0).bind fun t6 =>
 some (!t6)
theorem c_strip_every_int_1_1 (x0 : Int) (a11_f0 : Scalps) (rb : Nat) (qa1 : Option Addr) (na1 ca1 : Nat) (qa2 : Option Addr) (na2 ca2 : Nat) (w : World) (hw : HV w (keys [] []) [] [] [(rb, 0, [.func (.func 68) #[.agg #[.slice qa1 na1 ca1, .slice qa2 na2 ca2]] #[]]), (aB qa1, aO qa1, RSt.enc a11_f0.strips), (aB qa2, aO qa2, RSp.enc a11_f0.carried)] w)  (hna1 : a11_f0.strips.length = na1) (hqa1 : AOK na1 qa1) (hla1 : na1 ≤ ca1) (hna2 : a11_f0.carried.length = na2) (hqa2 : AOK na2 qa2) (hla2 : na2 ≤ ca2) {res : Bool} (hm : m_strip_every_int_1_1 x0 a11_f0 = some res) :
    Calls Tryz.prog 111 #[.int .i64 x0, ptr rb 0] w (fun en w' => ∃ l : Unit, en = .returned (.bool res) ∧ (True) ∧ HV w (keys [] []) [] [] [] w') := by
  unfold m_strip_every_int_1_1 at hm
  refine g_en Tryz.func111 rfl Tryz.ntmps111 rfl (e := [(0, _), (1, _)]) rfl hw (g_sr (g_as rfl rfl (g_nx (g_val rfl rfl rfl (fun w hh => v_load (Tryz.isAgg120 w) rfl (segCell (hh.seg 0 rfl) 0 rfl)) (g_mv rfl rfl ?_)))))
  obtain ⟨t6, h1, hm⟩ := bindO hm
  refine g_callH [] [] rfl rfl rfl rfl rfl rfl rfl Tryz.call68 (fun w hh => c_strip_Scalps_tenant a11_f0 x0 qa1 na1 ca1 qa2 na2 ca2 w (HV.callee (S0 := []) (vs0 := []) hh (roR hh 1 rfl (roR hh 2 rfl roN))) hna1 hqa1 hla1 hna2 hqa2 hla2 h1) (fun l h2 => ?_)
  refine g_val rfl rfl rfl (fun _ _ => v_not rfl) (g_as rfl rfl (g_nt (g_ret ?_)))
  obtain rfl := sj hm
  refine g_done rfl (fun w hh => (.tmp rfl .nil)) (fun w hh => ⟨(), rfl, trivial, hh.se [] [] 3 rfl rfl rfl rfl⟩)
def m_slices_IndexFunc_intint_1_L0 (s0 : (List Int)) (f1_c0_f0 : Scalps) (s : Int) : Option (Int ⊕ (Unit ⊕ Int)) :=
 if s < (s0.length : Int) then
 ((ix s0 s).bind fun t14 =>
 (m_strip_every_int_1_1 t14 f1_c0_f0).bind fun t16 =>
 if t16 = true then
 (some (.inr (.inr s))) else
 ((addc s 1).bind fun t18 =>
 some (.inl t18))) else
 (some (.inr (.inl ())))
def m_slices_IndexFunc_intint_1 (s0 : (List Int)) (f1_c0_f0 : Scalps) : Option Int :=
 (iterM FU (m_slices_IndexFunc_intint_1_L0 s0 f1_c0_f0) 0).bind fun o =>
 oc o (fun j => some (-1)) (fun r_1 => some r_1)
theorem c_slices_IndexFunc_intint_1 (s0 : (List Int)) (f1_c0_f0 : Scalps) (qa0 : Option Addr) (na0 ca0 : Nat) (rb : Nat) (qa2 : Option Addr) (na2 ca2 : Nat) (qa3 : Option Addr) (na3 ca3 : Nat) (w : World) (hw : HV w (keys [] []) [] [] [(aB qa0, aO qa0, RI.enc s0), (rb, 0, [.func (.func 68) #[.agg #[.slice qa2 na2 ca2, .slice qa3 na3 ca3]] #[]]), (aB qa2, aO qa2, RSt.enc f1_c0_f0.strips), (aB qa3, aO qa3, RSp.enc f1_c0_f0.carried)] w) (hna0 : s0.length = na0) (hqa0 : AOK na0 qa0) (hla0 : na0 ≤ ca0)  (hna2 : f1_c0_f0.strips.length = na2) (hqa2 : AOK na2 qa2) (hla2 : na2 ≤ ca2) (hna3 : f1_c0_f0.carried.length = na3) (hqa3 : AOK na3 qa3) (hla3 : na3 ≤ ca3) {res : Int} (hm : m_slices_IndexFunc_intint_1 s0 f1_c0_f0 = some res) :
    Calls Tryz.prog 132 #[.slice qa0 na0 ca0, .func (.func 111) #[] #[ptr rb 0]] w (fun en w' => ∃ l : Unit, en = .returned (.int .i64 res) ∧ (True) ∧ HV w (keys [] []) [] [] [] w') := by
  unfold m_slices_IndexFunc_intint_1 at hm
  refine g_en Tryz.func132 rfl Tryz.ntmps132 rfl (e := [(0, _), (1, _)]) rfl hw (g_sr (g_as rfl rfl (g_nt (g_seq (g_sr (g_mv rfl rfl (g_val rfl rfl rfl (fun w _ => v_lenR hna0 (Tryz.runUnderlying26 w) rfl) ?_)))))))
  refine g_mv rfl rfl (g_nt ?_)
  obtain ⟨o, h1, h2⟩ := bindO hm
  refine g_cut (ι := Unit) (fun j => o = .inl j) (fun j => []) (fun j => []) (fun j => []) ?_ ?_
  ·replace hm := h1
   refine g_block ?_
   refine g_loopF (ι := Unit) hm (fun s l => True) (fun s l => [(0, .slice qa0 na0 ca0), (1, .func (.func 111) #[] #[ptr rb 0]), (7, .int .i64 (s0.length : Int)), (8, .int .i64 s)]) (fun s l => []) (fun s l => []) () (trivial) (sE rfl) (fun w hh => hh) (fun s l r hpl hm h3 => ?_)
   unfold m_slices_IndexFunc_intint_1_L0 at hm
   refine g_sr (g_ls rfl rfl rfl (g_nt (g_seq ?_)))
   refine g_cond rfl (fun h4 => ?_) (fun h4 => ?_)
   ·replace hm := ifD h4 hm
    refine g_skip (g_n_then (g_seq (g_block (g_sr (g_mv rfl rfl (g_as rfl rfl (g_nx ?_)))))))
    refine g_mv rfl rfl (g_mv rfl rfl (g_mv rfl rfl ?_))
    obtain ⟨t14, h5, hm⟩ := bindO hm
    refine g_val rfl rfl rfl (fun w _ => v_ixR h5 (Tryz.runUnderlying26 w) (Tryz.sizeOf3 w) rfl rfl hna0 hqa0) (g_val rfl rfl rfl (fun w hh => v_ldE RI 0 h5 (Tryz.isAgg3 w) rfl (hh.seg 0 rfl) rfl (Nat.add_zero _).symm) ?_)
    obtain ⟨t16, h6, hm⟩ := bindO hm
    refine g_callH [] [] rfl rfl rfl rfl rfl rfl rfl Tryz.call111 (fun w hh => c_strip_every_int_1_1 t14 f1_c0_f0 rb qa2 na2 ca2 qa3 na3 ca3 w (HV.callee (S0 := []) (vs0 := []) hh (roR hh 1 rfl (roR hh 2 rfl (roR hh 3 rfl roN)))) hna2 hqa2 hla2 hna3 hqa3 hla3 h6) (fun l_1 h7 => ?_)
    refine g_nt ?_
    refine g_cond rfl (fun h8 => ?_) (fun h8 => ?_)
    ·replace hm := ifT (h8) hm
     refine g_sr (g_mv rfl rfl (g_as rfl rfl (g_nt (g_ret (g_r_blk (g_r_then (g_r_then ?_)))))))
     refine g_r_blk ?_
     obtain rfl := sj hm
     have hbo := h3 _ rfl
     subst hbo
     refine g_r_then ?_
     replace hm := ocR h2
     refine g_r_then ?_
     obtain rfl := sj hm
     refine g_done rfl (fun w hh => (.tmp rfl .nil)) (fun w hh => ⟨(), rfl, trivial, hh.se [] [] 4 rfl rfl rfl rfl⟩)
    ·replace hm := ifN h8 hm
     refine g_skip (g_n_blk (g_n_then (g_region ?_)))
     obtain ⟨t18, h9, hm⟩ := bindO hm
     refine g_ac h9 rfl rfl rfl (g_mv rfl rfl (g_nil ?_))
     obtain rfl := sj hm
     refine g_n_then ?_
     exact g_again' _ () rfl (trivial) (sE rfl) (fun w hh => hh)
   ·replace hm := ifE h4 hm
    refine g_exit (g_x_then (g_x_then (g_x_blk ?_)))
    obtain rfl := sj hm
    have hbo := h3 _ rfl
    subst hbo
    exact g_leaf () (rfl) (.nil) (fun w hh => hh)
  ·intro j hj
   have h10 := hj
   subst h10
   replace hm := ocL h2
   refine g_n_then (g_sr (g_as rfl rfl (g_nt (g_ret ?_))))
   obtain rfl := sj hm
   refine g_done rfl (fun w hh => (.tmp rfl .nil)) (fun w hh => ⟨(), rfl, trivial, hh.se [] [] 4 rfl rfl rfl rfl⟩)
end Go.Proofs.Ws

namespace Go.Proofs.Ws
set_option maxHeartbeats 4000000
set_option maxRecDepth 100000
open Go Go.Fw Go.Gx Go.Sp
set_option linter.unusedVariables false
def m_slices_ContainsFunc_intint_1 (s0 : (List Int)) (f1_c0_f0 : Scalps) : Option Bool :=
 (m_slices_IndexFunc_intint_1 s0 f1_c0_f0).bind fun t7 =>
 some (decide (0 ≤ t7))
theorem c_slices_ContainsFunc_intint_1 (s0 : (List Int)) (f1_c0_f0 : Scalps) (qa0 : Option Addr) (na0 ca0 : Nat) (rb : Nat) (qa2 : Option Addr) (na2 ca2 : Nat) (qa3 : Option Addr) (na3 ca3 : Nat) (w : World) (hw : HV w (keys [] []) [] [] [(aB qa0, aO qa0, RI.enc s0), (rb, 0, [.func (.func 68) #[.agg #[.slice qa2 na2 ca2, .slice qa3 na3 ca3]] #[]]), (aB qa2, aO qa2, RSt.enc f1_c0_f0.strips), (aB qa3, aO qa3, RSp.enc f1_c0_f0.carried)] w) (hna0 : s0.length = na0) (hqa0 : AOK na0 qa0) (hla0 : na0 ≤ ca0)  (hna2 : f1_c0_f0.strips.length = na2) (hqa2 : AOK na2 qa2) (hla2 : na2 ≤ ca2) (hna3 : f1_c0_f0.carried.length = na3) (hqa3 : AOK na3 qa3) (hla3 : na3 ≤ ca3) {res : Bool} (hm : m_slices_ContainsFunc_intint_1 s0 f1_c0_f0 = some res) :
    Calls Tryz.prog 110 #[.slice qa0 na0 ca0, .func (.func 111) #[] #[ptr rb 0]] w (fun en w' => ∃ l : Unit, en = .returned (.bool res) ∧ (True) ∧ HV w (keys [] []) [] [] [] w') := by
  unfold m_slices_ContainsFunc_intint_1 at hm
  refine g_en Tryz.func110 rfl Tryz.ntmps110 rfl (e := [(0, _), (1, _)]) rfl hw (g_sr (g_as rfl rfl (g_nx (g_mv rfl rfl (g_mv rfl rfl ?_)))))
  obtain ⟨t7, h1, hm⟩ := bindO hm
  refine g_callH [] [] rfl rfl rfl rfl rfl rfl rfl Tryz.call132 (fun w hh => c_slices_IndexFunc_intint_1 s0 f1_c0_f0 qa0 na0 ca0 rb qa2 na2 ca2 qa3 na3 ca3 w (HV.callee (S0 := []) (vs0 := []) hh (roR hh 0 rfl (roR hh 1 rfl (roR hh 2 rfl (roR hh 3 rfl roN))))) hna0 hqa0 hla0 hna2 hqa2 hla2 hna3 hqa3 hla3 h1) (fun l h2 => ?_)
  refine g_val rfl rfl rfl (fun _ _ => v_geq rfl rfl) (g_as rfl rfl (g_nt (g_ret ?_)))
  obtain rfl := sj hm
  refine g_done rfl (fun w hh => (.tmp rfl .nil)) (fun w hh => ⟨(), rfl, trivial, hh.se [] [] 4 rfl rfl rfl rfl⟩)
def m_strip_every_int_2 (l0 : (List Int)) (holds1_f0 : Scalps) : Option Bool :=
 (m_slices_ContainsFunc_intint_1 l0 holds1_f0).bind fun t7 =>
 some (!t7)
theorem c_strip_every_int_2 (l0 : (List Int)) (holds1_f0 : Scalps) (qa0 : Option Addr) (na0 ca0 : Nat) (qa1 : Option Addr) (na1 ca1 : Nat) (qa2 : Option Addr) (na2 ca2 : Nat) (w : World) (hw : HV w (keys [] []) [] [] [(aB qa0, aO qa0, RI.enc l0), (aB qa1, aO qa1, RSt.enc holds1_f0.strips), (aB qa2, aO qa2, RSp.enc holds1_f0.carried)] w) (hna0 : l0.length = na0) (hqa0 : AOK na0 qa0) (hla0 : na0 ≤ ca0) (hna1 : holds1_f0.strips.length = na1) (hqa1 : AOK na1 qa1) (hla1 : na1 ≤ ca1) (hna2 : holds1_f0.carried.length = na2) (hqa2 : AOK na2 qa2) (hla2 : na2 ≤ ca2) {res : Bool} (hm : m_strip_every_int_2 l0 holds1_f0 = some res) :
    Calls Tryz.prog 63 #[.slice qa0 na0 ca0, .func (.func 68) #[.agg #[.slice qa1 na1 ca1, .slice qa2 na2 ca2]] #[]] w (fun en w' => ∃ l : Unit, en = .returned (.bool res) ∧ (True) ∧ HV w (keys [] []) [] [] [] w') := by
  unfold m_strip_every_int_2 at hm
  refine g_en Tryz.func63 rfl Tryz.ntmps63 rfl (e := [(0, _), (1, _)]) rfl hw (g_sr ?_)
  refine g_boxV rfl rfl (fun b h1 => ?_)
  refine g_as rfl rfl (g_nx (g_mv rfl rfl (g_val rfl rfl rfl (fun _ _ => v_makeFunc (u := #[]) (u' := #[_]) rfl rfl) ?_)))
  obtain ⟨t7, h2, hm⟩ := bindO hm
  refine g_callH [] [] rfl rfl rfl rfl rfl rfl rfl Tryz.call110 (fun w hh => c_slices_ContainsFunc_intint_1 l0 holds1_f0 qa0 na0 ca0 b qa1 na1 ca1 qa2 na2 ca2 w (HV.callee (S0 := []) (vs0 := []) hh (roR hh 0 rfl (roC (bsep (hh.bseg 0 rfl)) (roR hh 1 rfl (roR hh 2 rfl roN))))) hna0 hqa0 hla0 hna1 hqa1 hla1 hna2 hqa2 hla2 h2) (fun l h3 => ?_)
  refine g_val rfl rfl rfl (fun _ _ => v_not rfl) (g_as rfl rfl (g_nt (g_ret ?_)))
  obtain rfl := sj hm
  refine g_done rfl (fun w hh => (.tmp rfl .nil)) (fun w hh => ⟨(), rfl, trivial, hh.se [] [] 3 rfl rfl rfl rfl⟩)
def m_cmp_isNaN_int (x0 : Int) : Option Bool :=
 some (!decide (x0 = x0))
theorem c_cmp_isNaN_int (x0 : Int)  (w : World) (hw : HV w (keys [] []) [] [] [] w)  {res : Bool} (hm : m_cmp_isNaN_int x0 = some res) :
    Calls Tryz.prog 133 #[.int .i64 x0] w (fun en w' => ∃ l : Unit, en = .returned (.bool res) ∧ (True) ∧ HV w (keys [] []) [] [] [] w') := by
  unfold m_cmp_isNaN_int at hm
  refine g_en Tryz.func133 rfl Tryz.ntmps133 rfl (e := [(0, _)]) rfl hw (g_sr (g_as rfl rfl (g_nx (g_mv rfl rfl (g_mv rfl rfl (g_val rfl rfl rfl (fun _ _ => v_neq rfl rfl) (g_as rfl rfl ?_)))))))
  refine g_nt (g_ret ?_)
  obtain rfl := sj hm
  refine g_done rfl (fun w hh => (.tmp rfl .nil)) (fun w hh => ⟨(), rfl, trivial, hh⟩)
def m_cmp_Less_int (x0 : Int) (y1 : Int) : Option Bool :=
 ((m_cmp_isNaN_int x0).bind fun t6 =>
 if t6 = true then
 ((m_cmp_isNaN_int y1).bind fun t9 =>
 if (!t9) = true then
 (some true) else
 (some (decide (x0 < y1)))) else
 (some (decide (x0 < y1)))).bind fun o =>
 some o
theorem c_cmp_Less_int (x0 : Int) (y1 : Int)  (w : World) (hw : HV w (keys [] []) [] [] [] w)  {res : Bool} (hm : m_cmp_Less_int x0 y1 = some res) :
    Calls Tryz.prog 113 #[.int .i64 x0, .int .i64 y1] w (fun en w' => ∃ l : Unit, en = .returned (.bool res) ∧ (True) ∧ HV w (keys [] []) [] [] [] w') := by
  unfold m_cmp_Less_int at hm
  refine g_en Tryz.func113 rfl Tryz.ntmps113 rfl (e := [(0, _), (1, _)]) rfl hw (g_sr (g_as rfl rfl (g_nt (g_seq ?_))))
  obtain ⟨o, h1, h2⟩ := bindO hm
  refine g_cut (ι := Unit) (fun l => True) (fun l => [(4, .bool o)]) (fun l => []) (fun l => []) ?_ ?_
  ·replace hm := h1
   refine g_region (g_mv rfl rfl ?_)
   obtain ⟨t6, h3, hm⟩ := bindO hm
   refine g_callH [] [] rfl rfl rfl rfl rfl rfl rfl Tryz.call133 (fun w hh => c_cmp_isNaN_int x0 w (HV.callee (S0 := []) (vs0 := []) hh roN)  h3) (fun l_1 h4 => ?_)
   refine g_mv rfl rfl ?_
   refine g_case 7 rfl (fun h5 => ?_) (fun h5 => ?_)
   ·replace hm := ifT (h5) hm
    refine v_unguard rfl rfl (g_mv rfl rfl (v_unguard rfl rfl ?_))
    obtain ⟨t9, h6, hm⟩ := bindO hm
    refine g_callH [] [] rfl rfl rfl rfl rfl rfl rfl Tryz.call133 (fun w hh => c_cmp_isNaN_int y1 w (HV.callee (S0 := []) (vs0 := []) hh roN)  h6) (fun l_2 h7 => ?_)
    refine v_unguard rfl rfl (g_val rfl rfl rfl (fun _ _ => v_not rfl) (g_pt rfl rfl rfl (g_mv rfl rfl ?_)))
    refine g_case 12 rfl (fun h8 => ?_) (fun h8 => ?_)
    ·replace hm := ifT (h8) hm
     refine g_k rfl rfl rfl rfl (g_k rfl rfl rfl rfl (g_k rfl rfl rfl rfl (g_pt rfl rfl rfl (g_as rfl rfl (g_nil ?_)))))
     obtain rfl := sj hm
     exact g_leaf () (trivial) (sE rfl) (fun w hh => hh)
    ·replace hm := ifN h8 hm
     refine v_unguard rfl rfl (g_mv rfl rfl (v_unguard rfl rfl (g_mv rfl rfl (v_unguard rfl rfl (g_ls rfl rfl rfl (g_pf rfl rfl rfl (g_as rfl rfl ?_)))))))
     refine g_nil ?_
     obtain rfl := sj hm
     exact g_leaf () (trivial) (sE rfl) (fun w hh => hh)
   ·replace hm := ifN h5 hm
    refine g_k rfl rfl rfl rfl (g_k rfl rfl rfl rfl (g_k rfl rfl rfl rfl (g_pf rfl rfl rfl (g_mv rfl rfl (v_unguard rfl rfl (g_mv rfl rfl (v_unguard rfl rfl ?_)))))))
    refine g_mv rfl rfl (v_unguard rfl rfl (g_ls rfl rfl rfl (g_pf rfl rfl rfl (g_as rfl rfl (g_nil ?_)))))
    obtain rfl := sj hm
    exact g_leaf () (trivial) (sE rfl) (fun w hh => hh)
  ·intro l hj
   replace hm := h2
   refine g_n_then (g_ret ?_)
   obtain rfl := sj hm
   refine g_done rfl (fun w hh => (.tmp rfl .nil)) (fun w hh => ⟨(), rfl, trivial, hh⟩)
def m_slices_IsSorted_intint_L0 (x0 : (List Int)) (s : Int) : Option (Int ⊕ (Unit ⊕ Bool)) :=
 if 0 < s then
 ((ix x0 s).bind fun t13 =>
 (subc s 1).bind fun t17 =>
 (ix x0 t17).bind fun t18 =>
 (m_cmp_Less_int t13 t18).bind fun t20 =>
 if t20 = true then
 (some (.inr (.inr false))) else
 ((subc s 1).bind fun t10 =>
 some (.inl t10))) else
 (some (.inr (.inl ())))
def m_slices_IsSorted_intint (x0 : (List Int)) : Option Bool :=
 (subc (x0.length : Int) 1).bind fun t6 =>
 (iterM FU (m_slices_IsSorted_intint_L0 x0) t6).bind fun o =>
 oc o (fun j => some true) (fun r_1 => some r_1)
theorem c_slices_IsSorted_intint (x0 : (List Int)) (qa0 : Option Addr) (na0 ca0 : Nat) (w : World) (hw : HV w (keys [] []) [] [] [(aB qa0, aO qa0, RI.enc x0)] w) (hna0 : x0.length = na0) (hqa0 : AOK na0 qa0) (hla0 : na0 ≤ ca0) {res : Bool} (hm : m_slices_IsSorted_intint x0 = some res) :
    Calls Tryz.prog 69 #[.slice qa0 na0 ca0] w (fun en w' => ∃ l : Unit, en = .returned (.bool res) ∧ (True) ∧ HV w (keys [] []) [] [] [] w') := by
  unfold m_slices_IsSorted_intint at hm
  refine g_en Tryz.func69 rfl Tryz.ntmps69 rfl (e := [(0, _)]) rfl hw (g_sr (g_as rfl rfl (g_nt (g_seq (g_sr (g_mv rfl rfl (g_val rfl rfl rfl (fun w _ => v_lenR hna0 (Tryz.runUnderlying26 w) rfl) ?_)))))))
  obtain ⟨t6, h1, hm⟩ := bindO hm
  refine g_val rfl rfl rfl (fun _ _ => v_subc h1 rfl rfl) (g_as rfl rfl (g_nt ?_))
  obtain ⟨o, h2, h3⟩ := bindO hm
  refine g_cut (ι := Unit) (fun j => o = .inl j) (fun j => []) (fun j => []) (fun j => []) ?_ ?_
  ·replace hm := h2
   refine g_block ?_
   refine g_loopF (ι := Unit) hm (fun s l => True) (fun s l => [(0, .slice qa0 na0 ca0), (3, .int .i64 s)]) (fun s l => []) (fun s l => []) () (trivial) (sE rfl) (fun w hh => hh) (fun s l r hpl hm h4 => ?_)
   unfold m_slices_IsSorted_intint_L0 at hm
   refine g_seq (g_sr (g_mv rfl rfl (g_val rfl rfl rfl (fun _ _ => v_gtr rfl rfl) (g_nt ?_))))
   refine g_cond rfl (fun h5 => ?_) (fun h5 => ?_)
   ·replace hm := ifD h5 hm
    refine g_skip (g_n_then (g_seq (g_block (g_seq ?_))))
    refine g_draw none (.free 0 (.free 1 (.free 2 (.hoist 3 (.free 4 (.free 5 (.free 6 (.free 7 (.hoist 8 (.one 9 .done)))))))))) _ rfl (by decide +kernel) (fun w k hh => hh.draw k) (fun w hh => hh) ?_
    refine p_mv rfl rfl rfl (p_mv rfl rfl rfl ?_)
    obtain ⟨t13, h6, hm⟩ := bindO hm
    refine p_free rfl rfl rfl rfl (fun w _ => v_ixR h6 (Tryz.runUnderlying26 w) (Tryz.sizeOf3 w) rfl rfl hna0 hqa0) (p_hoist rfl rfl rfl rfl (fun w hh => v_ldE RI 0 h6 (Tryz.isAgg3 w) rfl (hh.seg 0 rfl) rfl (Nat.add_zero _).symm) (p_mv rfl rfl rfl (p_mv rfl rfl rfl ?_)))
    obtain ⟨t17, h7, hm⟩ := bindO hm
    refine p_free rfl rfl rfl rfl (fun _ _ => v_subc h7 rfl rfl) ?_
    obtain ⟨t18, h8, hm⟩ := bindO hm
    refine p_free rfl rfl rfl rfl (fun w _ => v_ixR h8 (Tryz.runUnderlying26 w) (Tryz.sizeOf3 w) rfl rfl hna0 hqa0) (p_hoist rfl rfl rfl rfl (fun w hh => v_ldE RI 0 h8 (Tryz.isAgg3 w) rfl (hh.seg 0 rfl) rfl (Nat.add_zero _).symm) (p_one rfl ?_))
    obtain ⟨t20, h9, hm⟩ := bindO hm
    refine g_callH [] [] rfl rfl rfl rfl rfl rfl rfl Tryz.call113 (fun w hh => c_cmp_Less_int t13 t18 w (HV.callee (S0 := []) (vs0 := []) hh roN)  h9) (fun l_1 h10 => ?_)
    refine p_next (fun w hh => hh) (p_done (g_n_then ?_))
    refine g_cond rfl (fun h11 => ?_) (fun h11 => ?_)
    ·replace hm := ifT (h11) hm
     refine g_sr (g_as rfl rfl (g_nt (g_ret (g_r_blk (g_r_then (g_r_then (g_r_blk ?_)))))))
     obtain rfl := sj hm
     have hbo := h4 _ rfl
     subst hbo
     refine g_r_then ?_
     replace hm := ocR h3
     refine g_r_then ?_
     obtain rfl := sj hm
     refine g_done rfl (fun w hh => (.tmp rfl .nil)) (fun w hh => ⟨(), rfl, trivial, hh.se [] [] 1 rfl rfl rfl rfl⟩)
    ·replace hm := ifN h11 hm
     refine g_skip (g_n_blk (g_n_then (g_region (g_mv rfl rfl ?_))))
     obtain ⟨t10, h12, hm⟩ := bindO hm
     refine g_val rfl rfl rfl (fun _ _ => v_subc h12 rfl rfl) (g_as rfl rfl (g_nil ?_))
     obtain rfl := sj hm
     refine g_n_then ?_
     exact g_again' _ () rfl (trivial) (sE rfl) (fun w hh => hh)
   ·replace hm := ifE h5 hm
    refine g_exit (g_x_then (g_x_then (g_x_blk ?_)))
    obtain rfl := sj hm
    have hbo := h4 _ rfl
    subst hbo
    exact g_leaf () (rfl) (.nil) (fun w hh => hh)
  ·intro j hj
   have h13 := hj
   subst h13
   replace hm := ocL h3
   refine g_n_then (g_sr (g_as rfl rfl (g_nt (g_ret ?_))))
   obtain rfl := sj hm
   refine g_done rfl (fun w hh => (.tmp rfl .nil)) (fun w hh => ⟨(), rfl, trivial, hh.se [] [] 1 rfl rfl rfl rfl⟩)
def m_slices_Clone_intint (s0 : (List Int)) : Option (List Int) :=
 if 0 < (s0.length : Int) then ((appc 8 [] s0).bind fun t7 =>
 some t7) else none
theorem c_slices_Clone_intint (s0 : (List Int)) (qa0 : Option Addr) (na0 ca0 : Nat) (w : World) (hw : HV w (keys [] []) [] [] [(aB qa0, aO qa0, RI.enc s0)] w) (hna0 : s0.length = na0) (hqa0 : AOK na0 qa0) (hla0 : na0 ≤ ca0) {res : (List Int)} (hm : m_slices_Clone_intint s0 = some res) :
    Calls Tryz.prog 71 #[.slice qa0 na0 ca0] w (fun en w' => ∃ l : VL, en = .returned (slv l.q l.n l.cap) ∧ (VOK 1 l.n l.cap (RI.enc res) l.sp l.q) ∧ HV w (keys [] []) [] [⟨3, RI.enc res, l.sp, l.q, []⟩] [] w') := by
  unfold m_slices_Clone_intint at hm
  refine g_en Tryz.func71 rfl Tryz.ntmps71 rfl (e := [(0, _)]) rfl hw (g_sr (g_val rfl rfl rfl (fun _ _ => v_nilS rfl) (g_nt (g_seq (g_sr (g_mv rfl rfl ?_))))))
  obtain ⟨h2, hm⟩ := ifO hm
  refine g_val rfl rfl rfl (fun w _ => v_eqlNe hqa0 (len_posN hna0 h2) (Tryz.runUnderlying26 w) rfl rfl) (g_nt (g_condF rfl rfl (g_skip (g_n_then (g_sr ?_)))))
  refine g_vlit0 RI (fun w => Tryz.runUnderlying26 w) (fun w => Tryz.sizeOf3 w) rfl rfl (fun L h3 => ?_)
  refine g_mv rfl rfl ?_
  obtain ⟨t7, h4, hm⟩ := bindO hm
  refine g_vapp RI 0 h4 Tryz.underlying26 gxinf3 rfl rfl rfl rfl rfl h3 rfl rfl hna0 hqa0 (fun w hh => (hh.seg 0 rfl)) rfl (fun L_1 h5 h5n => ?_)
  refine g_se (S' := []) (vs' := [_]) [] [0] 0 rfl rfl rfl rfl (g_as rfl rfl (g_nt (g_ret ?_)))
  obtain rfl := sj hm
  refine g_done rfl (fun w hh => (.tmp rfl .nil)) (fun w hh => ⟨L_1, rfl, h5, hh.se [] [0] 1 rfl rfl rfl rfl⟩)
def m_slices_Index_intint_L0 (s0 : (List Int)) (v1 : Int) (s : Int) : Option (Int ⊕ (Unit ⊕ Int)) :=
 if s < (s0.length : Int) then
 ((ix s0 s).bind fun t14 =>
 if v1 = t14 then
 (some (.inr (.inr s))) else
 ((addc s 1).bind fun t18 =>
 some (.inl t18))) else
 (some (.inr (.inl ())))
def m_slices_Index_intint (s0 : (List Int)) (v1 : Int) : Option Int :=
 (iterM FU (m_slices_Index_intint_L0 s0 v1) 0).bind fun o =>
 oc o (fun j => some (-1)) (fun r_1 => some r_1)
theorem c_slices_Index_intint (s0 : (List Int)) (v1 : Int) (qa0 : Option Addr) (na0 ca0 : Nat) (w : World) (hw : HV w (keys [] []) [] [] [(aB qa0, aO qa0, RI.enc s0)] w) (hna0 : s0.length = na0) (hqa0 : AOK na0 qa0) (hla0 : na0 ≤ ca0) {res : Int} (hm : m_slices_Index_intint s0 v1 = some res) :
    Calls Tryz.prog 134 #[.slice qa0 na0 ca0, .int .i64 v1] w (fun en w' => ∃ l : Unit, en = .returned (.int .i64 res) ∧ (True) ∧ HV w (keys [] []) [] [] [] w') := by
  unfold m_slices_Index_intint at hm
  refine g_en Tryz.func134 rfl Tryz.ntmps134 rfl (e := [(0, _), (1, _)]) rfl hw (g_sr (g_as rfl rfl (g_nt (g_seq (g_sr (g_mv rfl rfl (g_val rfl rfl rfl (fun w _ => v_lenR hna0 (Tryz.runUnderlying26 w) rfl) ?_)))))))
  refine g_mv rfl rfl (g_nt ?_)
  obtain ⟨o, h1, h2⟩ := bindO hm
  refine g_cut (ι := Unit) (fun j => o = .inl j) (fun j => []) (fun j => []) (fun j => []) ?_ ?_
  ·replace hm := h1
   refine g_block ?_
   refine g_loopF (ι := Unit) hm (fun s l => True) (fun s l => [(0, .slice qa0 na0 ca0), (1, .int .i64 v1), (7, .int .i64 (s0.length : Int)), (8, .int .i64 s)]) (fun s l => []) (fun s l => []) () (trivial) (sE rfl) (fun w hh => hh) (fun s l r hpl hm h3 => ?_)
   unfold m_slices_Index_intint_L0 at hm
   refine g_sr (g_ls rfl rfl rfl (g_nt (g_seq ?_)))
   refine g_cond rfl (fun h4 => ?_) (fun h4 => ?_)
   ·replace hm := ifD h4 hm
    refine g_skip (g_n_then (g_seq (g_block (g_sr (g_mv rfl rfl (g_as rfl rfl (g_nx ?_)))))))
    refine g_mv rfl rfl (g_mv rfl rfl (g_mv rfl rfl ?_))
    obtain ⟨t14, h5, hm⟩ := bindO hm
    refine g_val rfl rfl rfl (fun w _ => v_ixR h5 (Tryz.runUnderlying26 w) (Tryz.sizeOf3 w) rfl rfl hna0 hqa0) (g_val rfl rfl rfl (fun w hh => v_ldE RI 0 h5 (Tryz.isAgg3 w) rfl (hh.seg 0 rfl) rfl (Nat.add_zero _).symm) (g_val rfl rfl rfl (fun _ _ => v_eql rfl rfl) (g_nt ?_)))
    refine g_cond rfl (fun h6 => ?_) (fun h6 => ?_)
    ·replace hm := ifD h6 hm
     refine g_sr (g_mv rfl rfl (g_as rfl rfl (g_nt (g_ret (g_r_blk (g_r_then (g_r_then ?_)))))))
     refine g_r_blk ?_
     obtain rfl := sj hm
     have hbo := h3 _ rfl
     subst hbo
     refine g_r_then ?_
     replace hm := ocR h2
     refine g_r_then ?_
     obtain rfl := sj hm
     refine g_done rfl (fun w hh => (.tmp rfl .nil)) (fun w hh => ⟨(), rfl, trivial, hh.se [] [] 1 rfl rfl rfl rfl⟩)
    ·replace hm := ifE h6 hm
     refine g_skip (g_n_blk (g_n_then (g_region ?_)))
     obtain ⟨t18, h7, hm⟩ := bindO hm
     refine g_ac h7 rfl rfl rfl (g_mv rfl rfl (g_nil ?_))
     obtain rfl := sj hm
     refine g_n_then ?_
     exact g_again' _ () rfl (trivial) (sE rfl) (fun w hh => hh)
   ·replace hm := ifE h4 hm
    refine g_exit (g_x_then (g_x_then (g_x_blk ?_)))
    obtain rfl := sj hm
    have hbo := h3 _ rfl
    subst hbo
    exact g_leaf () (rfl) (.nil) (fun w hh => hh)
  ·intro j hj
   have h8 := hj
   subst h8
   replace hm := ocL h2
   refine g_n_then (g_sr (g_as rfl rfl (g_nt (g_ret ?_))))
   obtain rfl := sj hm
   refine g_done rfl (fun w hh => (.tmp rfl .nil)) (fun w hh => ⟨(), rfl, trivial, hh.se [] [] 1 rfl rfl rfl rfl⟩)
def m_slices_Contains_intint (s0 : (List Int)) (v1 : Int) : Option Bool :=
 (m_slices_Index_intint s0 v1).bind fun t7 =>
 some (decide (0 ≤ t7))
theorem c_slices_Contains_intint (s0 : (List Int)) (v1 : Int) (qa0 : Option Addr) (na0 ca0 : Nat) (w : World) (hw : HV w (keys [] []) [] [] [(aB qa0, aO qa0, RI.enc s0)] w) (hna0 : s0.length = na0) (hqa0 : AOK na0 qa0) (hla0 : na0 ≤ ca0) {res : Bool} (hm : m_slices_Contains_intint s0 v1 = some res) :
    Calls Tryz.prog 114 #[.slice qa0 na0 ca0, .int .i64 v1] w (fun en w' => ∃ l : Unit, en = .returned (.bool res) ∧ (True) ∧ HV w (keys [] []) [] [] [] w') := by
  unfold m_slices_Contains_intint at hm
  refine g_en Tryz.func114 rfl Tryz.ntmps114 rfl (e := [(0, _), (1, _)]) rfl hw (g_sr (g_as rfl rfl (g_nx (g_mv rfl rfl (g_mv rfl rfl ?_)))))
  obtain ⟨t7, h1, hm⟩ := bindO hm
  refine g_callH [] [] rfl rfl rfl rfl rfl rfl rfl Tryz.call134 (fun w hh => c_slices_Index_intint s0 v1 qa0 na0 ca0 w (HV.callee (S0 := []) (vs0 := []) hh (roR hh 0 rfl roN)) hna0 hqa0 hla0 h1) (fun l h2 => ?_)
  refine g_val rfl rfl rfl (fun _ _ => v_geq rfl rfl) (g_as rfl rfl (g_nt (g_ret ?_)))
  obtain rfl := sj hm
  refine g_done rfl (fun w hh => (.tmp rfl .nil)) (fun w hh => ⟨(), rfl, trivial, hh.se [] [] 1 rfl rfl rfl rfl⟩)
def m_strip_desk_lacking_1_1 (k0 : Int) (a110 : (List Strip)) (a111 : (List Span)) (a112 : (List (Pair × Bool))) (a22 : Int) : Option Bool :=
 some ((aget a112 (⟨a22, k0⟩ : Pair)).getD false)
theorem c_strip_desk_lacking_1_1 (k0 : Int) (a110 : (List Strip)) (a111 : (List Span)) (a112 : (List (Pair × Bool))) (a22 : Int) (rb : Nat) (rb_1 : Nat) (qa2 : Option Addr) (na2 ca2 : Nat) (qa3 : Option Addr) (na3 ca3 : Nat) (pb : Nat) (rb_2 : Nat) (w : World) (hw : HV w (keys [(pb, gobj (kR RPr) kB a112)] []) [(pb, gobj (kR RPr) kB a112)] [] [(rb, 0, [ptr rb_1 0]), (rb_1, 0, [.slice qa2 na2 ca2, .slice qa3 na3 ca3, .map (some pb)]), (aB qa2, aO qa2, RSt.enc a110), (aB qa3, aO qa3, RSp.enc a111), (rb_2, 0, [.int .i64 a22])] w)   (hna2 : a110.length = na2) (hqa2 : AOK na2 qa2) (hla2 : na2 ≤ ca2) (hna3 : a111.length = na3) (hqa3 : AOK na3 qa3) (hla3 : na3 ≤ ca3)  {res : Bool} (hm : m_strip_desk_lacking_1_1 k0 a110 a111 a112 a22 = some res) :
    Calls Tryz.prog 115 #[.int .i64 k0, ptr rb 0, ptr rb_2 0] w (fun en w' => ∃ l : Unit, en = .returned (.bool res) ∧ (True) ∧ HV w (keys [(pb, gobj (kR RPr) kB a112)] []) [(pb, gobj (kR RPr) kB a112)] [] [] w') := by
  unfold m_strip_desk_lacking_1_1 at hm
  refine g_en Tryz.func115 rfl Tryz.ntmps115 rfl (e := [(0, _), (1, _), (2, _)]) rfl hw (g_sr (g_as rfl rfl (g_nt (g_seq ?_))))
  refine g_draw none (.hoist 0 (.free 1 (.free 2 (.hoist 3 (.hoist 4 (.free 5 (.free 6 (.hoist 7 (.free 8 .done))))))))) _ rfl (by decide +kernel) (fun w k hh => hh.draw k) (fun w hh => hh) ?_
  refine p_hoist rfl rfl rfl rfl (fun w hh => v_load (Tryz.isAgg107 w) rfl (segCell (hh.seg 0 rfl) 0 rfl)) (p_free rfl rfl rfl rfl (fun _ _ => v_nilCheck rfl) (p_fa 2 Tryz.runUnderlying144 Tryz.sizeOf142 rfl rfl rfl rfl (p_hoist rfl rfl rfl rfl (fun w hh => v_load (Tryz.isAgg142 w) rfl (segCell (hh.seg 1 rfl) 2 rfl)) (p_hoist rfl rfl rfl rfl (fun w hh => v_load (Tryz.isAgg3 w) rfl (segCell (hh.seg 4 rfl) 0 rfl)) (p_mv rfl rfl rfl (p_free rfl rfl rfl rfl (fun _ _ => v_build (vs := [(0, _), (1, _)]) (cells := [_, _]) rfl rfl) ?_))))))
  refine p_hoist rfl rfl rfl rfl (fun w hh => v_lookG (k := (⟨a22, k0⟩ : Pair)) (z := false) (Tryz.runUnderlying142 w) gxkey126 (Tryz.zeroValue4 w) rfl rfl (hh.mget 0 rfl)) ?_
  refine p_free rfl rfl rfl rfl (fun _ _ => v_assign rfl) (p_done (g_n_then (g_ret ?_)))
  obtain rfl := sj hm
  refine g_done rfl (fun w hh => (.tmp rfl .nil)) (fun w hh => ⟨(), rfl, trivial, hh.se [0] [] 5 rfl rfl rfl rfl⟩)
def m_slices_IndexFunc_intint_3_L0 (s0 : (List Int)) (f1_c00 : (List Strip)) (f1_c01 : (List Span)) (f1_c02 : (List (Pair × Bool))) (f1_c1 : Int) (s : Int) : Option (Int ⊕ (Unit ⊕ Int)) :=
 if s < (s0.length : Int) then
 ((ix s0 s).bind fun t14 =>
 (m_strip_desk_lacking_1_1 t14 f1_c00 f1_c01 f1_c02 f1_c1).bind fun t16 =>
 if t16 = true then
 (some (.inr (.inr s))) else
 ((addc s 1).bind fun t18 =>
 some (.inl t18))) else
 (some (.inr (.inl ())))
def m_slices_IndexFunc_intint_3 (s0 : (List Int)) (f1_c00 : (List Strip)) (f1_c01 : (List Span)) (f1_c02 : (List (Pair × Bool))) (f1_c1 : Int) : Option Int :=
 (iterM FU (m_slices_IndexFunc_intint_3_L0 s0 f1_c00 f1_c01 f1_c02 f1_c1) 0).bind fun o =>
 oc o (fun j => some (-1)) (fun r_1 => some r_1)
theorem c_slices_IndexFunc_intint_3 (s0 : (List Int)) (f1_c00 : (List Strip)) (f1_c01 : (List Span)) (f1_c02 : (List (Pair × Bool))) (f1_c1 : Int) (qa0 : Option Addr) (na0 ca0 : Nat) (rb : Nat) (rb_1 : Nat) (qa3 : Option Addr) (na3 ca3 : Nat) (qa4 : Option Addr) (na4 ca4 : Nat) (pb : Nat) (rb_2 : Nat) (w : World) (hw : HV w (keys [(pb, gobj (kR RPr) kB f1_c02)] []) [(pb, gobj (kR RPr) kB f1_c02)] [] [(aB qa0, aO qa0, RI.enc s0), (rb, 0, [ptr rb_1 0]), (rb_1, 0, [.slice qa3 na3 ca3, .slice qa4 na4 ca4, .map (some pb)]), (aB qa3, aO qa3, RSt.enc f1_c00), (aB qa4, aO qa4, RSp.enc f1_c01), (rb_2, 0, [.int .i64 f1_c1])] w) (hna0 : s0.length = na0) (hqa0 : AOK na0 qa0) (hla0 : na0 ≤ ca0)   (hna3 : f1_c00.length = na3) (hqa3 : AOK na3 qa3) (hla3 : na3 ≤ ca3) (hna4 : f1_c01.length = na4) (hqa4 : AOK na4 qa4) (hla4 : na4 ≤ ca4)  {res : Int} (hm : m_slices_IndexFunc_intint_3 s0 f1_c00 f1_c01 f1_c02 f1_c1 = some res) :
    Calls Tryz.prog 132 #[.slice qa0 na0 ca0, .func (.func 115) #[] #[ptr rb 0, ptr rb_2 0]] w (fun en w' => ∃ l : Unit, en = .returned (.int .i64 res) ∧ (True) ∧ HV w (keys [(pb, gobj (kR RPr) kB f1_c02)] []) [(pb, gobj (kR RPr) kB f1_c02)] [] [] w') := by
  unfold m_slices_IndexFunc_intint_3 at hm
  refine g_en Tryz.func132 rfl Tryz.ntmps132 rfl (e := [(0, _), (1, _)]) rfl hw (g_sr (g_as rfl rfl (g_nt (g_seq (g_sr (g_mv rfl rfl (g_val rfl rfl rfl (fun w _ => v_lenR hna0 (Tryz.runUnderlying26 w) rfl) ?_)))))))
  refine g_mv rfl rfl (g_nt ?_)
  obtain ⟨o, h1, h2⟩ := bindO hm
  refine g_cut (ι := Unit) (fun j => o = .inl j) (fun j => []) (fun j => [(pb, gobj (kR RPr) kB f1_c02)]) (fun j => []) ?_ ?_
  ·replace hm := h1
   refine g_block ?_
   refine g_loopF (ι := Unit) hm (fun s l => True) (fun s l => [(0, .slice qa0 na0 ca0), (1, .func (.func 115) #[] #[ptr rb 0, ptr rb_2 0]), (7, .int .i64 (s0.length : Int)), (8, .int .i64 s)]) (fun s l => [(pb, gobj (kR RPr) kB f1_c02)]) (fun s l => []) () (trivial) (sE rfl) (fun w hh => hh) (fun s l r hpl hm h3 => ?_)
   unfold m_slices_IndexFunc_intint_3_L0 at hm
   refine g_sr (g_ls rfl rfl rfl (g_nt (g_seq ?_)))
   refine g_cond rfl (fun h4 => ?_) (fun h4 => ?_)
   ·replace hm := ifD h4 hm
    refine g_skip (g_n_then (g_seq (g_block (g_sr (g_mv rfl rfl (g_as rfl rfl (g_nx ?_)))))))
    refine g_mv rfl rfl (g_mv rfl rfl (g_mv rfl rfl ?_))
    obtain ⟨t14, h5, hm⟩ := bindO hm
    refine g_val rfl rfl rfl (fun w _ => v_ixR h5 (Tryz.runUnderlying26 w) (Tryz.sizeOf3 w) rfl rfl hna0 hqa0) (g_val rfl rfl rfl (fun w hh => v_ldE RI 0 h5 (Tryz.isAgg3 w) rfl (hh.seg 0 rfl) rfl (Nat.add_zero _).symm) ?_)
    obtain ⟨t16, h6, hm⟩ := bindO hm
    refine g_callH [_] [] rfl rfl rfl rfl rfl rfl rfl Tryz.call115 (fun w hh => c_strip_desk_lacking_1_1 t14 f1_c00 f1_c01 f1_c02 f1_c1 rb rb_1 qa3 na3 ca3 qa4 na4 ca4 pb rb_2 w (HV.callee (S0 := [_]) (vs0 := []) hh (roR hh 1 rfl (roR hh 2 rfl (roR hh 3 rfl (roR hh 4 rfl (roR hh 5 rfl roN)))))) hna3 hqa3 hla3 hna4 hqa4 hla4 h6) (fun l_1 h7 => ?_)
    refine g_se (S' := [_]) (vs' := []) [0] [] 0 rfl rfl rfl rfl (g_nt ?_)
    refine g_cond rfl (fun h8 => ?_) (fun h8 => ?_)
    ·replace hm := ifT (h8) hm
     refine g_sr (g_mv rfl rfl (g_as rfl rfl (g_nt (g_ret (g_r_blk (g_r_then (g_r_then ?_)))))))
     refine g_r_blk ?_
     obtain rfl := sj hm
     have hbo := h3 _ rfl
     subst hbo
     refine g_r_then ?_
     replace hm := ocR h2
     refine g_r_then ?_
     obtain rfl := sj hm
     refine g_done rfl (fun w hh => (.tmp rfl .nil)) (fun w hh => ⟨(), rfl, trivial, hh.se [0] [] 6 rfl rfl rfl rfl⟩)
    ·replace hm := ifN h8 hm
     refine g_skip (g_n_blk (g_n_then (g_region ?_)))
     obtain ⟨t18, h9, hm⟩ := bindO hm
     refine g_ac h9 rfl rfl rfl (g_mv rfl rfl (g_nil ?_))
     obtain rfl := sj hm
     refine g_n_then ?_
     exact g_again' _ () rfl (trivial) (sE rfl) (fun w hh => hh)
   ·replace hm := ifE h4 hm
    refine g_exit (g_x_then (g_x_then (g_x_blk ?_)))
    obtain rfl := sj hm
    have hbo := h3 _ rfl
    subst hbo
    exact g_leaf () (rfl) (.nil) (fun w hh => hh)
  ·intro j hj
   have h10 := hj
   subst h10
   replace hm := ocL h2
   refine g_n_then (g_sr (g_as rfl rfl (g_nt (g_ret ?_))))
   obtain rfl := sj hm
   refine g_done rfl (fun w hh => (.tmp rfl .nil)) (fun w hh => ⟨(), rfl, trivial, hh.se [0] [] 6 rfl rfl rfl rfl⟩)
def m_slices_ContainsFunc_intint_3 (s0 : (List Int)) (f1_c00 : (List Strip)) (f1_c01 : (List Span)) (f1_c02 : (List (Pair × Bool))) (f1_c1 : Int) : Option Bool :=
 (m_slices_IndexFunc_intint_3 s0 f1_c00 f1_c01 f1_c02 f1_c1).bind fun t7 =>
 some (decide (0 ≤ t7))
theorem c_slices_ContainsFunc_intint_3 (s0 : (List Int)) (f1_c00 : (List Strip)) (f1_c01 : (List Span)) (f1_c02 : (List (Pair × Bool))) (f1_c1 : Int) (qa0 : Option Addr) (na0 ca0 : Nat) (rb : Nat) (rb_1 : Nat) (qa3 : Option Addr) (na3 ca3 : Nat) (qa4 : Option Addr) (na4 ca4 : Nat) (pb : Nat) (rb_2 : Nat) (w : World) (hw : HV w (keys [(pb, gobj (kR RPr) kB f1_c02)] []) [(pb, gobj (kR RPr) kB f1_c02)] [] [(aB qa0, aO qa0, RI.enc s0), (rb, 0, [ptr rb_1 0]), (rb_1, 0, [.slice qa3 na3 ca3, .slice qa4 na4 ca4, .map (some pb)]), (aB qa3, aO qa3, RSt.enc f1_c00), (aB qa4, aO qa4, RSp.enc f1_c01), (rb_2, 0, [.int .i64 f1_c1])] w) (hna0 : s0.length = na0) (hqa0 : AOK na0 qa0) (hla0 : na0 ≤ ca0)   (hna3 : f1_c00.length = na3) (hqa3 : AOK na3 qa3) (hla3 : na3 ≤ ca3) (hna4 : f1_c01.length = na4) (hqa4 : AOK na4 qa4) (hla4 : na4 ≤ ca4)  {res : Bool} (hm : m_slices_ContainsFunc_intint_3 s0 f1_c00 f1_c01 f1_c02 f1_c1 = some res) :
    Calls Tryz.prog 110 #[.slice qa0 na0 ca0, .func (.func 115) #[] #[ptr rb 0, ptr rb_2 0]] w (fun en w' => ∃ l : Unit, en = .returned (.bool res) ∧ (True) ∧ HV w (keys [(pb, gobj (kR RPr) kB f1_c02)] []) [(pb, gobj (kR RPr) kB f1_c02)] [] [] w') := by
  unfold m_slices_ContainsFunc_intint_3 at hm
  refine g_en Tryz.func110 rfl Tryz.ntmps110 rfl (e := [(0, _), (1, _)]) rfl hw (g_sr (g_as rfl rfl (g_nx (g_mv rfl rfl (g_mv rfl rfl ?_)))))
  obtain ⟨t7, h1, hm⟩ := bindO hm
  refine g_callH [_] [] rfl rfl rfl rfl rfl rfl rfl Tryz.call132 (fun w hh => c_slices_IndexFunc_intint_3 s0 f1_c00 f1_c01 f1_c02 f1_c1 qa0 na0 ca0 rb rb_1 qa3 na3 ca3 qa4 na4 ca4 pb rb_2 w (HV.callee (S0 := [_]) (vs0 := []) hh (roR hh 0 rfl (roR hh 1 rfl (roR hh 2 rfl (roR hh 3 rfl (roR hh 4 rfl (roR hh 5 rfl roN))))))) hna0 hqa0 hla0 hna3 hqa3 hla3 hna4 hqa4 hla4 h1) (fun l h2 => ?_)
  refine g_se (S' := [_]) (vs' := []) [0] [] 0 rfl rfl rfl rfl (g_val rfl rfl rfl (fun _ _ => v_geq rfl rfl) (g_as rfl rfl (g_nt (g_ret ?_))))
  obtain rfl := sj hm
  refine g_done rfl (fun w hh => (.tmp rfl .nil)) (fun w hh => ⟨(), rfl, trivial, hh.se [0] [] 6 rfl rfl rfl rfl⟩)
def m_strip_desk_lacking_2_2 (t0 : Int) (a110 : (List Strip)) (a111 : (List Span)) (a112 : (List (Pair × Bool))) (a22 : Int) : Option Bool :=
 some ((aget a112 (⟨t0, a22⟩ : Pair)).getD false)
theorem c_strip_desk_lacking_2_2 (t0 : Int) (a110 : (List Strip)) (a111 : (List Span)) (a112 : (List (Pair × Bool))) (a22 : Int) (rb : Nat) (rb_1 : Nat) (qa2 : Option Addr) (na2 ca2 : Nat) (qa3 : Option Addr) (na3 ca3 : Nat) (pb : Nat) (rb_2 : Nat) (w : World) (hw : HV w (keys [(pb, gobj (kR RPr) kB a112)] []) [(pb, gobj (kR RPr) kB a112)] [] [(rb, 0, [ptr rb_1 0]), (rb_1, 0, [.slice qa2 na2 ca2, .slice qa3 na3 ca3, .map (some pb)]), (aB qa2, aO qa2, RSt.enc a110), (aB qa3, aO qa3, RSp.enc a111), (rb_2, 0, [.int .i64 a22])] w)   (hna2 : a110.length = na2) (hqa2 : AOK na2 qa2) (hla2 : na2 ≤ ca2) (hna3 : a111.length = na3) (hqa3 : AOK na3 qa3) (hla3 : na3 ≤ ca3)  {res : Bool} (hm : m_strip_desk_lacking_2_2 t0 a110 a111 a112 a22 = some res) :
    Calls Tryz.prog 116 #[.int .i64 t0, ptr rb 0, ptr rb_2 0] w (fun en w' => ∃ l : Unit, en = .returned (.bool res) ∧ (True) ∧ HV w (keys [(pb, gobj (kR RPr) kB a112)] []) [(pb, gobj (kR RPr) kB a112)] [] [] w') := by
  unfold m_strip_desk_lacking_2_2 at hm
  refine g_en Tryz.func116 rfl Tryz.ntmps116 rfl (e := [(0, _), (1, _), (2, _)]) rfl hw (g_sr (g_as rfl rfl (g_nt (g_seq ?_))))
  refine g_draw none (.hoist 0 (.free 1 (.free 2 (.hoist 3 (.free 4 (.hoist 5 (.free 6 (.hoist 7 (.free 8 .done))))))))) _ rfl (by decide +kernel) (fun w k hh => hh.draw k) (fun w hh => hh) ?_
  refine p_hoist rfl rfl rfl rfl (fun w hh => v_load (Tryz.isAgg107 w) rfl (segCell (hh.seg 0 rfl) 0 rfl)) (p_free rfl rfl rfl rfl (fun _ _ => v_nilCheck rfl) (p_fa 2 Tryz.runUnderlying144 Tryz.sizeOf142 rfl rfl rfl rfl (p_hoist rfl rfl rfl rfl (fun w hh => v_load (Tryz.isAgg142 w) rfl (segCell (hh.seg 1 rfl) 2 rfl)) (p_mv rfl rfl rfl (p_hoist rfl rfl rfl rfl (fun w hh => v_load (Tryz.isAgg3 w) rfl (segCell (hh.seg 4 rfl) 0 rfl)) (p_free rfl rfl rfl rfl (fun _ _ => v_build (vs := [(0, _), (1, _)]) (cells := [_, _]) rfl rfl) ?_))))))
  refine p_hoist rfl rfl rfl rfl (fun w hh => v_lookG (k := (⟨t0, a22⟩ : Pair)) (z := false) (Tryz.runUnderlying142 w) gxkey126 (Tryz.zeroValue4 w) rfl rfl (hh.mget 0 rfl)) ?_
  refine p_free rfl rfl rfl rfl (fun _ _ => v_assign rfl) (p_done (g_n_then (g_ret ?_)))
  obtain rfl := sj hm
  refine g_done rfl (fun w hh => (.tmp rfl .nil)) (fun w hh => ⟨(), rfl, trivial, hh.se [0] [] 5 rfl rfl rfl rfl⟩)
def m_slices_IndexFunc_intint_4_L0 (s0 : (List Int)) (f1_c00 : (List Strip)) (f1_c01 : (List Span)) (f1_c02 : (List (Pair × Bool))) (f1_c1 : Int) (s : Int) : Option (Int ⊕ (Unit ⊕ Int)) :=
 if s < (s0.length : Int) then
 ((ix s0 s).bind fun t14 =>
 (m_strip_desk_lacking_2_2 t14 f1_c00 f1_c01 f1_c02 f1_c1).bind fun t16 =>
 if t16 = true then
 (some (.inr (.inr s))) else
 ((addc s 1).bind fun t18 =>
 some (.inl t18))) else
 (some (.inr (.inl ())))
def m_slices_IndexFunc_intint_4 (s0 : (List Int)) (f1_c00 : (List Strip)) (f1_c01 : (List Span)) (f1_c02 : (List (Pair × Bool))) (f1_c1 : Int) : Option Int :=
 (iterM FU (m_slices_IndexFunc_intint_4_L0 s0 f1_c00 f1_c01 f1_c02 f1_c1) 0).bind fun o =>
 oc o (fun j => some (-1)) (fun r_1 => some r_1)
theorem c_slices_IndexFunc_intint_4 (s0 : (List Int)) (f1_c00 : (List Strip)) (f1_c01 : (List Span)) (f1_c02 : (List (Pair × Bool))) (f1_c1 : Int) (qa0 : Option Addr) (na0 ca0 : Nat) (rb : Nat) (rb_1 : Nat) (qa3 : Option Addr) (na3 ca3 : Nat) (qa4 : Option Addr) (na4 ca4 : Nat) (pb : Nat) (rb_2 : Nat) (w : World) (hw : HV w (keys [(pb, gobj (kR RPr) kB f1_c02)] []) [(pb, gobj (kR RPr) kB f1_c02)] [] [(aB qa0, aO qa0, RI.enc s0), (rb, 0, [ptr rb_1 0]), (rb_1, 0, [.slice qa3 na3 ca3, .slice qa4 na4 ca4, .map (some pb)]), (aB qa3, aO qa3, RSt.enc f1_c00), (aB qa4, aO qa4, RSp.enc f1_c01), (rb_2, 0, [.int .i64 f1_c1])] w) (hna0 : s0.length = na0) (hqa0 : AOK na0 qa0) (hla0 : na0 ≤ ca0)   (hna3 : f1_c00.length = na3) (hqa3 : AOK na3 qa3) (hla3 : na3 ≤ ca3) (hna4 : f1_c01.length = na4) (hqa4 : AOK na4 qa4) (hla4 : na4 ≤ ca4)  {res : Int} (hm : m_slices_IndexFunc_intint_4 s0 f1_c00 f1_c01 f1_c02 f1_c1 = some res) :
    Calls Tryz.prog 132 #[.slice qa0 na0 ca0, .func (.func 116) #[] #[ptr rb 0, ptr rb_2 0]] w (fun en w' => ∃ l : Unit, en = .returned (.int .i64 res) ∧ (True) ∧ HV w (keys [(pb, gobj (kR RPr) kB f1_c02)] []) [(pb, gobj (kR RPr) kB f1_c02)] [] [] w') := by
  unfold m_slices_IndexFunc_intint_4 at hm
  refine g_en Tryz.func132 rfl Tryz.ntmps132 rfl (e := [(0, _), (1, _)]) rfl hw (g_sr (g_as rfl rfl (g_nt (g_seq (g_sr (g_mv rfl rfl (g_val rfl rfl rfl (fun w _ => v_lenR hna0 (Tryz.runUnderlying26 w) rfl) ?_)))))))
  refine g_mv rfl rfl (g_nt ?_)
  obtain ⟨o, h1, h2⟩ := bindO hm
  refine g_cut (ι := Unit) (fun j => o = .inl j) (fun j => []) (fun j => [(pb, gobj (kR RPr) kB f1_c02)]) (fun j => []) ?_ ?_
  ·replace hm := h1
   refine g_block ?_
   refine g_loopF (ι := Unit) hm (fun s l => True) (fun s l => [(0, .slice qa0 na0 ca0), (1, .func (.func 116) #[] #[ptr rb 0, ptr rb_2 0]), (7, .int .i64 (s0.length : Int)), (8, .int .i64 s)]) (fun s l => [(pb, gobj (kR RPr) kB f1_c02)]) (fun s l => []) () (trivial) (sE rfl) (fun w hh => hh) (fun s l r hpl hm h3 => ?_)
   unfold m_slices_IndexFunc_intint_4_L0 at hm
   refine g_sr (g_ls rfl rfl rfl (g_nt (g_seq ?_)))
   refine g_cond rfl (fun h4 => ?_) (fun h4 => ?_)
   ·replace hm := ifD h4 hm
    refine g_skip (g_n_then (g_seq (g_block (g_sr (g_mv rfl rfl (g_as rfl rfl (g_nx ?_)))))))
    refine g_mv rfl rfl (g_mv rfl rfl (g_mv rfl rfl ?_))
    obtain ⟨t14, h5, hm⟩ := bindO hm
    refine g_val rfl rfl rfl (fun w _ => v_ixR h5 (Tryz.runUnderlying26 w) (Tryz.sizeOf3 w) rfl rfl hna0 hqa0) (g_val rfl rfl rfl (fun w hh => v_ldE RI 0 h5 (Tryz.isAgg3 w) rfl (hh.seg 0 rfl) rfl (Nat.add_zero _).symm) ?_)
    obtain ⟨t16, h6, hm⟩ := bindO hm
    refine g_callH [_] [] rfl rfl rfl rfl rfl rfl rfl Tryz.call116 (fun w hh => c_strip_desk_lacking_2_2 t14 f1_c00 f1_c01 f1_c02 f1_c1 rb rb_1 qa3 na3 ca3 qa4 na4 ca4 pb rb_2 w (HV.callee (S0 := [_]) (vs0 := []) hh (roR hh 1 rfl (roR hh 2 rfl (roR hh 3 rfl (roR hh 4 rfl (roR hh 5 rfl roN)))))) hna3 hqa3 hla3 hna4 hqa4 hla4 h6) (fun l_1 h7 => ?_)
    refine g_se (S' := [_]) (vs' := []) [0] [] 0 rfl rfl rfl rfl (g_nt ?_)
    refine g_cond rfl (fun h8 => ?_) (fun h8 => ?_)
    ·replace hm := ifT (h8) hm
     refine g_sr (g_mv rfl rfl (g_as rfl rfl (g_nt (g_ret (g_r_blk (g_r_then (g_r_then ?_)))))))
     refine g_r_blk ?_
     obtain rfl := sj hm
     have hbo := h3 _ rfl
     subst hbo
     refine g_r_then ?_
     replace hm := ocR h2
     refine g_r_then ?_
     obtain rfl := sj hm
     refine g_done rfl (fun w hh => (.tmp rfl .nil)) (fun w hh => ⟨(), rfl, trivial, hh.se [0] [] 6 rfl rfl rfl rfl⟩)
    ·replace hm := ifN h8 hm
     refine g_skip (g_n_blk (g_n_then (g_region ?_)))
     obtain ⟨t18, h9, hm⟩ := bindO hm
     refine g_ac h9 rfl rfl rfl (g_mv rfl rfl (g_nil ?_))
     obtain rfl := sj hm
     refine g_n_then ?_
     exact g_again' _ () rfl (trivial) (sE rfl) (fun w hh => hh)
   ·replace hm := ifE h4 hm
    refine g_exit (g_x_then (g_x_then (g_x_blk ?_)))
    obtain rfl := sj hm
    have hbo := h3 _ rfl
    subst hbo
    exact g_leaf () (rfl) (.nil) (fun w hh => hh)
  ·intro j hj
   have h10 := hj
   subst h10
   replace hm := ocL h2
   refine g_n_then (g_sr (g_as rfl rfl (g_nt (g_ret ?_))))
   obtain rfl := sj hm
   refine g_done rfl (fun w hh => (.tmp rfl .nil)) (fun w hh => ⟨(), rfl, trivial, hh.se [0] [] 6 rfl rfl rfl rfl⟩)
def m_slices_ContainsFunc_intint_4 (s0 : (List Int)) (f1_c00 : (List Strip)) (f1_c01 : (List Span)) (f1_c02 : (List (Pair × Bool))) (f1_c1 : Int) : Option Bool :=
 (m_slices_IndexFunc_intint_4 s0 f1_c00 f1_c01 f1_c02 f1_c1).bind fun t7 =>
 some (decide (0 ≤ t7))
theorem c_slices_ContainsFunc_intint_4 (s0 : (List Int)) (f1_c00 : (List Strip)) (f1_c01 : (List Span)) (f1_c02 : (List (Pair × Bool))) (f1_c1 : Int) (qa0 : Option Addr) (na0 ca0 : Nat) (rb : Nat) (rb_1 : Nat) (qa3 : Option Addr) (na3 ca3 : Nat) (qa4 : Option Addr) (na4 ca4 : Nat) (pb : Nat) (rb_2 : Nat) (w : World) (hw : HV w (keys [(pb, gobj (kR RPr) kB f1_c02)] []) [(pb, gobj (kR RPr) kB f1_c02)] [] [(aB qa0, aO qa0, RI.enc s0), (rb, 0, [ptr rb_1 0]), (rb_1, 0, [.slice qa3 na3 ca3, .slice qa4 na4 ca4, .map (some pb)]), (aB qa3, aO qa3, RSt.enc f1_c00), (aB qa4, aO qa4, RSp.enc f1_c01), (rb_2, 0, [.int .i64 f1_c1])] w) (hna0 : s0.length = na0) (hqa0 : AOK na0 qa0) (hla0 : na0 ≤ ca0)   (hna3 : f1_c00.length = na3) (hqa3 : AOK na3 qa3) (hla3 : na3 ≤ ca3) (hna4 : f1_c01.length = na4) (hqa4 : AOK na4 qa4) (hla4 : na4 ≤ ca4)  {res : Bool} (hm : m_slices_ContainsFunc_intint_4 s0 f1_c00 f1_c01 f1_c02 f1_c1 = some res) :
    Calls Tryz.prog 110 #[.slice qa0 na0 ca0, .func (.func 116) #[] #[ptr rb 0, ptr rb_2 0]] w (fun en w' => ∃ l : Unit, en = .returned (.bool res) ∧ (True) ∧ HV w (keys [(pb, gobj (kR RPr) kB f1_c02)] []) [(pb, gobj (kR RPr) kB f1_c02)] [] [] w') := by
  unfold m_slices_ContainsFunc_intint_4 at hm
  refine g_en Tryz.func110 rfl Tryz.ntmps110 rfl (e := [(0, _), (1, _)]) rfl hw (g_sr (g_as rfl rfl (g_nx (g_mv rfl rfl (g_mv rfl rfl ?_)))))
  obtain ⟨t7, h1, hm⟩ := bindO hm
  refine g_callH [_] [] rfl rfl rfl rfl rfl rfl rfl Tryz.call132 (fun w hh => c_slices_IndexFunc_intint_4 s0 f1_c00 f1_c01 f1_c02 f1_c1 qa0 na0 ca0 rb rb_1 qa3 na3 ca3 qa4 na4 ca4 pb rb_2 w (HV.callee (S0 := [_]) (vs0 := []) hh (roR hh 0 rfl (roR hh 1 rfl (roR hh 2 rfl (roR hh 3 rfl (roR hh 4 rfl (roR hh 5 rfl roN))))))) hna0 hqa0 hla0 hna3 hqa3 hla3 hna4 hqa4 hla4 h1) (fun l h2 => ?_)
  refine g_se (S' := [_]) (vs' := []) [0] [] 0 rfl rfl rfl rfl (g_val rfl rfl rfl (fun _ _ => v_geq rfl rfl) (g_as rfl rfl (g_nt (g_ret ?_))))
  obtain rfl := sj hm
  refine g_done rfl (fun w hh => (.tmp rfl .nil)) (fun w hh => ⟨(), rfl, trivial, hh.se [0] [] 6 rfl rfl rfl rfl⟩)
structure m_strip_desk_lacking_2_C0 where
  need5 : Int
  can6 : Int
structure m_strip_desk_lacking_2_S0 where
  need5 : Int
  can6 : Int
  t17 : Int
structure m_strip_desk_lacking_2_C1 where
  need5 : Int
  can6 : Int
def m_strip_desk_lacking_2_L0 (d01 : (List Span)) (l1 : Lack) (d00 : (List Strip)) (d02 : (List (Pair × Bool))) (s : m_strip_desk_lacking_2_S0) : Option (m_strip_desk_lacking_2_S0 ⊕ m_strip_desk_lacking_2_C0) :=
 if s.t17 < (d01.length : Int) then
 (((ix d01 s.t17).bind fun t20 =>
 (if l1.tenants = true then
 ((m_slices_Contains_intint l1.of_ s.t17).bind fun t29 =>
 some t29) else
 (some false)).bind fun o_2 =>
 if o_2 = true then
 ((addc s.need5 t20.lo).bind fun t34 =>
 some (⟨t34, s.can6⟩ : m_strip_desk_lacking_2_C1)) else
 ((if (!l1.tenants) = true then
 ((m_slices_ContainsFunc_intint_3 l1.of_ d00 d01 d02 s.t17).bind fun t43 =>
 some t43) else
 (some false)).bind fun o_3 =>
 if o_3 = true then
 ((addc s.can6 t20.hi).bind fun t48 =>
 some (⟨s.need5, t48⟩ : m_strip_desk_lacking_2_C1)) else
 (some (⟨s.need5, s.can6⟩ : m_strip_desk_lacking_2_C1)))).bind fun o_1 =>
 (addc s.t17 1).bind fun t49 =>
 some (.inl (⟨o_1.need5, o_1.can6, t49⟩ : m_strip_desk_lacking_2_S0))) else
 (some (.inr (⟨s.need5, s.can6⟩ : m_strip_desk_lacking_2_C0)))
structure m_strip_desk_lacking_2_C4 where
  need5 : Int
  can6 : Int
structure m_strip_desk_lacking_2_S1 where
  need5 : Int
  can6 : Int
  t56 : Int
structure m_strip_desk_lacking_2_C5 where
  need5 : Int
  can6 : Int
def m_strip_desk_lacking_2_L1 (d00 : (List Strip)) (l1 : Lack) (d01 : (List Span)) (d02 : (List (Pair × Bool))) (s_1 : m_strip_desk_lacking_2_S1) : Option (m_strip_desk_lacking_2_S1 ⊕ m_strip_desk_lacking_2_C4) :=
 if s_1.t56 < (d00.length : Int) then
 (((ix d00 s_1.t56).bind fun t59 =>
 (if (!l1.tenants) = true then
 ((m_slices_Contains_intint l1.of_ s_1.t56).bind fun t69 =>
 some t69) else
 (some false)).bind fun o_6 =>
 if o_6 = true then
 ((m_strip_Strip_gone (⟨t59.tenant, (⟨t59.lay.lo, t59.lay.hi⟩ : Span), (⟨t59.seeded.lo, t59.seeded.hi⟩ : Span), (⟨t59.left.lo, t59.left.hi⟩ : Span)⟩ : Strip)).bind fun t73 =>
 (addc s_1.need5 t73.lo).bind fun t75 =>
 some (⟨t75, s_1.can6⟩ : m_strip_desk_lacking_2_C5)) else
 ((if l1.tenants = true then
 ((m_slices_ContainsFunc_intint_4 l1.of_ d00 d01 d02 s_1.t56).bind fun t83 =>
 some t83) else
 (some false)).bind fun o_7 =>
 if o_7 = true then
 ((m_strip_Strip_gone (⟨t59.tenant, (⟨t59.lay.lo, t59.lay.hi⟩ : Span), (⟨t59.seeded.lo, t59.seeded.hi⟩ : Span), (⟨t59.left.lo, t59.left.hi⟩ : Span)⟩ : Strip)).bind fun t87 =>
 (addc s_1.can6 t87.hi).bind fun t89 =>
 some (⟨s_1.need5, t89⟩ : m_strip_desk_lacking_2_C5)) else
 (some (⟨s_1.need5, s_1.can6⟩ : m_strip_desk_lacking_2_C5)))).bind fun o_5 =>
 (addc s_1.t56 1).bind fun t90 =>
 some (.inl (⟨o_5.need5, o_5.can6, t90⟩ : m_strip_desk_lacking_2_S1))) else
 (some (.inr (⟨s_1.need5, s_1.can6⟩ : m_strip_desk_lacking_2_C4)))
def m_strip_desk_lacking_2 (d00 : (List Strip)) (d01 : (List Span)) (d02 : (List (Pair × Bool))) (l1 : Lack) : Option Int :=
 (iterM FU (m_strip_desk_lacking_2_L0 d01 l1 d00 d02) (⟨0, 0, 0⟩ : m_strip_desk_lacking_2_S0)).bind fun o =>
 (iterM FU (m_strip_desk_lacking_2_L1 d00 l1 d01 d02) (⟨o.need5, o.can6, 0⟩ : m_strip_desk_lacking_2_S1)).bind fun o_4 =>
 (subc o_4.need5 o_4.can6).bind fun t93 =>
 some t93
theorem c_strip_desk_lacking_2 (d00 : (List Strip)) (d01 : (List Span)) (d02 : (List (Pair × Bool))) (l1 : Lack) (rb : Nat) (qa1 : Option Addr) (na1 ca1 : Nat) (qa2 : Option Addr) (na2 ca2 : Nat) (pb : Nat) (qa3 : Option Addr) (na3 ca3 : Nat) (w : World) (hw : HV w (keys [(pb, gobj (kR RPr) kB d02)] []) [(pb, gobj (kR RPr) kB d02)] [] [(rb, 0, [.slice qa1 na1 ca1, .slice qa2 na2 ca2, .map (some pb)]), (aB qa1, aO qa1, RSt.enc d00), (aB qa2, aO qa2, RSp.enc d01), (aB qa3, aO qa3, RI.enc l1.of_)] w)  (hna1 : d00.length = na1) (hqa1 : AOK na1 qa1) (hla1 : na1 ≤ ca1) (hna2 : d01.length = na2) (hqa2 : AOK na2 qa2) (hla2 : na2 ≤ ca2) (hna3 : l1.of_.length = na3) (hqa3 : AOK na3 qa3) (hla3 : na3 ≤ ca3) {res : Int} (hm : m_strip_desk_lacking_2 d00 d01 d02 l1 = some res) :
    Calls Tryz.prog 72 #[ptr rb 0, .agg #[.bool l1.tenants, .slice qa3 na3 ca3]] w (fun en w' => ∃ l : Unit, en = .returned (.int .i64 res) ∧ (True) ∧ HV w (keys [(pb, gobj (kR RPr) kB d02)] []) [(pb, gobj (kR RPr) kB d02)] [] [] w') := by
  unfold m_strip_desk_lacking_2 at hm
  refine g_en Tryz.func72 rfl Tryz.ntmps72 rfl (e := [(0, _), (1, _)]) rfl hw (g_sr ?_)
  refine g_boxV rfl rfl (fun b h1 => ?_)
  refine g_boxV rfl rfl (fun b_1 h2 => ?_)
  refine g_as rfl rfl (g_nx (g_as rfl rfl (g_as rfl rfl (g_nt (g_seq (g_sr (g_lc 1 Tryz.isAgg107 rfl rfl rfl rfl ?_)))))))
  refine g_val rfl rfl rfl (fun _ _ => v_nilCheck rfl) (g_fa 0 Tryz.runUnderlying144 rfl Tryz.sizeOf25 rfl rfl (g_fa 1 Tryz.runUnderlying25 rfl Tryz.sizeOf23 rfl rfl (g_val rfl rfl rfl (fun w hh => v_load (Tryz.isAgg23 w) rfl (segCell (hh.seg 0 rfl) 1 rfl)) (g_val rfl rfl rfl (fun w _ => v_lenR hna2 (Tryz.runUnderlying23 w) rfl) (g_mv rfl rfl (g_nt ?_))))))
  obtain ⟨o, h3, h4⟩ := bindO hm
  refine g_cut (ι := Unit) (fun l => True) (fun l => [(2, ptr b 0), (3, ptr b_1 0), (5, .int .i64 o.need5), (6, .int .i64 o.can6)]) (fun l => [(b_1, .cells #[.bool l1.tenants, .slice qa3 na3 ca3] 30 (0, 0)), (b, .cells #[ptr rb 0] 107 (0, 0)), (pb, gobj (kR RPr) kB d02)]) (fun l => []) ?_ ?_
  ·replace hm := h3
   refine g_block ?_
   refine g_loopF (ι := Unit) hm (fun s l_1 => True) (fun s l_1 => [(2, ptr b 0), (3, ptr b_1 0), (5, .int .i64 s.need5), (6, .int .i64 s.can6), (15, .slice qa2 na2 ca2), (16, .int .i64 (d01.length : Int)), (17, .int .i64 s.t17)]) (fun s l_1 => [(b_1, .cells #[.bool l1.tenants, .slice qa3 na3 ca3] 30 (0, 0)), (b, .cells #[ptr rb 0] 107 (0, 0)), (pb, gobj (kR RPr) kB d02)]) (fun s l_1 => []) () (trivial) (sE rfl) (fun w hh => hh) (fun s l_1 r hpl hm h5 => ?_)
   unfold m_strip_desk_lacking_2_L0 at hm
   refine g_sr (g_ls rfl rfl rfl (g_nt (g_seq ?_)))
   refine g_cond rfl (fun h6 => ?_) (fun h6 => ?_)
   ·replace hm := ifD h6 hm
    refine g_skip (g_n_then (g_seq ?_))
    obtain ⟨o_1, h7, h8⟩ := bindO hm
    refine g_cut (ι := Unit) (fun l_2 => True) (fun l_2 => [(2, ptr b 0), (3, ptr b_1 0), (5, .int .i64 o_1.need5), (6, .int .i64 o_1.can6), (15, .slice qa2 na2 ca2), (16, .int .i64 (d01.length : Int)), (17, .int .i64 s.t17)]) (fun l_2 => [(b_1, .cells #[.bool l1.tenants, .slice qa3 na3 ca3] 30 (0, 0)), (b, .cells #[ptr rb 0] 107 (0, 0)), (pb, gobj (kR RPr) kB d02)]) (fun l_2 => []) ?_ ?_
    ·replace hm := h7
     refine g_block (g_sr (g_mv rfl rfl ?_))
     obtain ⟨t20, h9, hm⟩ := bindO hm
     refine g_val rfl rfl rfl (fun w _ => v_ixR h9 (Tryz.runUnderlying23 w) (Tryz.sizeOf32 w) rfl rfl hna2 hqa2) ?_
     refine g_val rfl rfl rfl (fun w hh => v_ldEA RSp 0 [.int .i64 t20.lo, .int .i64 t20.hi] h9 (Tryz.isAgg32 w) (Tryz.sizeOf32 w) rfl (hh.seg 2 rfl) rfl (Nat.add_zero _).symm) ?_
     refine g_allocV (fun w => Tryz.zeroValue3 w) rfl (fun b_2 h10 => ?_)
     refine g_allocV (fun w => Tryz.zeroValue32 w) rfl (fun b_3 h11 => ?_)
     refine g_stS (cs' := #[_]) (S' := [_, _, _, _, _]) 1 (fun w => Tryz.sizeOf3 w) rfl rfl rfl rfl rfl rfl rfl (g_stSA (us := #[_, _]) (cs' := [_, _]) (S' := [_, _, _, _, _]) 0 (fun w => Tryz.sizeOf32 w) rfl rfl rfl rfl rfl rfl rfl (g_nt (g_block (g_seq ?_))))
     obtain ⟨o_2, h12, h13⟩ := bindO hm
     refine g_cut (ι := Unit) (fun l_3 => True) (fun l_3 => [(2, ptr b 0), (3, ptr b_1 0), (5, .int .i64 s.need5), (6, .int .i64 s.can6), (7, ptr b_2 0), (8, ptr b_3 0), (15, .slice qa2 na2 ca2), (16, .int .i64 (d01.length : Int)), (17, .int .i64 s.t17), (22, .bool o_2)]) (fun l_3 => [(b_3, .cells #[.int .i64 t20.lo, .int .i64 t20.hi] 32 (0, 0)), (b_2, .cells #[.int .i64 s.t17] 3 (0, 0)), (b_1, .cells #[.bool l1.tenants, .slice qa3 na3 ca3] 30 (0, 0)), (b, .cells #[ptr rb 0] 107 (0, 0)), (pb, gobj (kR RPr) kB d02)]) (fun l_3 => []) ?_ ?_
     ·replace hm := h12
      refine g_region (g_fa 0 Tryz.runUnderlying30 rfl Tryz.sizeOf4 rfl rfl (g_lc 2 Tryz.isAgg4 rfl rfl rfl rfl (g_mv rfl rfl ?_)))
      refine g_case 25 rfl (fun h14 => ?_) (fun h14 => ?_)
      ·replace hm := ifT (h14) hm
       refine v_unguard rfl rfl (g_fa 1 Tryz.runUnderlying30 rfl Tryz.sizeOf26 rfl rfl (v_unguard rfl rfl (g_lc 2 Tryz.isAgg26 rfl rfl rfl rfl (v_unguard rfl rfl (g_lc 1 Tryz.isAgg3 rfl rfl rfl rfl (v_unguard rfl rfl ?_))))))
       obtain ⟨t29, h15, hm⟩ := bindO hm
       refine g_callH [] [] rfl rfl rfl rfl rfl rfl rfl Tryz.call114 (fun w hh => c_slices_Contains_intint l1.of_ s.t17 qa3 na3 ca3 w (HV.callee (S0 := []) (vs0 := []) hh (roR hh 3 rfl roN)) hna3 hqa3 hla3 h15) (fun l_4 h16 => ?_)
       refine g_pt rfl rfl rfl (g_as rfl rfl (g_nil ?_))
       obtain rfl := sj hm
       exact g_leaf () (trivial) (sE rfl) (fun w hh => hh)
      ·replace hm := ifN h14 hm
       refine g_k rfl rfl rfl rfl (g_k rfl rfl rfl rfl (g_k rfl rfl rfl rfl (g_k rfl rfl rfl rfl (g_pf rfl rfl rfl (g_as rfl rfl (g_nil ?_))))))
       obtain rfl := sj hm
       exact g_leaf () (trivial) (sE rfl) (fun w hh => hh)
     ·intro l_3 hj
      replace hm := h13
      refine g_n_then ?_
      refine g_cond rfl (fun h17 => ?_) (fun h17 => ?_)
      ·replace hm := ifT (h17) hm
       refine g_region (g_mv rfl rfl (g_fa 0 Tryz.runUnderlying32 rfl Tryz.sizeOf3 rfl rfl (g_lc 0 Tryz.isAgg3 rfl rfl rfl rfl ?_)))
       obtain ⟨t34, h18, hm⟩ := bindO hm
       refine g_ac h18 rfl rfl rfl (g_as rfl rfl (g_nil (g_n_blk (g_n_blk ?_))))
       obtain rfl := sj hm
       exact g_leaf () (trivial) (sE rfl) (hsE [2, 3, 4] [] 0 rfl rfl rfl rfl)
      ·replace hm := ifN h17 hm
       refine g_seq ?_
       obtain ⟨o_3, h19, h20⟩ := bindO hm
       refine g_cut (ι := Unit) (fun l_5 => True) (fun l_5 => [(2, ptr b 0), (3, ptr b_1 0), (5, .int .i64 s.need5), (6, .int .i64 s.can6), (8, ptr b_3 0), (15, .slice qa2 na2 ca2), (16, .int .i64 (d01.length : Int)), (17, .int .i64 s.t17), (35, .bool o_3)]) (fun l_5 => [(b_3, .cells #[.int .i64 t20.lo, .int .i64 t20.hi] 32 (0, 0)), (b_2, .cells #[.int .i64 s.t17] 3 (0, 0)), (b_1, .cells #[.bool l1.tenants, .slice qa3 na3 ca3] 30 (0, 0)), (b, .cells #[ptr rb 0] 107 (0, 0)), (pb, gobj (kR RPr) kB d02)]) (fun l_5 => []) ?_ ?_
       ·replace hm := h19
        refine g_region (g_fa 0 Tryz.runUnderlying30 rfl Tryz.sizeOf4 rfl rfl (g_lc 2 Tryz.isAgg4 rfl rfl rfl rfl (g_val rfl rfl rfl (fun _ _ => v_not rfl) (g_mv rfl rfl ?_))))
        refine g_case 39 rfl (fun h21 => ?_) (fun h21 => ?_)
        ·replace hm := ifT (h21) hm
         refine v_unguard rfl rfl (g_fa 1 Tryz.runUnderlying30 rfl Tryz.sizeOf26 rfl rfl (v_unguard rfl rfl (g_lc 2 Tryz.isAgg26 rfl rfl rfl rfl (v_unguard rfl rfl (g_val rfl rfl rfl (fun _ _ => v_makeFunc (u := #[]) (u' := #[_, _]) rfl rfl) (v_unguard rfl rfl ?_))))))
         obtain ⟨t43, h22, hm⟩ := bindO hm
         refine g_se (S' := [_, _, _, _, _]) (vs' := []) [4, 0, 1, 2, 3] [] 0 rfl rfl rfl rfl ?_
         refine g_callH [_] [] rfl rfl rfl rfl rfl rfl rfl Tryz.call110 (fun w hh => c_slices_ContainsFunc_intint_3 l1.of_ d00 d01 d02 s.t17 qa3 na3 ca3 b rb qa1 na1 ca1 qa2 na2 ca2 pb b_2 w (HV.callee (S0 := [_]) (vs0 := []) hh (roR hh 3 rfl (roC (hh.bsepH 3 rfl) (roR hh 0 rfl (roR hh 1 rfl (roR hh 2 rfl (roC (hh.bsepH 1 rfl) roN))))))) hna3 hqa3 hla3 hna1 hqa1 hla1 hna2 hqa2 hla2 h22) (fun l_6 h23 => ?_)
         refine g_se (S' := [_, _, _, _, _]) (vs' := []) [0, 1, 2, 3, 4] [] 0 rfl rfl rfl rfl (g_pt rfl rfl rfl (g_as rfl rfl (g_nil ?_)))
         obtain rfl := sj hm
         exact g_leaf () (trivial) (sE rfl) (hsE [1, 2, 3, 4, 0] [] 0 rfl rfl rfl rfl)
        ·replace hm := ifN h21 hm
         refine g_k rfl rfl rfl rfl (g_k rfl rfl rfl rfl (g_k rfl rfl rfl rfl (g_k rfl rfl rfl rfl (g_pf rfl rfl rfl (g_as rfl rfl (g_nil ?_))))))
         obtain rfl := sj hm
         exact g_leaf () (trivial) (sE rfl) (fun w hh => hh)
       ·intro l_5 hj
        replace hm := h20
        refine g_n_then ?_
        refine g_cond rfl (fun h24 => ?_) (fun h24 => ?_)
        ·replace hm := ifT (h24) hm
         refine g_region (g_mv rfl rfl (g_fa 1 Tryz.runUnderlying32 rfl Tryz.sizeOf3 rfl rfl (g_lc 0 Tryz.isAgg3 rfl rfl rfl rfl ?_)))
         obtain ⟨t48, h25, hm⟩ := bindO hm
         refine g_ac h25 rfl rfl rfl (g_as rfl rfl (g_nil (g_n_blk (g_n_blk ?_))))
         obtain rfl := sj hm
         exact g_leaf () (trivial) (sE rfl) (hsE [2, 3, 4] [] 0 rfl rfl rfl rfl)
        ·replace hm := ifN h24 hm
         refine g_skip (g_n_blk (g_n_blk ?_))
         obtain rfl := sj hm
         exact g_leaf () (trivial) (sE rfl) (hsE [2, 3, 4] [] 0 rfl rfl rfl rfl)
    ·intro l_2 hj
     replace hm := h8
     refine g_n_then (g_region ?_)
     obtain ⟨t49, h26, hm⟩ := bindO hm
     refine g_ac h26 rfl rfl rfl (g_mv rfl rfl (g_nil ?_))
     obtain rfl := sj hm
     refine g_n_then ?_
     exact g_again' _ () rfl (trivial) (sE rfl) (fun w hh => hh)
   ·replace hm := ifE h6 hm
    refine g_exit (g_x_then (g_x_then (g_x_blk ?_)))
    obtain rfl := sj hm
    have hbo := h5 _ rfl
    subst hbo
    exact g_leaf () (trivial) (sE rfl) (fun w hh => hh)
  ·intro l hj
   replace hm := h4
   refine g_n_then (g_seq (g_sr (g_lc 1 Tryz.isAgg107 rfl rfl rfl rfl (g_val rfl rfl rfl (fun _ _ => v_nilCheck rfl) (g_fa 0 Tryz.runUnderlying144 rfl Tryz.sizeOf25 rfl rfl (g_fa 0 Tryz.runUnderlying25 rfl Tryz.sizeOf22 rfl rfl (g_val rfl rfl rfl (fun w hh => v_load (Tryz.isAgg22 w) rfl (segCell (hh.seg 0 rfl) 0 rfl)) ?_)))))))
   refine g_val rfl rfl rfl (fun w _ => v_lenR hna1 (Tryz.runUnderlying22 w) rfl) (g_mv rfl rfl (g_nt ?_))
   obtain ⟨o_4, h27, h28⟩ := bindO hm
   refine g_cut (ι := Unit) (fun l_7 => True) (fun l_7 => [(5, .int .i64 o_4.need5), (6, .int .i64 o_4.can6)]) (fun l_7 => [(b_1, .cells #[.bool l1.tenants, .slice qa3 na3 ca3] 30 (0, 0)), (b, .cells #[ptr rb 0] 107 (0, 0)), (pb, gobj (kR RPr) kB d02)]) (fun l_7 => []) ?_ ?_
   ·replace hm := h27
    refine g_block ?_
    refine g_loopF (ι := Unit) hm (fun s_1 l_8 => True) (fun s_1 l_8 => [(2, ptr b 0), (3, ptr b_1 0), (5, .int .i64 s_1.need5), (6, .int .i64 s_1.can6), (54, .slice qa1 na1 ca1), (55, .int .i64 (d00.length : Int)), (56, .int .i64 s_1.t56)]) (fun s_1 l_8 => [(b_1, .cells #[.bool l1.tenants, .slice qa3 na3 ca3] 30 (0, 0)), (b, .cells #[ptr rb 0] 107 (0, 0)), (pb, gobj (kR RPr) kB d02)]) (fun s_1 l_8 => []) () (trivial) (sE rfl) (fun w hh => hh) (fun s_1 l_8 r_1 hpl hm h29 => ?_)
    unfold m_strip_desk_lacking_2_L1 at hm
    refine g_sr (g_ls rfl rfl rfl (g_nt (g_seq ?_)))
    refine g_cond rfl (fun h30 => ?_) (fun h30 => ?_)
    ·replace hm := ifD h30 hm
     refine g_skip (g_n_then (g_seq ?_))
     obtain ⟨o_5, h31, h32⟩ := bindO hm
     refine g_cut (ι := Unit) (fun l_9 => True) (fun l_9 => [(2, ptr b 0), (3, ptr b_1 0), (5, .int .i64 o_5.need5), (6, .int .i64 o_5.can6), (54, .slice qa1 na1 ca1), (55, .int .i64 (d00.length : Int)), (56, .int .i64 s_1.t56)]) (fun l_9 => [(b_1, .cells #[.bool l1.tenants, .slice qa3 na3 ca3] 30 (0, 0)), (b, .cells #[ptr rb 0] 107 (0, 0)), (pb, gobj (kR RPr) kB d02)]) (fun l_9 => []) ?_ ?_
     ·replace hm := h31
      refine g_block (g_sr (g_mv rfl rfl ?_))
      obtain ⟨t59, h33, hm⟩ := bindO hm
      refine g_val rfl rfl rfl (fun w _ => v_ixR h33 (Tryz.runUnderlying22 w) (Tryz.sizeOf85 w) rfl rfl hna1 hqa1) ?_
      refine g_val rfl rfl rfl (fun w hh => v_ldEA RSt 0 [.int .i64 t59.tenant, .int .i64 t59.lay.lo, .int .i64 t59.lay.hi, .int .i64 t59.seeded.lo, .int .i64 t59.seeded.hi, .int .i64 t59.left.lo, .int .i64 t59.left.hi] h33 (Tryz.isAgg85 w) (Tryz.sizeOf85 w) rfl (hh.seg 1 rfl) rfl (Nat.add_zero _).symm) ?_
      refine g_allocV (fun w => Tryz.zeroValue3 w) rfl (fun b_4 h34 => ?_)
      refine g_allocV (fun w => Tryz.zeroValue85 w) rfl (fun b_5 h35 => ?_)
      refine g_stS (cs' := #[_]) (S' := [_, _, _, _, _]) 1 (fun w => Tryz.sizeOf3 w) rfl rfl rfl rfl rfl rfl rfl (g_stSA (us := #[_, _, _, _, _, _, _]) (cs' := [_, _, _, _, _, _, _]) (S' := [_, _, _, _, _]) 0 (fun w => Tryz.sizeOf85 w) rfl rfl rfl rfl rfl rfl rfl (g_nt (g_block (g_seq ?_))))
      obtain ⟨o_6, h36, h37⟩ := bindO hm
      refine g_cut (ι := Unit) (fun l_10 => True) (fun l_10 => [(2, ptr b 0), (3, ptr b_1 0), (5, .int .i64 s_1.need5), (6, .int .i64 s_1.can6), (9, ptr b_4 0), (10, ptr b_5 0), (54, .slice qa1 na1 ca1), (55, .int .i64 (d00.length : Int)), (56, .int .i64 s_1.t56), (61, .bool o_6)]) (fun l_10 => [(b_5, .cells #[.int .i64 t59.tenant, .int .i64 t59.lay.lo, .int .i64 t59.lay.hi, .int .i64 t59.seeded.lo, .int .i64 t59.seeded.hi, .int .i64 t59.left.lo, .int .i64 t59.left.hi] 85 (0, 0)), (b_4, .cells #[.int .i64 s_1.t56] 3 (0, 0)), (b_1, .cells #[.bool l1.tenants, .slice qa3 na3 ca3] 30 (0, 0)), (b, .cells #[ptr rb 0] 107 (0, 0)), (pb, gobj (kR RPr) kB d02)]) (fun l_10 => []) ?_ ?_
      ·replace hm := h36
       refine g_region (g_fa 0 Tryz.runUnderlying30 rfl Tryz.sizeOf4 rfl rfl (g_lc 2 Tryz.isAgg4 rfl rfl rfl rfl (g_val rfl rfl rfl (fun _ _ => v_not rfl) (g_mv rfl rfl ?_))))
       refine g_case 65 rfl (fun h38 => ?_) (fun h38 => ?_)
       ·replace hm := ifT (h38) hm
        refine v_unguard rfl rfl (g_fa 1 Tryz.runUnderlying30 rfl Tryz.sizeOf26 rfl rfl (v_unguard rfl rfl (g_lc 2 Tryz.isAgg26 rfl rfl rfl rfl (v_unguard rfl rfl (g_lc 1 Tryz.isAgg3 rfl rfl rfl rfl (v_unguard rfl rfl ?_))))))
        obtain ⟨t69, h39, hm⟩ := bindO hm
        refine g_callH [] [] rfl rfl rfl rfl rfl rfl rfl Tryz.call114 (fun w hh => c_slices_Contains_intint l1.of_ s_1.t56 qa3 na3 ca3 w (HV.callee (S0 := []) (vs0 := []) hh (roR hh 3 rfl roN)) hna3 hqa3 hla3 h39) (fun l_11 h40 => ?_)
        refine g_pt rfl rfl rfl (g_as rfl rfl (g_nil ?_))
        obtain rfl := sj hm
        exact g_leaf () (trivial) (sE rfl) (fun w hh => hh)
       ·replace hm := ifN h38 hm
        refine g_k rfl rfl rfl rfl (g_k rfl rfl rfl rfl (g_k rfl rfl rfl rfl (g_k rfl rfl rfl rfl (g_pf rfl rfl rfl (g_as rfl rfl (g_nil ?_))))))
        obtain rfl := sj hm
        exact g_leaf () (trivial) (sE rfl) (fun w hh => hh)
      ·intro l_10 hj
       replace hm := h37
       refine g_n_then ?_
       refine g_cond rfl (fun h41 => ?_) (fun h41 => ?_)
       ·replace hm := ifT (h41) hm
        refine g_region (g_mv rfl rfl (g_la [_, _, _, _, _, _, _] 0 Tryz.isAgg85 Tryz.sizeOf85 rfl rfl rfl rfl ?_))
        obtain ⟨t73, h42, hm⟩ := bindO hm
        refine g_callH [] [] rfl rfl rfl rfl rfl rfl rfl Tryz.call66 (fun w hh => c_strip_Strip_gone (⟨t59.tenant, (⟨t59.lay.lo, t59.lay.hi⟩ : Span), (⟨t59.seeded.lo, t59.seeded.hi⟩ : Span), (⟨t59.left.lo, t59.left.hi⟩ : Span)⟩ : Strip) w (HV.callee (S0 := []) (vs0 := []) hh roN)  h42) (fun l_12 h43 => ?_)
        refine g_val rfl rfl rfl (fun w _ => v_fld1 3 0 (Tryz.runUnderlying32 w) rfl (Tryz.isAgg3 w) rfl rfl) ?_
        obtain ⟨t75, h44, hm⟩ := bindO hm
        refine g_ac h44 rfl rfl rfl (g_as rfl rfl (g_nil (g_n_blk (g_n_blk ?_))))
        obtain rfl := sj hm
        exact g_leaf () (trivial) (sE rfl) (hsE [2, 3, 4] [] 0 rfl rfl rfl rfl)
       ·replace hm := ifN h41 hm
        refine g_seq ?_
        obtain ⟨o_7, h45, h46⟩ := bindO hm
        refine g_cut (ι := Unit) (fun l_13 => True) (fun l_13 => [(2, ptr b 0), (3, ptr b_1 0), (5, .int .i64 s_1.need5), (6, .int .i64 s_1.can6), (10, ptr b_5 0), (54, .slice qa1 na1 ca1), (55, .int .i64 (d00.length : Int)), (56, .int .i64 s_1.t56), (76, .bool o_7)]) (fun l_13 => [(b_5, .cells #[.int .i64 t59.tenant, .int .i64 t59.lay.lo, .int .i64 t59.lay.hi, .int .i64 t59.seeded.lo, .int .i64 t59.seeded.hi, .int .i64 t59.left.lo, .int .i64 t59.left.hi] 85 (0, 0)), (b_4, .cells #[.int .i64 s_1.t56] 3 (0, 0)), (b_1, .cells #[.bool l1.tenants, .slice qa3 na3 ca3] 30 (0, 0)), (b, .cells #[ptr rb 0] 107 (0, 0)), (pb, gobj (kR RPr) kB d02)]) (fun l_13 => []) ?_ ?_
        ·replace hm := h45
         refine g_region (g_fa 0 Tryz.runUnderlying30 rfl Tryz.sizeOf4 rfl rfl (g_lc 2 Tryz.isAgg4 rfl rfl rfl rfl (g_mv rfl rfl ?_)))
         refine g_case 79 rfl (fun h47 => ?_) (fun h47 => ?_)
         ·replace hm := ifT (h47) hm
          refine v_unguard rfl rfl (g_fa 1 Tryz.runUnderlying30 rfl Tryz.sizeOf26 rfl rfl (v_unguard rfl rfl (g_lc 2 Tryz.isAgg26 rfl rfl rfl rfl (v_unguard rfl rfl (g_val rfl rfl rfl (fun _ _ => v_makeFunc (u := #[]) (u' := #[_, _]) rfl rfl) (v_unguard rfl rfl ?_))))))
          obtain ⟨t83, h48, hm⟩ := bindO hm
          refine g_se (S' := [_, _, _, _, _]) (vs' := []) [4, 0, 1, 2, 3] [] 0 rfl rfl rfl rfl ?_
          refine g_callH [_] [] rfl rfl rfl rfl rfl rfl rfl Tryz.call110 (fun w hh => c_slices_ContainsFunc_intint_4 l1.of_ d00 d01 d02 s_1.t56 qa3 na3 ca3 b rb qa1 na1 ca1 qa2 na2 ca2 pb b_4 w (HV.callee (S0 := [_]) (vs0 := []) hh (roR hh 3 rfl (roC (hh.bsepH 3 rfl) (roR hh 0 rfl (roR hh 1 rfl (roR hh 2 rfl (roC (hh.bsepH 1 rfl) roN))))))) hna3 hqa3 hla3 hna1 hqa1 hla1 hna2 hqa2 hla2 h48) (fun l_14 h49 => ?_)
          refine g_se (S' := [_, _, _, _, _]) (vs' := []) [0, 1, 2, 3, 4] [] 0 rfl rfl rfl rfl (g_pt rfl rfl rfl (g_as rfl rfl (g_nil ?_)))
          obtain rfl := sj hm
          exact g_leaf () (trivial) (sE rfl) (hsE [1, 2, 3, 4, 0] [] 0 rfl rfl rfl rfl)
         ·replace hm := ifN h47 hm
          refine g_k rfl rfl rfl rfl (g_k rfl rfl rfl rfl (g_k rfl rfl rfl rfl (g_k rfl rfl rfl rfl (g_pf rfl rfl rfl (g_as rfl rfl (g_nil ?_))))))
          obtain rfl := sj hm
          exact g_leaf () (trivial) (sE rfl) (fun w hh => hh)
        ·intro l_13 hj
         replace hm := h46
         refine g_n_then ?_
         refine g_cond rfl (fun h50 => ?_) (fun h50 => ?_)
         ·replace hm := ifT (h50) hm
          refine g_region (g_mv rfl rfl (g_la [_, _, _, _, _, _, _] 0 Tryz.isAgg85 Tryz.sizeOf85 rfl rfl rfl rfl ?_))
          obtain ⟨t87, h51, hm⟩ := bindO hm
          refine g_callH [] [] rfl rfl rfl rfl rfl rfl rfl Tryz.call66 (fun w hh => c_strip_Strip_gone (⟨t59.tenant, (⟨t59.lay.lo, t59.lay.hi⟩ : Span), (⟨t59.seeded.lo, t59.seeded.hi⟩ : Span), (⟨t59.left.lo, t59.left.hi⟩ : Span)⟩ : Strip) w (HV.callee (S0 := []) (vs0 := []) hh roN)  h51) (fun l_15 h52 => ?_)
          refine g_val rfl rfl rfl (fun w _ => v_fld1 3 1 (Tryz.runUnderlying32 w) rfl (Tryz.isAgg3 w) rfl rfl) ?_
          obtain ⟨t89, h53, hm⟩ := bindO hm
          refine g_ac h53 rfl rfl rfl (g_as rfl rfl (g_nil (g_n_blk (g_n_blk ?_))))
          obtain rfl := sj hm
          exact g_leaf () (trivial) (sE rfl) (hsE [2, 3, 4] [] 0 rfl rfl rfl rfl)
         ·replace hm := ifN h50 hm
          refine g_skip (g_n_blk (g_n_blk ?_))
          obtain rfl := sj hm
          exact g_leaf () (trivial) (sE rfl) (hsE [2, 3, 4] [] 0 rfl rfl rfl rfl)
     ·intro l_9 hj
      replace hm := h32
      refine g_n_then (g_region ?_)
      obtain ⟨t90, h54, hm⟩ := bindO hm
      refine g_ac h54 rfl rfl rfl (g_mv rfl rfl (g_nil ?_))
      obtain rfl := sj hm
      refine g_n_then ?_
      exact g_again' _ () rfl (trivial) (sE rfl) (fun w hh => hh)
    ·replace hm := ifE h30 hm
     refine g_exit (g_x_then (g_x_then (g_x_blk ?_)))
     obtain rfl := sj hm
     have hbo := h29 _ rfl
     subst hbo
     exact g_leaf () (trivial) (sE rfl) (fun w hh => hh)
   ·intro l_7 hj
    replace hm := h28
    refine g_n_then (g_sr (g_mv rfl rfl (g_mv rfl rfl ?_)))
    obtain ⟨t93, h55, hm⟩ := bindO hm
    refine g_val rfl rfl rfl (fun _ _ => v_subc h55 rfl rfl) (g_as rfl rfl (g_nt (g_ret ?_)))
    obtain rfl := sj hm
    refine g_done rfl (fun w hh => (.tmp rfl .nil)) (fun w hh => ⟨(), rfl, trivial, hh.se [2] [] 4 rfl rfl rfl rfl⟩)
def m_strip_every_int_1_2 (x0 : Int) (a11_f0 : Scalps) : Option Bool :=
 (m_strip_Scalps_strip a11_f0 x0).bind fun t6 =>
 some (!t6)
theorem c_strip_every_int_1_2 (x0 : Int) (a11_f0 : Scalps) (rb : Nat) (qa1 : Option Addr) (na1 ca1 : Nat) (qa2 : Option Addr) (na2 ca2 : Nat) (w : World) (hw : HV w (keys [] []) [] [] [(rb, 0, [.func (.func 67) #[.agg #[.slice qa1 na1 ca1, .slice qa2 na2 ca2]] #[]]), (aB qa1, aO qa1, RSt.enc a11_f0.strips), (aB qa2, aO qa2, RSp.enc a11_f0.carried)] w)  (hna1 : a11_f0.strips.length = na1) (hqa1 : AOK na1 qa1) (hla1 : na1 ≤ ca1) (hna2 : a11_f0.carried.length = na2) (hqa2 : AOK na2 qa2) (hla2 : na2 ≤ ca2) {res : Bool} (hm : m_strip_every_int_1_2 x0 a11_f0 = some res) :
    Calls Tryz.prog 111 #[.int .i64 x0, ptr rb 0] w (fun en w' => ∃ l : Unit, en = .returned (.bool res) ∧ (True) ∧ HV w (keys [] []) [] [] [] w') := by
  unfold m_strip_every_int_1_2 at hm
  refine g_en Tryz.func111 rfl Tryz.ntmps111 rfl (e := [(0, _), (1, _)]) rfl hw (g_sr (g_as rfl rfl (g_nx (g_val rfl rfl rfl (fun w hh => v_load (Tryz.isAgg120 w) rfl (segCell (hh.seg 0 rfl) 0 rfl)) (g_mv rfl rfl ?_)))))
  obtain ⟨t6, h1, hm⟩ := bindO hm
  refine g_callH [] [] rfl rfl rfl rfl rfl rfl rfl Tryz.call67 (fun w hh => c_strip_Scalps_strip a11_f0 x0 qa1 na1 ca1 qa2 na2 ca2 w (HV.callee (S0 := []) (vs0 := []) hh (roR hh 1 rfl (roR hh 2 rfl roN))) hna1 hqa1 hla1 hna2 hqa2 hla2 h1) (fun l h2 => ?_)
  refine g_val rfl rfl rfl (fun _ _ => v_not rfl) (g_as rfl rfl (g_nt (g_ret ?_)))
  obtain rfl := sj hm
  refine g_done rfl (fun w hh => (.tmp rfl .nil)) (fun w hh => ⟨(), rfl, trivial, hh.se [] [] 3 rfl rfl rfl rfl⟩)
def m_slices_IndexFunc_intint_5_L0 (s0 : (List Int)) (f1_c0_f0 : Scalps) (s : Int) : Option (Int ⊕ (Unit ⊕ Int)) :=
 if s < (s0.length : Int) then
 ((ix s0 s).bind fun t14 =>
 (m_strip_every_int_1_2 t14 f1_c0_f0).bind fun t16 =>
 if t16 = true then
 (some (.inr (.inr s))) else
 ((addc s 1).bind fun t18 =>
 some (.inl t18))) else
 (some (.inr (.inl ())))
def m_slices_IndexFunc_intint_5 (s0 : (List Int)) (f1_c0_f0 : Scalps) : Option Int :=
 (iterM FU (m_slices_IndexFunc_intint_5_L0 s0 f1_c0_f0) 0).bind fun o =>
 oc o (fun j => some (-1)) (fun r_1 => some r_1)
theorem c_slices_IndexFunc_intint_5 (s0 : (List Int)) (f1_c0_f0 : Scalps) (qa0 : Option Addr) (na0 ca0 : Nat) (rb : Nat) (qa2 : Option Addr) (na2 ca2 : Nat) (qa3 : Option Addr) (na3 ca3 : Nat) (w : World) (hw : HV w (keys [] []) [] [] [(aB qa0, aO qa0, RI.enc s0), (rb, 0, [.func (.func 67) #[.agg #[.slice qa2 na2 ca2, .slice qa3 na3 ca3]] #[]]), (aB qa2, aO qa2, RSt.enc f1_c0_f0.strips), (aB qa3, aO qa3, RSp.enc f1_c0_f0.carried)] w) (hna0 : s0.length = na0) (hqa0 : AOK na0 qa0) (hla0 : na0 ≤ ca0)  (hna2 : f1_c0_f0.strips.length = na2) (hqa2 : AOK na2 qa2) (hla2 : na2 ≤ ca2) (hna3 : f1_c0_f0.carried.length = na3) (hqa3 : AOK na3 qa3) (hla3 : na3 ≤ ca3) {res : Int} (hm : m_slices_IndexFunc_intint_5 s0 f1_c0_f0 = some res) :
    Calls Tryz.prog 132 #[.slice qa0 na0 ca0, .func (.func 111) #[] #[ptr rb 0]] w (fun en w' => ∃ l : Unit, en = .returned (.int .i64 res) ∧ (True) ∧ HV w (keys [] []) [] [] [] w') := by
  unfold m_slices_IndexFunc_intint_5 at hm
  refine g_en Tryz.func132 rfl Tryz.ntmps132 rfl (e := [(0, _), (1, _)]) rfl hw (g_sr (g_as rfl rfl (g_nt (g_seq (g_sr (g_mv rfl rfl (g_val rfl rfl rfl (fun w _ => v_lenR hna0 (Tryz.runUnderlying26 w) rfl) ?_)))))))
  refine g_mv rfl rfl (g_nt ?_)
  obtain ⟨o, h1, h2⟩ := bindO hm
  refine g_cut (ι := Unit) (fun j => o = .inl j) (fun j => []) (fun j => []) (fun j => []) ?_ ?_
  ·replace hm := h1
   refine g_block ?_
   refine g_loopF (ι := Unit) hm (fun s l => True) (fun s l => [(0, .slice qa0 na0 ca0), (1, .func (.func 111) #[] #[ptr rb 0]), (7, .int .i64 (s0.length : Int)), (8, .int .i64 s)]) (fun s l => []) (fun s l => []) () (trivial) (sE rfl) (fun w hh => hh) (fun s l r hpl hm h3 => ?_)
   unfold m_slices_IndexFunc_intint_5_L0 at hm
   refine g_sr (g_ls rfl rfl rfl (g_nt (g_seq ?_)))
   refine g_cond rfl (fun h4 => ?_) (fun h4 => ?_)
   ·replace hm := ifD h4 hm
    refine g_skip (g_n_then (g_seq (g_block (g_sr (g_mv rfl rfl (g_as rfl rfl (g_nx ?_)))))))
    refine g_mv rfl rfl (g_mv rfl rfl (g_mv rfl rfl ?_))
    obtain ⟨t14, h5, hm⟩ := bindO hm
    refine g_val rfl rfl rfl (fun w _ => v_ixR h5 (Tryz.runUnderlying26 w) (Tryz.sizeOf3 w) rfl rfl hna0 hqa0) (g_val rfl rfl rfl (fun w hh => v_ldE RI 0 h5 (Tryz.isAgg3 w) rfl (hh.seg 0 rfl) rfl (Nat.add_zero _).symm) ?_)
    obtain ⟨t16, h6, hm⟩ := bindO hm
    refine g_callH [] [] rfl rfl rfl rfl rfl rfl rfl Tryz.call111 (fun w hh => c_strip_every_int_1_2 t14 f1_c0_f0 rb qa2 na2 ca2 qa3 na3 ca3 w (HV.callee (S0 := []) (vs0 := []) hh (roR hh 1 rfl (roR hh 2 rfl (roR hh 3 rfl roN)))) hna2 hqa2 hla2 hna3 hqa3 hla3 h6) (fun l_1 h7 => ?_)
    refine g_nt ?_
    refine g_cond rfl (fun h8 => ?_) (fun h8 => ?_)
    ·replace hm := ifT (h8) hm
     refine g_sr (g_mv rfl rfl (g_as rfl rfl (g_nt (g_ret (g_r_blk (g_r_then (g_r_then ?_)))))))
     refine g_r_blk ?_
     obtain rfl := sj hm
     have hbo := h3 _ rfl
     subst hbo
     refine g_r_then ?_
     replace hm := ocR h2
     refine g_r_then ?_
     obtain rfl := sj hm
     refine g_done rfl (fun w hh => (.tmp rfl .nil)) (fun w hh => ⟨(), rfl, trivial, hh.se [] [] 4 rfl rfl rfl rfl⟩)
    ·replace hm := ifN h8 hm
     refine g_skip (g_n_blk (g_n_then (g_region ?_)))
     obtain ⟨t18, h9, hm⟩ := bindO hm
     refine g_ac h9 rfl rfl rfl (g_mv rfl rfl (g_nil ?_))
     obtain rfl := sj hm
     refine g_n_then ?_
     exact g_again' _ () rfl (trivial) (sE rfl) (fun w hh => hh)
   ·replace hm := ifE h4 hm
    refine g_exit (g_x_then (g_x_then (g_x_blk ?_)))
    obtain rfl := sj hm
    have hbo := h3 _ rfl
    subst hbo
    exact g_leaf () (rfl) (.nil) (fun w hh => hh)
  ·intro j hj
   have h10 := hj
   subst h10
   replace hm := ocL h2
   refine g_n_then (g_sr (g_as rfl rfl (g_nt (g_ret ?_))))
   obtain rfl := sj hm
   refine g_done rfl (fun w hh => (.tmp rfl .nil)) (fun w hh => ⟨(), rfl, trivial, hh.se [] [] 4 rfl rfl rfl rfl⟩)
def m_slices_ContainsFunc_intint_5 (s0 : (List Int)) (f1_c0_f0 : Scalps) : Option Bool :=
 (m_slices_IndexFunc_intint_5 s0 f1_c0_f0).bind fun t7 =>
 some (decide (0 ≤ t7))
theorem c_slices_ContainsFunc_intint_5 (s0 : (List Int)) (f1_c0_f0 : Scalps) (qa0 : Option Addr) (na0 ca0 : Nat) (rb : Nat) (qa2 : Option Addr) (na2 ca2 : Nat) (qa3 : Option Addr) (na3 ca3 : Nat) (w : World) (hw : HV w (keys [] []) [] [] [(aB qa0, aO qa0, RI.enc s0), (rb, 0, [.func (.func 67) #[.agg #[.slice qa2 na2 ca2, .slice qa3 na3 ca3]] #[]]), (aB qa2, aO qa2, RSt.enc f1_c0_f0.strips), (aB qa3, aO qa3, RSp.enc f1_c0_f0.carried)] w) (hna0 : s0.length = na0) (hqa0 : AOK na0 qa0) (hla0 : na0 ≤ ca0)  (hna2 : f1_c0_f0.strips.length = na2) (hqa2 : AOK na2 qa2) (hla2 : na2 ≤ ca2) (hna3 : f1_c0_f0.carried.length = na3) (hqa3 : AOK na3 qa3) (hla3 : na3 ≤ ca3) {res : Bool} (hm : m_slices_ContainsFunc_intint_5 s0 f1_c0_f0 = some res) :
    Calls Tryz.prog 110 #[.slice qa0 na0 ca0, .func (.func 111) #[] #[ptr rb 0]] w (fun en w' => ∃ l : Unit, en = .returned (.bool res) ∧ (True) ∧ HV w (keys [] []) [] [] [] w') := by
  unfold m_slices_ContainsFunc_intint_5 at hm
  refine g_en Tryz.func110 rfl Tryz.ntmps110 rfl (e := [(0, _), (1, _)]) rfl hw (g_sr (g_as rfl rfl (g_nx (g_mv rfl rfl (g_mv rfl rfl ?_)))))
  obtain ⟨t7, h1, hm⟩ := bindO hm
  refine g_callH [] [] rfl rfl rfl rfl rfl rfl rfl Tryz.call132 (fun w hh => c_slices_IndexFunc_intint_5 s0 f1_c0_f0 qa0 na0 ca0 rb qa2 na2 ca2 qa3 na3 ca3 w (HV.callee (S0 := []) (vs0 := []) hh (roR hh 0 rfl (roR hh 1 rfl (roR hh 2 rfl (roR hh 3 rfl roN))))) hna0 hqa0 hla0 hna2 hqa2 hla2 hna3 hqa3 hla3 h1) (fun l h2 => ?_)
  refine g_val rfl rfl rfl (fun _ _ => v_geq rfl rfl) (g_as rfl rfl (g_nt (g_ret ?_)))
  obtain rfl := sj hm
  refine g_done rfl (fun w hh => (.tmp rfl .nil)) (fun w hh => ⟨(), rfl, trivial, hh.se [] [] 4 rfl rfl rfl rfl⟩)
def m_strip_every_int_3 (l0 : (List Int)) (holds1_f0 : Scalps) : Option Bool :=
 (m_slices_ContainsFunc_intint_5 l0 holds1_f0).bind fun t7 =>
 some (!t7)
theorem c_strip_every_int_3 (l0 : (List Int)) (holds1_f0 : Scalps) (qa0 : Option Addr) (na0 ca0 : Nat) (qa1 : Option Addr) (na1 ca1 : Nat) (qa2 : Option Addr) (na2 ca2 : Nat) (w : World) (hw : HV w (keys [] []) [] [] [(aB qa0, aO qa0, RI.enc l0), (aB qa1, aO qa1, RSt.enc holds1_f0.strips), (aB qa2, aO qa2, RSp.enc holds1_f0.carried)] w) (hna0 : l0.length = na0) (hqa0 : AOK na0 qa0) (hla0 : na0 ≤ ca0) (hna1 : holds1_f0.strips.length = na1) (hqa1 : AOK na1 qa1) (hla1 : na1 ≤ ca1) (hna2 : holds1_f0.carried.length = na2) (hqa2 : AOK na2 qa2) (hla2 : na2 ≤ ca2) {res : Bool} (hm : m_strip_every_int_3 l0 holds1_f0 = some res) :
    Calls Tryz.prog 63 #[.slice qa0 na0 ca0, .func (.func 67) #[.agg #[.slice qa1 na1 ca1, .slice qa2 na2 ca2]] #[]] w (fun en w' => ∃ l : Unit, en = .returned (.bool res) ∧ (True) ∧ HV w (keys [] []) [] [] [] w') := by
  unfold m_strip_every_int_3 at hm
  refine g_en Tryz.func63 rfl Tryz.ntmps63 rfl (e := [(0, _), (1, _)]) rfl hw (g_sr ?_)
  refine g_boxV rfl rfl (fun b h1 => ?_)
  refine g_as rfl rfl (g_nx (g_mv rfl rfl (g_val rfl rfl rfl (fun _ _ => v_makeFunc (u := #[]) (u' := #[_]) rfl rfl) ?_)))
  obtain ⟨t7, h2, hm⟩ := bindO hm
  refine g_callH [] [] rfl rfl rfl rfl rfl rfl rfl Tryz.call110 (fun w hh => c_slices_ContainsFunc_intint_5 l0 holds1_f0 qa0 na0 ca0 b qa1 na1 ca1 qa2 na2 ca2 w (HV.callee (S0 := []) (vs0 := []) hh (roR hh 0 rfl (roC (bsep (hh.bseg 0 rfl)) (roR hh 1 rfl (roR hh 2 rfl roN))))) hna0 hqa0 hla0 hna1 hqa1 hla1 hna2 hqa2 hla2 h2) (fun l h3 => ?_)
  refine g_val rfl rfl rfl (fun _ _ => v_not rfl) (g_as rfl rfl (g_nt (g_ret ?_)))
  obtain rfl := sj hm
  refine g_done rfl (fun w hh => (.tmp rfl .nil)) (fun w hh => ⟨(), rfl, trivial, hh.se [] [] 3 rfl rfl rfl rfl⟩)
structure m_strip_Shows_R where
  r0 : Int
  r1 : Int
def m_strip_Shows (s0 : Scalps) (l1 : Lack) : Option m_strip_Shows_R :=
 (m_strip_opened s0).bind fun t11 =>
 oc t11 (fun t11a => if l1.tenants = true then
 (some (⟨0, t11a⟩ : m_strip_Shows_R)) else
 (some (⟨0, t11a⟩ : m_strip_Shows_R))) (fun t11b => if l1.tenants = true then
 ((m_strip_every_int_2 l1.of_ s0).bind fun t28 =>
 if (!t28) = true then
 (some (⟨0, 1⟩ : m_strip_Shows_R)) else
 ((if (l1.of_.length : Int) = 0 then
 (some true) else
 ((m_slices_IsSorted_intint l1.of_).bind fun t38 =>
 if (!t38) = true then
 (some true) else
 ((m_slices_Clone_intint l1.of_).bind fun t44 =>
 (x_slices_Compact t44).bind fun t45 =>
 some (decide ((t45.length : Int) < (l1.of_.length : Int)))))).bind fun o =>
 if o = true then
 (some (⟨0, 4⟩ : m_strip_Shows_R)) else
 ((m_strip_desk_lacking_2 s0.strips s0.carried t11b l1).bind fun t55 =>
 if t55 < 1 then
 (some (⟨0, 8⟩ : m_strip_Shows_R)) else
 ((m_strip_desk_lacking_2 s0.strips s0.carried t11b l1).bind fun t59 =>
 some (⟨t59, 0⟩ : m_strip_Shows_R))))) else
 ((m_strip_every_int_3 l1.of_ s0).bind fun t28_1 =>
 if (!t28_1) = true then
 (some (⟨0, 1⟩ : m_strip_Shows_R)) else
 ((if (l1.of_.length : Int) = 0 then
 (some true) else
 ((m_slices_IsSorted_intint l1.of_).bind fun t38_1 =>
 if (!t38_1) = true then
 (some true) else
 ((m_slices_Clone_intint l1.of_).bind fun t44_1 =>
 (x_slices_Compact t44_1).bind fun t45_1 =>
 some (decide ((t45_1.length : Int) < (l1.of_.length : Int)))))).bind fun o_1 =>
 if o_1 = true then
 (some (⟨0, 4⟩ : m_strip_Shows_R)) else
 ((m_strip_desk_lacking_2 s0.strips s0.carried t11b l1).bind fun t55_1 =>
 if t55_1 < 1 then
 (some (⟨0, 8⟩ : m_strip_Shows_R)) else
 ((m_strip_desk_lacking_2 s0.strips s0.carried t11b l1).bind fun t59_1 =>
 some (⟨t59_1, 0⟩ : m_strip_Shows_R))))))
theorem c_strip_Shows (s0 : Scalps) (l1 : Lack) (qa0 : Option Addr) (na0 ca0 : Nat) (qa1 : Option Addr) (na1 ca1 : Nat) (qa2 : Option Addr) (na2 ca2 : Nat) (w : World) (hw : HV w (keys [] []) [] [] [(aB qa0, aO qa0, RSt.enc s0.strips), (aB qa1, aO qa1, RSp.enc s0.carried), (aB qa2, aO qa2, RI.enc l1.of_)] w) (hna0 : s0.strips.length = na0) (hqa0 : AOK na0 qa0) (hla0 : na0 ≤ ca0) (hna1 : s0.carried.length = na1) (hqa1 : AOK na1 qa1) (hla1 : na1 ≤ ca1) (hna2 : l1.of_.length = na2) (hqa2 : AOK na2 qa2) (hla2 : na2 ≤ ca2) {res : m_strip_Shows_R} (hm : m_strip_Shows s0 l1 = some res) :
    Calls Tryz.prog 19 #[.agg #[.slice qa0 na0 ca0, .slice qa1 na1 ca1], .agg #[.bool l1.tenants, .slice qa2 na2 ca2]] w (fun en w' => ∃ l : Unit, en = .returned (.tuple #[.int .i64 res.r0, .int .i64 res.r1]) ∧ (True) ∧ HV w (keys [] []) [] [] [] w') := by
  unfold m_strip_Shows at hm
  refine g_en Tryz.func19 rfl Tryz.ntmps19 rfl (e := [(0, _), (1, _)]) rfl hw (g_sr ?_)
  refine g_boxV rfl rfl (fun b h1 => ?_)
  refine g_boxV rfl rfl (fun b_1 h2 => ?_)
  refine g_as rfl rfl (g_as rfl rfl (g_nx (g_la [_, _] 1 Tryz.isAgg25 Tryz.sizeOf25 rfl rfl rfl rfl ?_)))
  obtain ⟨t11, h3, hm⟩ := bindO hm
  rcases t11 with t11a | t11b
  ·replace hm := ocL hm
   refine g_callH [] [] rfl rfl rfl rfl rfl rfl rfl Tryz.call57 (fun w hh => c_strip_opened s0 qa0 na0 ca0 qa1 na1 ca1 w (HV.callee (S0 := []) (vs0 := []) hh (roR hh 0 rfl (roR hh 1 rfl roN))) hna0 hqa0 hla0 hna1 hqa1 hla1 h3) (fun l h4 => ?_)
   have h5 := h4
   refine g_mv rfl rfl (g_xt rfl rfl rfl (g_xt rfl rfl rfl (g_as rfl rfl (g_as rfl rfl (g_nx (g_la [_, _] 1 Tryz.isAgg25 Tryz.sizeOf25 rfl rfl rfl rfl (g_val rfl rfl rfl (fun _ _ => v_makeFunc (u := #[_]) (u' := #[]) rfl rfl) ?_)))))))
   refine g_as rfl rfl (g_nt (g_seq (g_sr (g_fa 0 Tryz.runUnderlying30 rfl Tryz.sizeOf4 rfl rfl (g_lc 0 Tryz.isAgg4 rfl rfl rfl rfl (g_nt ?_))))))
   refine g_cond rfl (fun h6 => ?_) (fun h6 => ?_)
   ·replace hm := ifT (h6) hm
    refine g_region (g_la [_, _] 1 Tryz.isAgg25 Tryz.sizeOf25 rfl rfl rfl rfl (g_val rfl rfl rfl (fun _ _ => v_makeFunc (u := #[_]) (u' := #[]) rfl rfl) (g_as rfl rfl (g_nt (g_seq (g_block (g_sr ?_)))))))
    refine g_mv rfl rfl (g_val rfl rfl rfl (fun _ _ => v_neqT h5 rfl rfl) (g_as rfl rfl (g_nt (g_condT rfl rfl (g_sr (g_mv rfl rfl (g_as rfl rfl ?_)))))))
    refine g_as rfl rfl (g_nt (g_ret (g_r_blk (g_r_then ?_))))
    obtain rfl := sj hm
    refine g_done rfl (fun w hh => (.tmp rfl (.tmp rfl .nil))) (fun w hh => ⟨(), rfl, trivial, hh.se [] [] 3 rfl rfl rfl rfl⟩)
   ·replace hm := ifN h6 hm
    refine g_skip (g_n_then (g_seq (g_block (g_sr (g_mv rfl rfl (g_val rfl rfl rfl (fun _ _ => v_neqT h5 rfl rfl) (g_as rfl rfl ?_)))))))
    refine g_nt (g_condT rfl rfl (g_sr (g_mv rfl rfl (g_as rfl rfl (g_as rfl rfl (g_nt (g_ret ?_)))))))
    refine g_r_blk (g_r_then ?_)
    obtain rfl := sj hm
    refine g_done rfl (fun w hh => (.tmp rfl (.tmp rfl .nil))) (fun w hh => ⟨(), rfl, trivial, hh.se [] [] 3 rfl rfl rfl rfl⟩)
  ·replace hm := ocR hm
   refine g_callH [] [] rfl rfl rfl rfl rfl rfl rfl Tryz.call57 (fun w hh => c_strip_opened s0 qa0 na0 ca0 qa1 na1 ca1 w (HV.callee (S0 := []) (vs0 := []) hh (roR hh 0 rfl (roR hh 1 rfl roN))) hna0 hqa0 hla0 hna1 hqa1 hla1 h3) (fun l_1 h7 => ?_)
   refine g_se (S' := [_, _, _, _]) (vs' := []) [0, 1, 2, 3] [] 0 rfl rfl rfl rfl (g_mv rfl rfl (g_xt rfl rfl rfl (g_xt rfl rfl rfl (g_as rfl rfl (g_as rfl rfl (g_nx (g_la [_, _] 3 Tryz.isAgg25 Tryz.sizeOf25 rfl rfl rfl rfl ?_)))))))
   refine g_val rfl rfl rfl (fun _ _ => v_makeFunc (u := #[_]) (u' := #[]) rfl rfl) (g_as rfl rfl (g_nt (g_seq (g_sr (g_fa 0 Tryz.runUnderlying30 rfl Tryz.sizeOf4 rfl rfl (g_lc 2 Tryz.isAgg4 rfl rfl rfl rfl (g_nt ?_)))))))
   refine g_cond rfl (fun h8 => ?_) (fun h8 => ?_)
   ·replace hm := ifT (h8) hm
    refine g_region (g_la [_, _] 3 Tryz.isAgg25 Tryz.sizeOf25 rfl rfl rfl rfl (g_val rfl rfl rfl (fun _ _ => v_makeFunc (u := #[_]) (u' := #[]) rfl rfl) (g_as rfl rfl (g_nt (g_seq (g_block (g_sr ?_)))))))
    refine g_mv rfl rfl (g_val rfl rfl rfl (fun _ _ => v_neq rfl rfl) (g_as rfl rfl (g_nt (g_condF rfl rfl (g_sr (g_fa 1 Tryz.runUnderlying30 rfl Tryz.sizeOf26 rfl rfl (g_lc 2 Tryz.isAgg26 rfl rfl rfl rfl ?_)))))))
    refine g_mv rfl rfl ?_
    obtain ⟨t28, h9, hm⟩ := bindO hm
    refine g_callH [] [] rfl rfl rfl rfl rfl rfl rfl Tryz.call63 (fun w hh => c_strip_every_int_2 l1.of_ s0 qa2 na2 ca2 qa0 na0 ca0 qa1 na1 ca1 w (HV.callee (S0 := []) (vs0 := []) hh (roR hh 2 rfl (roR hh 0 rfl (roR hh 1 rfl roN)))) hna2 hqa2 hla2 hna0 hqa0 hla0 hna1 hqa1 hla1 h9) (fun l_2 h10 => ?_)
    refine g_val rfl rfl rfl (fun _ _ => v_not rfl) (g_as rfl rfl (g_nt ?_))
    refine g_cond rfl (fun h11 => ?_) (fun h11 => ?_)
    ·replace hm := ifT (h11) hm
     refine g_sr (g_as rfl rfl (g_as rfl rfl (g_nt (g_ret (g_r_blk (g_r_then ?_))))))
     obtain rfl := sj hm
     refine g_done rfl (fun w hh => (.tmp rfl (.tmp rfl .nil))) (fun w hh => ⟨(), rfl, trivial, hh.se [] [] 3 rfl rfl rfl rfl⟩)
    ·replace hm := ifN h11 hm
     refine g_seq ?_
     obtain ⟨o, h12, h13⟩ := bindO hm
     refine g_cut (ι := Unit) (fun l_3 => True) (fun l_3 => [(3, ptr b_1 0), (6, ptr l_1.1 0), (30, .bool o)]) (fun l_3 => [(l_1.1, .cells #[.slice qa0 na0 ca0, .slice qa1 na1 ca1, .map (some l_1.2)] 144 (0, 0)), (l_1.2, gobj (kR RPr) kB t11b), (b_1, .cells #[.bool l1.tenants, .slice qa2 na2 ca2] 30 (0, 0)), (b, .cells #[.slice qa0 na0 ca0, .slice qa1 na1 ca1] 25 (0, 0))]) (fun l_3 => []) ?_ ?_
     ·replace hm := h12
      refine g_draw none (.free 0 (.hoist 1 (.free 2 (.free 3 (.free 4 (.free 5 (.hoist 6 (.one 7 (.free 8 (.free 9 (.free 10 (.free 11 (.hoist 12 (.free 16 (.hoist 17 (.free 18 (.one 13 (.one 14 (.free 15 (.free 19 (.free 20 (.free 21 .done)))))))))))))))))))))) _ rfl (by decide +kernel) (fun w k hh => hh.draw k) (fun w hh => hh) ?_
      refine p_fa 1 Tryz.runUnderlying30 Tryz.sizeOf26 rfl rfl rfl rfl (p_lc 2 Tryz.isAgg26 rfl rfl rfl rfl rfl (p_free rfl rfl rfl rfl (fun w _ => v_lenR hna2 (Tryz.runUnderlying26 w) rfl) (p_free rfl rfl rfl rfl (fun _ _ => v_eql rfl rfl) (p_mv rfl rfl rfl ?_))))
      refine g_case 35 rfl (fun h14 => ?_) (fun h14 => ?_)
      ·replace hm := ifD h14 hm
       refine p_skipF rfl rfl rfl rfl rfl rfl rfl (p_skip rfl rfl rfl rfl rfl rfl rfl (p_one rfl (g_k rfl rfl rfl rfl (p_next (fun w hh => hh) (p_skipF rfl rfl rfl rfl rfl rfl rfl (p_free rfl rfl rfl rfl (fun _ _ => v_pickT rfl rfl) (p_mv rfl rfl rfl ?_)))))))
       refine p_skipF rfl rfl rfl rfl rfl rfl rfl (p_skip rfl rfl rfl rfl rfl rfl rfl (p_skipF rfl rfl rfl rfl rfl rfl rfl (p_skip rfl rfl rfl rfl rfl rfl rfl (p_skipF rfl rfl rfl rfl rfl rfl rfl (p_one rfl (g_k rfl rfl rfl rfl (p_next (fun w hh => hh) ?_)))))))
       refine p_one rfl (g_k rfl rfl rfl rfl (p_next (fun w hh => hh) (p_skipF rfl rfl rfl rfl rfl rfl rfl (p_skipF rfl rfl rfl rfl rfl rfl rfl (p_free rfl rfl rfl rfl (fun _ _ => v_pickT rfl rfl) (p_free rfl rfl rfl rfl (fun _ _ => v_assign rfl) (p_done ?_)))))))
       obtain rfl := sj hm
       exact g_leaf () (trivial) (sE rfl) (fun w hh => hh)
      ·replace hm := ifE h14 hm
       refine p_freeG rfl rfl rfl rfl rfl rfl (fun w _ => v_fieldAddr 1 (Tryz.runUnderlying30 w) rfl (Tryz.sizeOf26 w) rfl) (p_hoistG rfl rfl rfl rfl rfl rfl (fun w hh => v_load (Tryz.isAgg26 w) rfl (hh.cell 2 rfl rfl)) (p_one rfl (v_unguard rfl rfl ?_)))
       obtain ⟨t38, h15, hm⟩ := bindO hm
       refine g_callH [] [] rfl rfl rfl rfl rfl rfl rfl Tryz.call69 (fun w hh => c_slices_IsSorted_intint l1.of_ qa2 na2 ca2 w (HV.callee (S0 := []) (vs0 := []) hh (roR hh 2 rfl roN)) hna2 hqa2 hla2 h15) (fun l_4 h16 => ?_)
       refine p_next (fun w hh => hh) (p_freeG rfl rfl rfl rfl rfl rfl (fun _ _ => v_not rfl) (p_free rfl rfl rfl rfl (fun _ _ => v_pickF rfl rfl) (p_mv rfl rfl rfl ?_)))
       refine g_case 41 rfl (fun h17 => ?_) (fun h17 => ?_)
       ·replace hm := ifT (h17) hm
        refine p_skipF rfl rfl rfl rfl rfl rfl rfl (p_skip rfl rfl rfl rfl rfl rfl rfl (p_skipF rfl rfl rfl rfl rfl rfl rfl (p_skip rfl rfl rfl rfl rfl rfl rfl (p_skipF rfl rfl rfl rfl rfl rfl rfl (p_one rfl (g_k rfl rfl rfl rfl (p_next (fun w hh => hh) ?_)))))))
        refine p_one rfl (g_k rfl rfl rfl rfl (p_next (fun w hh => hh) (p_skipF rfl rfl rfl rfl rfl rfl rfl (p_skipF rfl rfl rfl rfl rfl rfl rfl (p_free rfl rfl rfl rfl (fun _ _ => v_pickT rfl rfl) (p_free rfl rfl rfl rfl (fun _ _ => v_assign rfl) (p_done ?_)))))))
        obtain rfl := sj hm
        exact g_leaf () (trivial) (sE rfl) (fun w hh => hh)
       ·replace hm := ifN h17 hm
        refine p_freeG rfl rfl rfl rfl rfl rfl (fun w _ => v_fieldAddr 1 (Tryz.runUnderlying30 w) rfl (Tryz.sizeOf26 w) rfl) (p_hoistG rfl rfl rfl rfl rfl rfl (fun w hh => v_load (Tryz.isAgg26 w) rfl (hh.cell 2 rfl rfl)) (p_freeG rfl rfl rfl rfl rfl rfl (fun w _ => v_fieldAddr 1 (Tryz.runUnderlying30 w) rfl (Tryz.sizeOf26 w) rfl) (p_hoistG rfl rfl rfl rfl rfl rfl (fun w hh => v_load (Tryz.isAgg26 w) rfl (hh.cell 2 rfl rfl)) (p_freeG rfl rfl rfl rfl rfl rfl (fun w _ => v_lenR hna2 (Tryz.runUnderlying26 w) rfl) (p_one rfl (v_unguard rfl rfl ?_))))))
        obtain ⟨t44, h18, hm⟩ := bindO hm
        refine g_callH [] [] rfl rfl rfl rfl rfl rfl rfl Tryz.call71 (fun w hh => c_slices_Clone_intint l1.of_ qa2 na2 ca2 w (HV.callee (S0 := []) (vs0 := []) hh (roR hh 2 rfl roN)) hna2 hqa2 hla2 h18) (fun l_5 h19 => ?_)
        have h20 := h19
        refine g_se (S' := [_, _, _, _]) (vs' := [_]) [0, 1, 2, 3] [0] 0 rfl rfl rfl rfl (p_next (hsE [0, 1, 2, 3] [] 0 rfl rfl rfl rfl) (p_one rfl (v_unguard rfl rfl ?_)))
        obtain ⟨t45, h21, hm⟩ := bindO hm
        refine g_callH [] [_] rfl rfl rfl rfl rfl rfl rfl Tryz.call70 (fun w hh => cx_slices_Compact t44 ⟨l_5.q, l_5.n, l_5.cap, l_5.sp⟩ w (HV.callee (S0 := []) (vs0 := [_]) hh roN) h20 h21) (fun l_6 h22 => ?_)
        have h23 := h22
        refine g_se (S' := [_, _, _, _]) (vs' := [_]) [0, 1, 2, 3] [0] 0 rfl rfl rfl rfl (p_next (hsE [0, 1, 2, 3] [] 0 rfl rfl rfl rfl) (p_freeG rfl rfl rfl rfl rfl rfl (fun w _ => v_lenN (vlen RI h23 rfl) (Tryz.runUnderlying26 w) rfl) (p_freeG rfl rfl rfl rfl rfl rfl (fun _ _ => v_lss rfl rfl) (p_free rfl rfl rfl rfl (fun _ _ => v_pickF rfl rfl) (p_free rfl rfl rfl rfl (fun _ _ => v_assign rfl) (p_done ?_))))))
        obtain rfl := sj hm
        exact g_leaf () (trivial) (sE rfl) (hsE [0, 1, 2, 3] [] 0 rfl rfl rfl rfl)
     ·intro l_3 hj
      replace hm := h13
      refine g_n_then ?_
      refine g_cond rfl (fun h24 => ?_) (fun h24 => ?_)
      ·replace hm := ifT (h24) hm
       refine g_sr (g_as rfl rfl (g_as rfl rfl (g_nt (g_ret (g_r_blk (g_r_then ?_))))))
       obtain rfl := sj hm
       refine g_done rfl (fun w hh => (.tmp rfl (.tmp rfl .nil))) (fun w hh => ⟨(), rfl, trivial, hh.se [] [] 3 rfl rfl rfl rfl⟩)
      ·replace hm := ifN h24 hm
       refine g_sr (g_mv rfl rfl (g_la [_, _] 2 Tryz.isAgg30 Tryz.sizeOf30 rfl rfl rfl rfl ?_))
       obtain ⟨t55, h25, hm⟩ := bindO hm
       refine g_se (S' := [_, _, _, _]) (vs' := []) [1, 0, 2, 3] [] 0 rfl rfl rfl rfl ?_
       refine g_callH [_] [] rfl rfl rfl rfl rfl rfl rfl Tryz.call72 (fun w hh => c_strip_desk_lacking_2 s0.strips s0.carried t11b l1 l_1.1 qa0 na0 ca0 qa1 na1 ca1 l_1.2 qa2 na2 ca2 w (HV.callee (S0 := [_]) (vs0 := []) hh (roC (hh.bsepH 0 rfl) (roR hh 0 rfl (roR hh 1 rfl (roR hh 2 rfl roN))))) hna0 hqa0 hla0 hna1 hqa1 hla1 hna2 hqa2 hla2 h25) (fun l_7 h26 => ?_)
       refine g_se (S' := [_, _, _, _]) (vs' := []) [0, 1, 2, 3] [] 0 rfl rfl rfl rfl (g_ls rfl rfl rfl (g_as rfl rfl (g_nt ?_)))
       refine g_cond rfl (fun h27 => ?_) (fun h27 => ?_)
       ·replace hm := ifD h27 hm
        refine g_sr (g_as rfl rfl (g_as rfl rfl (g_nt (g_ret (g_r_blk (g_r_then ?_))))))
        obtain rfl := sj hm
        refine g_done rfl (fun w hh => (.tmp rfl (.tmp rfl .nil))) (fun w hh => ⟨(), rfl, trivial, hh.se [] [] 3 rfl rfl rfl rfl⟩)
       ·replace hm := ifE h27 hm
        refine g_skip (g_n_blk (g_n_then (g_sr (g_mv rfl rfl (g_la [_, _] 2 Tryz.isAgg30 Tryz.sizeOf30 rfl rfl rfl rfl ?_)))))
        obtain ⟨t59, h28, hm⟩ := bindO hm
        refine g_callH [_] [] rfl rfl rfl rfl rfl rfl rfl Tryz.call72 (fun w hh => c_strip_desk_lacking_2 s0.strips s0.carried t11b l1 l_1.1 qa0 na0 ca0 qa1 na1 ca1 l_1.2 qa2 na2 ca2 w (HV.callee (S0 := [_]) (vs0 := []) hh (roC (hh.bsepH 0 rfl) (roR hh 0 rfl (roR hh 1 rfl (roR hh 2 rfl roN))))) hna0 hqa0 hla0 hna1 hqa1 hla1 hna2 hqa2 hla2 h28) (fun l_8 h29 => ?_)
        refine g_se (S' := [_, _, _, _]) (vs' := []) [0, 1, 2, 3] [] 0 rfl rfl rfl rfl (g_as rfl rfl (g_as rfl rfl (g_nt (g_ret ?_))))
        obtain rfl := sj hm
        refine g_done rfl (fun w hh => (.tmp rfl (.tmp rfl .nil))) (fun w hh => ⟨(), rfl, trivial, hh.se [] [] 3 rfl rfl rfl rfl⟩)
   ·replace hm := ifN h8 hm
    refine g_skip (g_n_then (g_seq (g_block (g_sr (g_mv rfl rfl (g_val rfl rfl rfl (fun _ _ => v_neq rfl rfl) (g_as rfl rfl ?_)))))))
    refine g_nt (g_condF rfl rfl (g_sr (g_fa 1 Tryz.runUnderlying30 rfl Tryz.sizeOf26 rfl rfl (g_lc 2 Tryz.isAgg26 rfl rfl rfl rfl (g_mv rfl rfl ?_)))))
    obtain ⟨t28_1, h30, hm⟩ := bindO hm
    refine g_callH [] [] rfl rfl rfl rfl rfl rfl rfl Tryz.call63 (fun w hh => c_strip_every_int_3 l1.of_ s0 qa2 na2 ca2 qa0 na0 ca0 qa1 na1 ca1 w (HV.callee (S0 := []) (vs0 := []) hh (roR hh 2 rfl (roR hh 0 rfl (roR hh 1 rfl roN)))) hna2 hqa2 hla2 hna0 hqa0 hla0 hna1 hqa1 hla1 h30) (fun l_9 h31 => ?_)
    refine g_val rfl rfl rfl (fun _ _ => v_not rfl) (g_as rfl rfl (g_nt ?_))
    refine g_cond rfl (fun h32 => ?_) (fun h32 => ?_)
    ·replace hm := ifT (h32) hm
     refine g_sr (g_as rfl rfl (g_as rfl rfl (g_nt (g_ret (g_r_blk (g_r_then ?_))))))
     obtain rfl := sj hm
     refine g_done rfl (fun w hh => (.tmp rfl (.tmp rfl .nil))) (fun w hh => ⟨(), rfl, trivial, hh.se [] [] 3 rfl rfl rfl rfl⟩)
    ·replace hm := ifN h32 hm
     refine g_seq ?_
     obtain ⟨o_1, h33, h34⟩ := bindO hm
     refine g_cut (ι := Unit) (fun l_10 => True) (fun l_10 => [(3, ptr b_1 0), (6, ptr l_1.1 0), (30, .bool o_1)]) (fun l_10 => [(l_1.1, .cells #[.slice qa0 na0 ca0, .slice qa1 na1 ca1, .map (some l_1.2)] 144 (0, 0)), (l_1.2, gobj (kR RPr) kB t11b), (b_1, .cells #[.bool l1.tenants, .slice qa2 na2 ca2] 30 (0, 0)), (b, .cells #[.slice qa0 na0 ca0, .slice qa1 na1 ca1] 25 (0, 0))]) (fun l_10 => []) ?_ ?_
     ·replace hm := h33
      refine g_draw none (.free 0 (.hoist 1 (.free 2 (.free 3 (.free 4 (.free 5 (.hoist 6 (.one 7 (.free 8 (.free 9 (.free 10 (.free 11 (.hoist 12 (.free 16 (.hoist 17 (.free 18 (.one 13 (.one 14 (.free 15 (.free 19 (.free 20 (.free 21 .done)))))))))))))))))))))) _ rfl (by decide +kernel) (fun w k hh => hh.draw k) (fun w hh => hh) ?_
      refine p_fa 1 Tryz.runUnderlying30 Tryz.sizeOf26 rfl rfl rfl rfl (p_lc 2 Tryz.isAgg26 rfl rfl rfl rfl rfl (p_free rfl rfl rfl rfl (fun w _ => v_lenR hna2 (Tryz.runUnderlying26 w) rfl) (p_free rfl rfl rfl rfl (fun _ _ => v_eql rfl rfl) (p_mv rfl rfl rfl ?_))))
      refine g_case 35 rfl (fun h35 => ?_) (fun h35 => ?_)
      ·replace hm := ifD h35 hm
       refine p_skipF rfl rfl rfl rfl rfl rfl rfl (p_skip rfl rfl rfl rfl rfl rfl rfl (p_one rfl (g_k rfl rfl rfl rfl (p_next (fun w hh => hh) (p_skipF rfl rfl rfl rfl rfl rfl rfl (p_free rfl rfl rfl rfl (fun _ _ => v_pickT rfl rfl) (p_mv rfl rfl rfl ?_)))))))
       refine p_skipF rfl rfl rfl rfl rfl rfl rfl (p_skip rfl rfl rfl rfl rfl rfl rfl (p_skipF rfl rfl rfl rfl rfl rfl rfl (p_skip rfl rfl rfl rfl rfl rfl rfl (p_skipF rfl rfl rfl rfl rfl rfl rfl (p_one rfl (g_k rfl rfl rfl rfl (p_next (fun w hh => hh) ?_)))))))
       refine p_one rfl (g_k rfl rfl rfl rfl (p_next (fun w hh => hh) (p_skipF rfl rfl rfl rfl rfl rfl rfl (p_skipF rfl rfl rfl rfl rfl rfl rfl (p_free rfl rfl rfl rfl (fun _ _ => v_pickT rfl rfl) (p_free rfl rfl rfl rfl (fun _ _ => v_assign rfl) (p_done ?_)))))))
       obtain rfl := sj hm
       exact g_leaf () (trivial) (sE rfl) (fun w hh => hh)
      ·replace hm := ifE h35 hm
       refine p_freeG rfl rfl rfl rfl rfl rfl (fun w _ => v_fieldAddr 1 (Tryz.runUnderlying30 w) rfl (Tryz.sizeOf26 w) rfl) (p_hoistG rfl rfl rfl rfl rfl rfl (fun w hh => v_load (Tryz.isAgg26 w) rfl (hh.cell 2 rfl rfl)) (p_one rfl (v_unguard rfl rfl ?_)))
       obtain ⟨t38_1, h36, hm⟩ := bindO hm
       refine g_callH [] [] rfl rfl rfl rfl rfl rfl rfl Tryz.call69 (fun w hh => c_slices_IsSorted_intint l1.of_ qa2 na2 ca2 w (HV.callee (S0 := []) (vs0 := []) hh (roR hh 2 rfl roN)) hna2 hqa2 hla2 h36) (fun l_11 h37 => ?_)
       refine p_next (fun w hh => hh) (p_freeG rfl rfl rfl rfl rfl rfl (fun _ _ => v_not rfl) (p_free rfl rfl rfl rfl (fun _ _ => v_pickF rfl rfl) (p_mv rfl rfl rfl ?_)))
       refine g_case 41 rfl (fun h38 => ?_) (fun h38 => ?_)
       ·replace hm := ifT (h38) hm
        refine p_skipF rfl rfl rfl rfl rfl rfl rfl (p_skip rfl rfl rfl rfl rfl rfl rfl (p_skipF rfl rfl rfl rfl rfl rfl rfl (p_skip rfl rfl rfl rfl rfl rfl rfl (p_skipF rfl rfl rfl rfl rfl rfl rfl (p_one rfl (g_k rfl rfl rfl rfl (p_next (fun w hh => hh) ?_)))))))
        refine p_one rfl (g_k rfl rfl rfl rfl (p_next (fun w hh => hh) (p_skipF rfl rfl rfl rfl rfl rfl rfl (p_skipF rfl rfl rfl rfl rfl rfl rfl (p_free rfl rfl rfl rfl (fun _ _ => v_pickT rfl rfl) (p_free rfl rfl rfl rfl (fun _ _ => v_assign rfl) (p_done ?_)))))))
        obtain rfl := sj hm
        exact g_leaf () (trivial) (sE rfl) (fun w hh => hh)
       ·replace hm := ifN h38 hm
        refine p_freeG rfl rfl rfl rfl rfl rfl (fun w _ => v_fieldAddr 1 (Tryz.runUnderlying30 w) rfl (Tryz.sizeOf26 w) rfl) (p_hoistG rfl rfl rfl rfl rfl rfl (fun w hh => v_load (Tryz.isAgg26 w) rfl (hh.cell 2 rfl rfl)) (p_freeG rfl rfl rfl rfl rfl rfl (fun w _ => v_fieldAddr 1 (Tryz.runUnderlying30 w) rfl (Tryz.sizeOf26 w) rfl) (p_hoistG rfl rfl rfl rfl rfl rfl (fun w hh => v_load (Tryz.isAgg26 w) rfl (hh.cell 2 rfl rfl)) (p_freeG rfl rfl rfl rfl rfl rfl (fun w _ => v_lenR hna2 (Tryz.runUnderlying26 w) rfl) (p_one rfl (v_unguard rfl rfl ?_))))))
        obtain ⟨t44_1, h39, hm⟩ := bindO hm
        refine g_callH [] [] rfl rfl rfl rfl rfl rfl rfl Tryz.call71 (fun w hh => c_slices_Clone_intint l1.of_ qa2 na2 ca2 w (HV.callee (S0 := []) (vs0 := []) hh (roR hh 2 rfl roN)) hna2 hqa2 hla2 h39) (fun l_12 h40 => ?_)
        have h41 := h40
        refine g_se (S' := [_, _, _, _]) (vs' := [_]) [0, 1, 2, 3] [0] 0 rfl rfl rfl rfl (p_next (hsE [0, 1, 2, 3] [] 0 rfl rfl rfl rfl) (p_one rfl (v_unguard rfl rfl ?_)))
        obtain ⟨t45_1, h42, hm⟩ := bindO hm
        refine g_callH [] [_] rfl rfl rfl rfl rfl rfl rfl Tryz.call70 (fun w hh => cx_slices_Compact t44_1 ⟨l_12.q, l_12.n, l_12.cap, l_12.sp⟩ w (HV.callee (S0 := []) (vs0 := [_]) hh roN) h41 h42) (fun l_13 h43 => ?_)
        have h44 := h43
        refine g_se (S' := [_, _, _, _]) (vs' := [_]) [0, 1, 2, 3] [0] 0 rfl rfl rfl rfl (p_next (hsE [0, 1, 2, 3] [] 0 rfl rfl rfl rfl) (p_freeG rfl rfl rfl rfl rfl rfl (fun w _ => v_lenN (vlen RI h44 rfl) (Tryz.runUnderlying26 w) rfl) (p_freeG rfl rfl rfl rfl rfl rfl (fun _ _ => v_lss rfl rfl) (p_free rfl rfl rfl rfl (fun _ _ => v_pickF rfl rfl) (p_free rfl rfl rfl rfl (fun _ _ => v_assign rfl) (p_done ?_))))))
        obtain rfl := sj hm
        exact g_leaf () (trivial) (sE rfl) (hsE [0, 1, 2, 3] [] 0 rfl rfl rfl rfl)
     ·intro l_10 hj
      replace hm := h34
      refine g_n_then ?_
      refine g_cond rfl (fun h45 => ?_) (fun h45 => ?_)
      ·replace hm := ifT (h45) hm
       refine g_sr (g_as rfl rfl (g_as rfl rfl (g_nt (g_ret (g_r_blk (g_r_then ?_))))))
       obtain rfl := sj hm
       refine g_done rfl (fun w hh => (.tmp rfl (.tmp rfl .nil))) (fun w hh => ⟨(), rfl, trivial, hh.se [] [] 3 rfl rfl rfl rfl⟩)
      ·replace hm := ifN h45 hm
       refine g_sr (g_mv rfl rfl (g_la [_, _] 2 Tryz.isAgg30 Tryz.sizeOf30 rfl rfl rfl rfl ?_))
       obtain ⟨t55_1, h46, hm⟩ := bindO hm
       refine g_se (S' := [_, _, _, _]) (vs' := []) [1, 0, 2, 3] [] 0 rfl rfl rfl rfl ?_
       refine g_callH [_] [] rfl rfl rfl rfl rfl rfl rfl Tryz.call72 (fun w hh => c_strip_desk_lacking_2 s0.strips s0.carried t11b l1 l_1.1 qa0 na0 ca0 qa1 na1 ca1 l_1.2 qa2 na2 ca2 w (HV.callee (S0 := [_]) (vs0 := []) hh (roC (hh.bsepH 0 rfl) (roR hh 0 rfl (roR hh 1 rfl (roR hh 2 rfl roN))))) hna0 hqa0 hla0 hna1 hqa1 hla1 hna2 hqa2 hla2 h46) (fun l_14 h47 => ?_)
       refine g_se (S' := [_, _, _, _]) (vs' := []) [0, 1, 2, 3] [] 0 rfl rfl rfl rfl (g_ls rfl rfl rfl (g_as rfl rfl (g_nt ?_)))
       refine g_cond rfl (fun h48 => ?_) (fun h48 => ?_)
       ·replace hm := ifD h48 hm
        refine g_sr (g_as rfl rfl (g_as rfl rfl (g_nt (g_ret (g_r_blk (g_r_then ?_))))))
        obtain rfl := sj hm
        refine g_done rfl (fun w hh => (.tmp rfl (.tmp rfl .nil))) (fun w hh => ⟨(), rfl, trivial, hh.se [] [] 3 rfl rfl rfl rfl⟩)
       ·replace hm := ifE h48 hm
        refine g_skip (g_n_blk (g_n_then (g_sr (g_mv rfl rfl (g_la [_, _] 2 Tryz.isAgg30 Tryz.sizeOf30 rfl rfl rfl rfl ?_)))))
        obtain ⟨t59_1, h49, hm⟩ := bindO hm
        refine g_callH [_] [] rfl rfl rfl rfl rfl rfl rfl Tryz.call72 (fun w hh => c_strip_desk_lacking_2 s0.strips s0.carried t11b l1 l_1.1 qa0 na0 ca0 qa1 na1 ca1 l_1.2 qa2 na2 ca2 w (HV.callee (S0 := [_]) (vs0 := []) hh (roC (hh.bsepH 0 rfl) (roR hh 0 rfl (roR hh 1 rfl (roR hh 2 rfl roN))))) hna0 hqa0 hla0 hna1 hqa1 hla1 hna2 hqa2 hla2 h49) (fun l_15 h50 => ?_)
        refine g_se (S' := [_, _, _, _]) (vs' := []) [0, 1, 2, 3] [] 0 rfl rfl rfl rfl (g_as rfl rfl (g_as rfl rfl (g_nt (g_ret ?_))))
        obtain rfl := sj hm
        refine g_done rfl (fun w hh => (.tmp rfl (.tmp rfl .nil))) (fun w hh => ⟨(), rfl, trivial, hh.se [] [] 3 rfl rfl rfl rfl⟩)
structure m_strip_Shares_R where
  r1 : Int
  r0 : (List (List Int))
def m_strip_Shares (s0 : Scalps) : Option m_strip_Shares_R :=
 (m_strip_Least s0).bind fun t9 =>
 some (⟨t9.r2, t9.r0⟩ : m_strip_Shares_R)
theorem c_strip_Shares (s0 : Scalps) (qa0 : Option Addr) (na0 ca0 : Nat) (qa1 : Option Addr) (na1 ca1 : Nat) (w : World) (hw : HV w (keys [] []) [] [] [(aB qa0, aO qa0, RSt.enc s0.strips), (aB qa1, aO qa1, RSp.enc s0.carried)] w) (hna0 : s0.strips.length = na0) (hqa0 : AOK na0 qa0) (hla0 : na0 ≤ ca0) (hna1 : s0.carried.length = na1) (hqa1 : AOK na1 qa1) (hla1 : na1 ≤ ca1) {res : m_strip_Shares_R} (hm : m_strip_Shares s0 = some res) :
    Calls Tryz.prog 42 #[.agg #[.slice qa0 na0 ca0, .slice qa1 na1 ca1]] w (fun en w' => ∃ l : DL, en = .returned (.tuple #[slv l.v.q l.v.n l.v.cap, .int .i64 res.r1]) ∧ (VOK 1 l.v.n l.v.cap (RwH.enc l.rs) l.v.sp l.v.q ∧ DOK RI res.r0 l.rs) ∧ HV w (keys [] []) [] [⟨26, RwH.enc l.rs, l.v.sp, l.v.q, dbl 3 RI res.r0 l.rs⟩] [] w') := by
  unfold m_strip_Shares at hm
  refine g_en Tryz.func42 rfl Tryz.ntmps42 rfl (e := [(0, _)]) rfl hw (g_sr ?_)
  refine g_boxV rfl rfl (fun b h3 => ?_)
  refine g_val rfl rfl rfl (fun _ _ => v_nilS rfl) (g_as rfl rfl (g_nx (g_la [_, _] 0 Tryz.isAgg25 Tryz.sizeOf25 rfl rfl rfl rfl ?_)))
  obtain ⟨t9, h4, hm⟩ := bindO hm
  refine g_callH [] [] rfl rfl rfl rfl rfl rfl rfl Tryz.call45 (fun w hh => c_strip_Least s0 qa0 na0 ca0 qa1 na1 ca1 w (HV.callee (S0 := []) (vs0 := []) hh (roR hh 0 rfl (roR hh 1 rfl roN))) hna0 hqa0 hla0 hna1 hqa1 hla1 h4) (fun l h5 => ?_)
  obtain ⟨h6, h7⟩ := h5
  refine g_se (S' := [_]) (vs' := [_]) [0] [0] 0 rfl rfl rfl rfl (g_mv rfl rfl (g_xt rfl rfl rfl (g_xt rfl rfl rfl (g_xt rfl rfl rfl (g_as rfl rfl (g_as rfl rfl (g_as rfl rfl ?_)))))))
  refine g_nx (g_mv rfl rfl (g_mv rfl rfl (g_as rfl rfl (g_as rfl rfl (g_nt (g_ret ?_))))))
  obtain rfl := sj hm
  refine g_done rfl (fun w hh => (.tmp rfl (.tmp rfl .nil))) (fun w hh => ⟨l, rfl, ⟨h6, h7⟩, hh.se [] [0] 2 rfl rfl rfl rfl⟩)
def m_slices_Clone_stripStripstripStrip (s0 : (List Strip)) : Option (List Strip) :=
 if 0 < (s0.length : Int) then ((appc 56 [] s0).bind fun t7 =>
 some t7) else none
theorem c_slices_Clone_stripStripstripStrip (s0 : (List Strip)) (qa0 : Option Addr) (na0 ca0 : Nat) (w : World) (hw : HV w (keys [] []) [] [] [(aB qa0, aO qa0, RSt.enc s0)] w) (hna0 : s0.length = na0) (hqa0 : AOK na0 qa0) (hla0 : na0 ≤ ca0) {res : (List Strip)} (hm : m_slices_Clone_stripStripstripStrip s0 = some res) :
    Calls Tryz.prog 75 #[.slice qa0 na0 ca0] w (fun en w' => ∃ l : VL, en = .returned (slv l.q l.n l.cap) ∧ (VOK 7 l.n l.cap (RSt.enc res) l.sp l.q) ∧ HV w (keys [] []) [] [⟨85, RSt.enc res, l.sp, l.q, []⟩] [] w') := by
  unfold m_slices_Clone_stripStripstripStrip at hm
  refine g_en Tryz.func75 rfl Tryz.ntmps75 rfl (e := [(0, _)]) rfl hw (g_sr (g_val rfl rfl rfl (fun _ _ => v_nilS rfl) (g_nt (g_seq (g_sr (g_mv rfl rfl ?_))))))
  obtain ⟨h2, hm⟩ := ifO hm
  refine g_val rfl rfl rfl (fun w _ => v_eqlNe hqa0 (len_posN hna0 h2) (Tryz.runUnderlying22 w) rfl rfl) (g_nt (g_condF rfl rfl (g_skip (g_n_then (g_sr ?_)))))
  refine g_vlit0 RSt (fun w => Tryz.runUnderlying22 w) (fun w => Tryz.sizeOf85 w) rfl rfl (fun L h3 => ?_)
  refine g_mv rfl rfl ?_
  obtain ⟨t7, h4, hm⟩ := bindO hm
  refine g_vapp RSt 0 h4 Tryz.underlying22 gxinf85 rfl rfl rfl rfl rfl h3 rfl rfl hna0 hqa0 (fun w hh => (hh.seg 0 rfl)) rfl (fun L_1 h5 h5n => ?_)
  refine g_se (S' := []) (vs' := [_]) [] [0] 0 rfl rfl rfl rfl (g_as rfl rfl (g_nt (g_ret ?_)))
  obtain rfl := sj hm
  refine g_done rfl (fun w hh => (.tmp rfl .nil)) (fun w hh => ⟨L_1, rfl, h5, hh.se [] [0] 1 rfl rfl rfl rfl⟩)
end Go.Proofs.Ws

