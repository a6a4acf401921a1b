/- What the functions that the law StripTold reaches come to, and why it holds: part 7. -/
import Derived.Test.YtnkphlgohnlooaaStripTold6
import Derived.Deep.Slices
import Derived.ChangeArms
namespace Go.Proofs.Ws
set_option maxHeartbeats 4000000
set_option maxRecDepth 100000
open Go Go.Fw Go.Gx Go.Sp
set_option linter.unusedVariables false
structure m_l_StripTold_C1 where
  t5_1 : Int
  t5_2 : Int
structure m_l_StripTold_S0 where
  t58 : Int
  t5_1 : Int
  t5_2 : Int
structure m_l_StripTold_C2 where
  t5_1 : Int
  t5_2 : Int
def m_l_StripTold_L2 (t97 : (List Int)) (t35 : m_l_Made_1_R) (s_1 : Int) (s_2 : Int) : Option (Int ⊕ (Unit ⊕ Bool)) :=
 if s_2 < (t97.length : Int) then
 ((ix t97 s_2).bind fun t150 =>
 (m_s_Taken t35.r0 s_1 s_2).bind fun t156 =>
 (if t156.r1 = 0 then
 (if t150 < t156.r0.lo then
 (some true) else
 (some (decide (t156.r0.hi < t150)))) else
 (some true)).bind fun o_7 =>
 if o_7 = true then
 (some (.inr (.inr false))) else
 ((addc s_2 1).bind fun t173 =>
 some (.inl t173))) else
 (some (.inr (.inl ())))
def m_l_StripTold_L1 (t66 : m_l_turned_1_R) (t35 : m_l_Made_1_R) (t43 : m_s_Verdicts_R) (s_1 : Int) : Option (Int ⊕ (Unit ⊕ Bool)) :=
 if s_1 < (t66.r0.length : Int) then
 ((ix t66.r0 s_1).bind fun t97 =>
 (m_l_stolen t35.r0 t66.r0 s_1).bind fun t102 =>
 (m_s_Stolen t35.r0 s_1).bind fun t106 =>
 (if t106.r1 = 0 then
 (if t102 < t106.r0.lo then
 (some true) else
 (if t106.r0.hi < t102 then
 (some true) else
 ((ix t43.r0 s_1).bind fun t126 =>
 if (!((decide (t126 = 1)) == (decide (t106.r0.hi = 0)))) = true then
 (some true) else
 ((ix t43.r0 s_1).bind fun t137 =>
 some (!((decide (t137 = 2)) == (decide (0 < t106.r0.lo)))))))) else
 (some true)).bind fun o_5 =>
 if o_5 = true then
 (some (.inr (.inr false))) else
 ((iterM FU (m_l_StripTold_L2 t97 t35 s_1) 0).bind fun o_6 =>
 oc o_6 (fun j_3 => (addc s_1 1).bind fun t174 =>
 some (.inl t174)) (fun r_3 => some (.inr (.inr r_3))))) else
 (some (.inr (.inl ())))
structure m_l_StripTold_S4 where
  n26 : Int
  t185 : Int
def m_l_StripTold_L4 (t66 : m_l_turned_1_R) (t181 : Strip) (s_3 : Int) (s_4 : m_l_StripTold_S4) : Option (m_l_StripTold_S4 ⊕ Int) :=
 if s_4.t185 < (t66.r0.length : Int) then
 (((ix t66.r0 s_4.t185).bind fun t188 =>
 if s_4.t185 = t181.tenant then
 (some s_4.n26) else
 ((ix t188 s_3).bind fun t197 =>
 (addc s_4.n26 t197).bind fun t199 =>
 some t199)).bind fun o_10 =>
 (addc s_4.t185 1).bind fun t200 =>
 some (.inl (⟨o_10, t200⟩ : m_l_StripTold_S4))) else
 (some (.inr s_4.n26))
def m_l_StripTold_L3 (t35 : m_l_Made_1_R) (t66 : m_l_turned_1_R) (s_3 : Int) : Option (Int ⊕ (Unit ⊕ Bool)) :=
 if s_3 < (t35.r0.strips.length : Int) then
 ((ix t35.r0.strips s_3).bind fun t181 =>
 (iterM FU (m_l_StripTold_L4 t66 t181 s_3) (⟨0, 0⟩ : m_l_StripTold_S4)).bind fun o_9 =>
 (m_s_Missed t35.r0 s_3).bind fun t204 =>
 (if t204.r1 = 0 then
 (if o_9 < t204.r0.lo then
 (some true) else
 (some (decide (t204.r0.hi < o_9)))) else
 (some true)).bind fun o_11 =>
 if o_11 = true then
 (some (.inr (.inr false))) else
 ((addc s_3 1).bind fun t221 =>
 some (.inl t221))) else
 (some (.inr (.inl ())))
def m_l_StripTold_L6 (t97_1 : (List Int)) (t35 : m_l_Made_1_R) (s_5 : Int) (s_6 : Int) : Option (Int ⊕ (Unit ⊕ Bool)) :=
 if s_6 < (t97_1.length : Int) then
 ((ix t97_1 s_6).bind fun t150_1 =>
 (m_s_Taken t35.r0 s_5 s_6).bind fun t156_1 =>
 (if t156_1.r1 = 0 then
 (if t150_1 < t156_1.r0.lo then
 (some true) else
 (some (decide (t156_1.r0.hi < t150_1)))) else
 (some true)).bind fun o_16 =>
 if o_16 = true then
 (some (.inr (.inr false))) else
 ((addc s_6 1).bind fun t173_1 =>
 some (.inl t173_1))) else
 (some (.inr (.inl ())))
def m_l_StripTold_L5 (t35 : m_l_Made_1_R) (t43 : m_s_Verdicts_R) (s_5 : Int) : Option (Int ⊕ (Unit ⊕ Bool)) :=
 if s_5 < (t35.r1.length : Int) then
 ((ix t35.r1 s_5).bind fun t97_1 =>
 (m_l_stolen t35.r0 t35.r1 s_5).bind fun t102_1 =>
 (m_s_Stolen t35.r0 s_5).bind fun t106_1 =>
 (if t106_1.r1 = 0 then
 (if t102_1 < t106_1.r0.lo then
 (some true) else
 (if t106_1.r0.hi < t102_1 then
 (some true) else
 ((ix t43.r0 s_5).bind fun t126_1 =>
 if (!((decide (t126_1 = 1)) == (decide (t106_1.r0.hi = 0)))) = true then
 (some true) else
 ((ix t43.r0 s_5).bind fun t137_1 =>
 some (!((decide (t137_1 = 2)) == (decide (0 < t106_1.r0.lo)))))))) else
 (some true)).bind fun o_14 =>
 if o_14 = true then
 (some (.inr (.inr false))) else
 ((iterM FU (m_l_StripTold_L6 t97_1 t35 s_5) 0).bind fun o_15 =>
 oc o_15 (fun j_6 => (addc s_5 1).bind fun t174_1 =>
 some (.inl t174_1)) (fun r_10 => some (.inr (.inr r_10))))) else
 (some (.inr (.inl ())))
structure m_l_StripTold_S8 where
  n26 : Int
  t185 : Int
def m_l_StripTold_L8 (t35 : m_l_Made_1_R) (t181_1 : Strip) (s_7 : Int) (s_8 : m_l_StripTold_S8) : Option (m_l_StripTold_S8 ⊕ Int) :=
 if s_8.t185 < (t35.r1.length : Int) then
 (((ix t35.r1 s_8.t185).bind fun t188_1 =>
 if s_8.t185 = t181_1.tenant then
 (some s_8.n26) else
 ((ix t188_1 s_7).bind fun t197_1 =>
 (addc s_8.n26 t197_1).bind fun t199_1 =>
 some t199_1)).bind fun o_19 =>
 (addc s_8.t185 1).bind fun t200_1 =>
 some (.inl (⟨o_19, t200_1⟩ : m_l_StripTold_S8))) else
 (some (.inr s_8.n26))
def m_l_StripTold_L7 (t35 : m_l_Made_1_R) (s_7 : Int) : Option (Int ⊕ (Unit ⊕ Bool)) :=
 if s_7 < (t35.r0.strips.length : Int) then
 ((ix t35.r0.strips s_7).bind fun t181_1 =>
 (iterM FU (m_l_StripTold_L8 t35 t181_1 s_7) (⟨0, 0⟩ : m_l_StripTold_S8)).bind fun o_18 =>
 (m_s_Missed t35.r0 s_7).bind fun t204_1 =>
 (if t204_1.r1 = 0 then
 (if o_18 < t204_1.r0.lo then
 (some true) else
 (some (decide (t204_1.r0.hi < o_18)))) else
 (some true)).bind fun o_20 =>
 if o_20 = true then
 (some (.inr (.inr false))) else
 ((addc s_7 1).bind fun t221_1 =>
 some (.inl t221_1))) else
 (some (.inr (.inl ())))
def m_l_StripTold_L0 (tries1 : (List Int)) (t35 : m_l_Made_1_R) (t43 : m_s_Verdicts_R) (s : m_l_StripTold_S0) : Option (m_l_StripTold_S0 ⊕ (m_l_StripTold_C1 ⊕ Bool)) :=
 if s.t58 < 8 then
 ((if 0 < s.t58 then
 ((m_l_turned_1 tries1 s.t5_1 s.t5_2 t35.r1).bind fun t66 =>
 (m_s_Fits t35.r0 t66.r0).bind fun t70 =>
 (if t70.r1 = 0 then
 ((m_l_fits t35.r0 t66.r0).bind fun t79 =>
 if (!(t70.r0 == t79)) = true then
 (some true) else
 (if s.t58 = 0 then
 (some (!t70.r0)) else
 (some false))) else
 (some true)).bind fun o_3 =>
 if o_3 = true then
 (some (.inr false)) else
 (if (!t70.r0) = true then
 (some (.inl (⟨t66.b0_1, t66.b0_2⟩ : m_l_StripTold_C2))) else
 ((iterM FU (m_l_StripTold_L1 t66 t35 t43) 0).bind fun o_4 =>
 oc o_4 (fun j_2 => (iterM FU (m_l_StripTold_L3 t35 t66) 0).bind fun o_8 =>
 oc o_8 (fun j_4 => some (.inl (⟨t66.b0_1, t66.b0_2⟩ : m_l_StripTold_C2))) (fun r_6 => some (.inr r_6))) (fun r_7 => some (.inr r_7))))) else
 ((m_s_Fits t35.r0 t35.r1).bind fun t70_1 =>
 (if t70_1.r1 = 0 then
 ((m_l_fits t35.r0 t35.r1).bind fun t79_1 =>
 if (!(t70_1.r0 == t79_1)) = true then
 (some true) else
 (if s.t58 = 0 then
 (some (!t70_1.r0)) else
 (some false))) else
 (some true)).bind fun o_12 =>
 if o_12 = true then
 (some (.inr false)) else
 (if (!t70_1.r0) = true then
 (some (.inl (⟨s.t5_1, s.t5_2⟩ : m_l_StripTold_C2))) else
 ((iterM FU (m_l_StripTold_L5 t35 t43) 0).bind fun o_13 =>
 oc o_13 (fun j_5 => (iterM FU (m_l_StripTold_L7 t35) 0).bind fun o_17 =>
 oc o_17 (fun j_7 => some (.inl (⟨s.t5_1, s.t5_2⟩ : m_l_StripTold_C2))) (fun r_13 => some (.inr r_13))) (fun r_14 => some (.inr r_14)))))).bind fun o_2 =>
 oc o_2 (fun j_1 => (addc s.t58 1).bind fun t222 =>
 some (.inl (⟨t222, j_1.t5_1, j_1.t5_2⟩ : m_l_StripTold_S0))) (fun r_15 => some (.inr (.inr r_15)))) else
 (some (.inr (.inl (⟨s.t5_1, s.t5_2⟩ : m_l_StripTold_C1))))
def m_l_StripTold (numbers0 : (List Int)) (tries1 : (List Int)) : Option Bool :=
 (m_k_Pile numbers0).bind fun t32 =>
 (m_l_Made_1 numbers0 t32.t5_1 t32.t5_2 5 4).bind fun t35 =>
 (m_s_Check t35.r0).bind fun t39 =>
 if t39 = 0 then
 ((m_s_Verdicts t35.r0).bind fun t43 =>
 (if t43.r1 = 0 then
 (some (!decide ((t43.r0.length : Int) = (t35.r0.carried.length : Int)))) else
 (some true)).bind fun o =>
 if o = true then
 (some false) else
 ((m_k_Pile tries1).bind fun t57 =>
 (iterM FU (m_l_StripTold_L0 tries1 t35 t43) (⟨0, t57.t5_1, t57.t5_2⟩ : m_l_StripTold_S0)).bind fun o_1 =>
 oc o_1 (fun j => (m_l_awake).bind fun t223 =>
 some t223) (fun r_16 => some r_16))) else
 (some false)
theorem c_l_StripTold (numbers0 : (List Int)) (tries1 : (List Int)) (qa0 : Option Addr) (na0 ca0 : Nat) (qa1 : Option Addr) (na1 ca1 : Nat) (w : World) (hw : HV w (keys [] []) [] [] [(aB qa0, aO qa0, RU8.enc numbers0), (aB qa1, aO qa1, RU8.enc tries1)] w) (hna0 : numbers0.length = na0) (hqa0 : AOK na0 qa0) (hla0 : na0 ≤ ca0) (hna1 : tries1.length = na1) (hqa1 : AOK na1 qa1) (hla1 : na1 ≤ ca1) {res : Bool} (hm : m_l_StripTold numbers0 tries1 = some res) :
    Calls Try.prog 10 #[.slice qa0 na0 ca0, .slice qa1 na1 ca1] w (fun en w' => ∃ l : Unit, en = .returned (.bool res) ∧ (True) ∧ HV w (keys [] []) [] [] [] w') := by
  unfold m_l_StripTold at hm
  refine g_en Try.func10 rfl Try.ntmps10 rfl (e := [(0, _), (1, _)]) rfl hw (g_sr (g_as rfl rfl (g_nx (g_mv rfl rfl ?_))))
  obtain ⟨t32, h1, hm⟩ := bindO hm
  refine g_callH [] [] rfl rfl rfl rfl rfl rfl rfl Try.call12 (fun w hh => c_k_Pile numbers0 qa0 na0 ca0 w (HV.callee (S0 := []) (vs0 := []) hh (roR hh 0 rfl roN)) hna0 hqa0 hla0 h1) (fun l h2 => ?_)
  refine g_se (S' := [_]) (vs' := []) [0] [] 0 rfl rfl rfl rfl (g_as rfl rfl (g_nx (g_mv rfl rfl ?_)))
  obtain ⟨t35, h3, hm⟩ := bindO hm
  refine g_callH [_] [] rfl rfl rfl rfl rfl rfl rfl Try.call13 (fun w hh => c_l_Made_1 numbers0 t32.t5_1 t32.t5_2 5 4 l qa0 na0 ca0 w (HV.callee (S0 := [_]) (vs0 := []) hh (roR hh 0 rfl roN)) hna0 hqa0 hla0 h3) (fun l_1 h4 => ?_)
  obtain ⟨h5, h6, h7, h8⟩ := h4
  refine g_se (S' := [_]) (vs' := [_, _, _]) [0] [0, 1, 2] 0 rfl rfl rfl rfl (g_mv rfl rfl (g_xt rfl rfl rfl (g_xt rfl rfl rfl ?_)))
  refine g_allocV (fun w => Try.zeroValue28 w) rfl (fun b h9 => ?_)
  refine g_stSA (us := #[_, _]) (cs' := [_, _]) (S' := [_, _]) 0 (fun w => Try.sizeOf28 w) rfl rfl rfl rfl rfl rfl rfl (g_as rfl rfl (g_nt (g_seq (g_sr (g_la [_, _] 0 Try.isAgg28 Try.sizeOf28 rfl rfl rfl rfl ?_)))))
  obtain ⟨t39, h10, hm⟩ := bindO hm
  refine g_callH [] [] rfl rfl rfl rfl rfl rfl rfl Try.call15 (fun w hh => c_s_Check t35.r0 (qA l_1.1.q) l_1.1.n l_1.1.cap (qA l_1.2.1.q) l_1.2.1.n l_1.2.1.cap w (HV.callee (S0 := []) (vs0 := []) hh (roC (hh.vsepA 0 rfl h5) (roC (hh.vsepA 1 rfl h6) roN))) (vlen RSt h5 rfl) (AOK.q (vne h5)) (h5).hle (vlen RSp h6 rfl) (AOK.q (vne h6)) (h6).hle h10) (fun l_2 h11 => ?_)
  refine g_val rfl rfl rfl (fun _ _ => v_neq rfl rfl) (g_nt ?_)
  refine g_cond rfl (fun h12 => ?_) (fun h12 => ?_)
  ·replace hm := ifF (of_ndec_true h12) hm
   refine g_sr (g_as rfl rfl (g_nt (g_ret (g_r_then ?_))))
   obtain rfl := sj hm
   refine g_done rfl (fun w hh => (.tmp rfl .nil)) (fun w hh => ⟨(), rfl, trivial, hh.se [] [] 2 rfl rfl rfl rfl⟩)
  ·replace hm := ifT (of_ndec_false h12) hm
   refine g_skip (g_n_then (g_sr (g_la [_, _] 0 Try.isAgg28 Try.sizeOf28 rfl rfl rfl rfl ?_)))
   obtain ⟨t43, h13, hm⟩ := bindO hm
   refine g_callH [] [] rfl rfl rfl rfl rfl rfl rfl Try.call44 (fun w hh => c_s_Verdicts t35.r0 (qA l_1.1.q) l_1.1.n l_1.1.cap (qA l_1.2.1.q) l_1.2.1.n l_1.2.1.cap w (HV.callee (S0 := []) (vs0 := []) hh (roC (hh.vsepA 0 rfl h5) (roC (hh.vsepA 1 rfl h6) roN))) (vlen RSt h5 rfl) (AOK.q (vne h5)) (h5).hle (vlen RSp h6 rfl) (AOK.q (vne h6)) (h6).hle h13) (fun l_3 h14 => ?_)
   have h15 := h14
   refine g_se (S' := [_, _]) (vs' := [_, _, _, _]) [0, 1] [0, 1, 2, 3] 0 rfl rfl rfl rfl (g_mv rfl rfl (g_xt rfl rfl rfl (g_xt rfl rfl rfl (g_as rfl rfl (g_as rfl rfl (g_nt (g_seq ?_)))))))
   refine g_seq ?_
   obtain ⟨o, h16, h17⟩ := bindO hm
   refine g_cut (ι := Unit) (fun l_4 => True) (fun l_4 => [(1, .slice qa1 na1 ca1), (6, ptr b 0), (7, slv l_1.2.2.v.q l_1.2.2.v.n l_1.2.2.v.cap), (8, slv l_3.q l_3.n l_3.cap), (55, .bool o)]) (fun l_4 => [(b, .cells #[slv l_1.1.q l_1.1.n l_1.1.cap, slv l_1.2.1.q l_1.2.1.n l_1.2.1.cap] 28 (0, 0)), (l, .cells #[.slice qa0 na0 ca0, .int .i64 t35.b0_1, .int .u32 t35.b0_2] 105 (0, 0))]) (fun l_4 => [⟨32, RwH.enc l_1.2.2.rs, l_1.2.2.v.sp, l_1.2.2.v.q, dbl 3 RI t35.r1 l_1.2.2.rs⟩, ⟨91, RI.enc t43.r0, l_3.sp, l_3.q, []⟩, ⟨77, RSt.enc t35.r0.strips, l_1.1.sp, l_1.1.q, []⟩, ⟨37, RSp.enc t35.r0.carried, l_1.2.1.sp, l_1.2.1.q, []⟩]) ?_ ?_
   ·replace hm := h16
    refine g_region (g_mv rfl rfl (g_val rfl rfl rfl (fun _ _ => v_neq rfl rfl) (g_mv rfl rfl ?_)))
    refine g_case 48 rfl (fun h18 => ?_) (fun h18 => ?_)
    ·replace hm := ifF (of_ndec_true h18) hm
     refine g_k rfl rfl rfl rfl (g_k rfl rfl rfl rfl (g_k rfl rfl rfl rfl (g_k rfl rfl rfl rfl (g_k rfl rfl rfl rfl (g_k rfl rfl rfl rfl (g_pt rfl rfl rfl (g_nil ?_)))))))
     obtain rfl := sj hm
     exact g_leaf () (trivial) (sE rfl) (hsE [0, 1] [3, 0, 1, 2] 0 rfl rfl rfl rfl)
    ·replace hm := ifT (of_ndec_false h18) hm
     refine v_unguard rfl rfl (g_mv rfl rfl (v_unguard rfl rfl (g_val rfl rfl rfl (fun w _ => v_lenN (vlen RI h15 rfl) (Try.runUnderlying88 w) rfl) (v_unguard rfl rfl (g_fa 1 Try.runUnderlying28 rfl Try.sizeOf26 rfl rfl (v_unguard rfl rfl (g_lc 0 Try.isAgg26 rfl rfl rfl rfl ?_)))))))
     refine v_unguard rfl rfl (g_val rfl rfl rfl (fun w _ => v_lenN (vlen RSp h6 rfl) (Try.runUnderlying26 w) rfl) (v_unguard rfl rfl (g_val rfl rfl rfl (fun _ _ => v_neq rfl rfl) (g_pf rfl rfl rfl (g_nil ?_)))))
     obtain rfl := sj hm
     exact g_leaf () (trivial) (sE rfl) (hsE [0, 1] [3, 0, 1, 2] 0 rfl rfl rfl rfl)
   ·intro l_4 hj
    replace hm := h17
    refine g_n_then ?_
    refine g_cond rfl (fun h19 => ?_) (fun h19 => ?_)
    ·replace hm := ifT (h19) hm
     refine g_sr (g_as rfl rfl (g_nt (g_ret (g_r_then ?_))))
     obtain rfl := sj hm
     refine g_done rfl (fun w hh => (.tmp rfl .nil)) (fun w hh => ⟨(), rfl, trivial, hh.se [] [] 2 rfl rfl rfl rfl⟩)
    ·replace hm := ifN h19 hm
     refine g_skip (g_n_then (g_sr (g_mv rfl rfl ?_)))
     obtain ⟨t57, h20, hm⟩ := bindO hm
     refine g_callH [] [] rfl rfl rfl rfl rfl rfl rfl Try.call12 (fun w hh => c_k_Pile tries1 qa1 na1 ca1 w (HV.callee (S0 := []) (vs0 := []) hh (roR hh 1 rfl roN)) hna1 hqa1 hla1 h20) (fun l_5 h21 => ?_)
     refine g_se (S' := [_, _, _]) (vs' := [_, _, _, _]) [0, 1, 2] [0, 1, 2, 3] 0 rfl rfl rfl rfl (g_as rfl rfl (g_nt (g_seq (g_sr (g_mv rfl rfl (g_nt ?_))))))
     obtain ⟨o_1, h22, h23⟩ := bindO hm
     refine g_cut (ι := m_l_StripTold_C1) (fun j => o_1 = .inl j) (fun j => []) (fun j => [(l_5, .cells #[.slice qa1 na1 ca1, .int .i64 j.t5_1, .int .u32 j.t5_2] 105 (0, 0)), (b, .cells #[slv l_1.1.q l_1.1.n l_1.1.cap, slv l_1.2.1.q l_1.2.1.n l_1.2.1.cap] 28 (0, 0)), (l, .cells #[.slice qa0 na0 ca0, .int .i64 t35.b0_1, .int .u32 t35.b0_2] 105 (0, 0))]) (fun j => [⟨77, RSt.enc t35.r0.strips, l_1.1.sp, l_1.1.q, []⟩, ⟨37, RSp.enc t35.r0.carried, l_1.2.1.sp, l_1.2.1.q, []⟩]) ?_ ?_
     ·replace hm := h22
      refine g_block ?_
      refine g_loopF (ι := Unit) hm (fun s l_6 => True) (fun s l_6 => [(6, ptr b 0), (7, slv l_1.2.2.v.q l_1.2.2.v.n l_1.2.2.v.cap), (8, slv l_3.q l_3.n l_3.cap), (10, ptr l_5 0), (58, .int .i64 s.t58)]) (fun s l_6 => [(l_5, .cells #[.slice qa1 na1 ca1, .int .i64 s.t5_1, .int .u32 s.t5_2] 105 (0, 0)), (b, .cells #[slv l_1.1.q l_1.1.n l_1.1.cap, slv l_1.2.1.q l_1.2.1.n l_1.2.1.cap] 28 (0, 0)), (l, .cells #[.slice qa0 na0 ca0, .int .i64 t35.b0_1, .int .u32 t35.b0_2] 105 (0, 0))]) (fun s l_6 => [⟨32, RwH.enc l_1.2.2.rs, l_1.2.2.v.sp, l_1.2.2.v.q, dbl 3 RI t35.r1 l_1.2.2.rs⟩, ⟨91, RI.enc t43.r0, l_3.sp, l_3.q, []⟩, ⟨77, RSt.enc t35.r0.strips, l_1.1.sp, l_1.1.q, []⟩, ⟨37, RSp.enc t35.r0.carried, l_1.2.1.sp, l_1.2.1.q, []⟩]) () (trivial) (sE rfl) (fun w hh => hh) (fun s l_6 r hpl hm h24 => ?_)
      unfold m_l_StripTold_L0 at hm
      refine g_sr (g_ls rfl rfl rfl (g_nt (g_seq ?_)))
      refine g_cond rfl (fun h25 => ?_) (fun h25 => ?_)
      ·replace hm := ifD h25 hm
       refine g_skip (g_n_then (g_seq ?_))
       obtain ⟨o_2, h26, h27⟩ := bindO hm
       refine g_cut (ι := m_l_StripTold_C2) (fun j_1 => o_2 = .inl j_1) (fun j_1 => [(6, ptr b 0), (7, slv l_1.2.2.v.q l_1.2.2.v.n l_1.2.2.v.cap), (8, slv l_3.q l_3.n l_3.cap), (10, ptr l_5 0), (58, .int .i64 s.t58)]) (fun j_1 => [(l_5, .cells #[.slice qa1 na1 ca1, .int .i64 j_1.t5_1, .int .u32 j_1.t5_2] 105 (0, 0)), (b, .cells #[slv l_1.1.q l_1.1.n l_1.1.cap, slv l_1.2.1.q l_1.2.1.n l_1.2.1.cap] 28 (0, 0)), (l, .cells #[.slice qa0 na0 ca0, .int .i64 t35.b0_1, .int .u32 t35.b0_2] 105 (0, 0))]) (fun j_1 => [⟨32, RwH.enc l_1.2.2.rs, l_1.2.2.v.sp, l_1.2.2.v.q, dbl 3 RI t35.r1 l_1.2.2.rs⟩, ⟨91, RI.enc t43.r0, l_3.sp, l_3.q, []⟩, ⟨77, RSt.enc t35.r0.strips, l_1.1.sp, l_1.1.q, []⟩, ⟨37, RSp.enc t35.r0.carried, l_1.2.1.sp, l_1.2.1.q, []⟩]) ?_ ?_
       ·replace hm := h26
        refine g_block (g_sr (g_mv rfl rfl (g_as rfl rfl (g_nx (g_mv rfl rfl (g_as rfl rfl (g_nt ?_)))))))
        refine g_seq (g_sr (g_mv rfl rfl (g_val rfl rfl rfl (fun _ _ => v_gtr rfl rfl) (g_nt ?_))))
        refine g_cond rfl (fun h28 => ?_) (fun h28 => ?_)
        ·replace hm := ifD h28 hm
         refine g_region (g_mv rfl rfl (g_mv rfl rfl ?_))
         obtain ⟨t66, h29, hm⟩ := bindO hm
         refine g_callH [_] [] rfl rfl rfl rfl rfl rfl rfl Try.call49 (fun w hh => c_l_turned_1 tries1 s.t5_1 s.t5_2 t35.r1 l_5 qa1 na1 ca1 (qA l_1.2.2.v.q) l_1.2.2.v.n l_1.2.2.v.cap (toAL l_1.2.2.rs) w (HV.callee (S0 := [_]) (vs0 := []) hh (roR hh 1 rfl (roC (hh.vsepD 0 rfl h7) roN))) hna1 hqa1 hla1 (Eq.trans (h8).len (vlen RwH h7 rfl)) (AOK.q (vne h7)) (h7).hle ((h8).toDRO rfl) (hh.dsepT 0 rfl h8) h29) (fun l_7 h30 => ?_)
         obtain ⟨h31, h32⟩ := h30
         refine g_se (S' := [_, _, _]) (vs' := [_, _, _, _, _]) [0, 1, 2] [0, 1, 2, 3, 4] 0 rfl rfl rfl rfl (g_as rfl rfl (g_nx (g_la [_, _] 1 Try.isAgg28 Try.sizeOf28 rfl rfl rfl rfl (g_mv rfl rfl ?_))))
         obtain ⟨t70, h33, hm⟩ := bindO hm
         refine g_callH [] [] rfl rfl rfl rfl rfl rfl rfl Try.call50 (fun w hh => c_s_Fits t35.r0 t66.r0 (qA l_1.1.q) l_1.1.n l_1.1.cap (qA l_1.2.1.q) l_1.2.1.n l_1.2.1.cap (qA l_7.v.q) l_7.v.n l_7.v.cap (toAL l_7.rs) w (HV.callee (S0 := []) (vs0 := []) hh (roC (hh.vsepA 3 rfl h5) (roC (hh.vsepA 4 rfl h6) (roC (hh.vsepD 0 rfl h31) roN)))) (vlen RSt h5 rfl) (AOK.q (vne h5)) (h5).hle (vlen RSp h6 rfl) (AOK.q (vne h6)) (h6).hle (Eq.trans (h32).len (vlen RwH h31 rfl)) (AOK.q (vne h31)) (h31).hle ((h32).toDRO rfl) (hh.dsepT 0 rfl h32) h33) (fun l_8 h34 => ?_)
         refine g_mv rfl rfl (g_xt rfl rfl rfl (g_xt rfl rfl rfl (g_as rfl rfl (g_as rfl rfl (g_nt (g_seq (g_seq ?_)))))))
         obtain ⟨o_3, h35, h36⟩ := bindO hm
         refine g_cut (ι := Unit) (fun l_9 => True) (fun l_9 => [(6, ptr b 0), (7, slv l_1.2.2.v.q l_1.2.2.v.n l_1.2.2.v.cap), (8, slv l_3.q l_3.n l_3.cap), (10, ptr l_5 0), (12, slv l_7.v.q l_7.v.n l_7.v.cap), (13, .bool t70.r0), (58, .int .i64 s.t58), (89, .bool o_3)]) (fun l_9 => [(l_5, .cells #[.slice qa1 na1 ca1, .int .i64 t66.b0_1, .int .u32 t66.b0_2] 105 (0, 0)), (b, .cells #[slv l_1.1.q l_1.1.n l_1.1.cap, slv l_1.2.1.q l_1.2.1.n l_1.2.1.cap] 28 (0, 0)), (l, .cells #[.slice qa0 na0 ca0, .int .i64 t35.b0_1, .int .u32 t35.b0_2] 105 (0, 0))]) (fun l_9 => [⟨32, RwH.enc l_1.2.2.rs, l_1.2.2.v.sp, l_1.2.2.v.q, dbl 3 RI t35.r1 l_1.2.2.rs⟩, ⟨91, RI.enc t43.r0, l_3.sp, l_3.q, []⟩, ⟨32, RwH.enc l_7.rs, l_7.v.sp, l_7.v.q, dbl 3 RI t66.r0 l_7.rs⟩, ⟨77, RSt.enc t35.r0.strips, l_1.1.sp, l_1.1.q, []⟩, ⟨37, RSp.enc t35.r0.carried, l_1.2.1.sp, l_1.2.1.q, []⟩]) ?_ ?_
         ·replace hm := h35
          refine g_region (g_mv rfl rfl (g_val rfl rfl rfl (fun _ _ => v_neq rfl rfl) (g_mv rfl rfl ?_)))
          refine g_case 75 rfl (fun h37 => ?_) (fun h37 => ?_)
          ·replace hm := ifF (of_ndec_true h37) hm
           refine g_k rfl rfl rfl rfl (g_k rfl rfl rfl rfl (g_k rfl rfl rfl rfl (g_k rfl rfl rfl rfl (g_k rfl rfl rfl rfl (g_pt rfl rfl rfl (g_mv rfl rfl (g_k rfl rfl rfl rfl ?_)))))))
           refine g_k rfl rfl rfl rfl (g_k rfl rfl rfl rfl ?_)
           refine g_skipU' rfl rfl rfl rfl rfl ?_
           refine g_skipU' rfl rfl rfl rfl rfl ?_
           refine g_k rfl rfl rfl rfl (g_pt rfl rfl rfl (g_nil ?_))
           obtain rfl := sj hm
           exact g_leaf () (trivial) (sE rfl) (hsE [0, 1, 2] [1, 2, 0, 3, 4] 0 rfl rfl rfl rfl)
          ·replace hm := ifT (of_ndec_false h37) hm
           refine v_unguard rfl rfl (g_mv rfl rfl (v_unguard rfl rfl (g_la [_, _] 1 Try.isAgg28 Try.sizeOf28 rfl rfl rfl rfl (v_unguard rfl rfl (g_mv rfl rfl (v_unguard rfl rfl ?_))))))
           obtain ⟨t79, h38, hm⟩ := bindO hm
           refine g_callH [] [] rfl rfl rfl rfl rfl rfl rfl Try.call16 (fun w hh => c_l_fits t35.r0 t66.r0 (qA l_1.1.q) l_1.1.n l_1.1.cap (qA l_1.2.1.q) l_1.2.1.n l_1.2.1.cap (qA l_7.v.q) l_7.v.n l_7.v.cap (toAL l_7.rs) w (HV.callee (S0 := []) (vs0 := []) hh (roC (hh.vsepA 3 rfl h5) (roC (hh.vsepA 4 rfl h6) (roC (hh.vsepD 0 rfl h31) roN)))) (vlen RSt h5 rfl) (AOK.q (vne h5)) (h5).hle (vlen RSp h6 rfl) (AOK.q (vne h6)) (h6).hle (Eq.trans (h32).len (vlen RwH h31 rfl)) (AOK.q (vne h31)) (h31).hle ((h32).toDRO rfl) (hh.dsepT 0 rfl h32) h38) (fun l_10 h39 => ?_)
           refine v_unguard rfl rfl (g_val rfl rfl rfl (fun w _ => v_neqBool (Try.runUnderlying4 w) rfl rfl) (g_pf rfl rfl rfl (g_mv rfl rfl ?_)))
           refine g_case 82 rfl (fun h40 => ?_) (fun h40 => ?_)
           ·replace hm := ifT (h40) hm
            refine g_k rfl rfl rfl rfl (g_k rfl rfl rfl rfl (g_k rfl rfl rfl rfl ?_))
            refine g_skipU' rfl rfl rfl rfl rfl ?_
            refine g_skipU' rfl rfl rfl rfl rfl ?_
            refine g_k rfl rfl rfl rfl (g_pt rfl rfl rfl (g_nil ?_))
            obtain rfl := sj hm
            exact g_leaf () (trivial) (sE rfl) (hsE [0, 1, 2] [1, 2, 0, 3, 4] 0 rfl rfl rfl rfl)
           ·replace hm := ifN h40 hm
            refine v_unguard rfl rfl (g_mv rfl rfl (v_unguard rfl rfl (g_val rfl rfl rfl (fun _ _ => v_eql rfl rfl) (v_unguard rfl rfl (g_mv rfl rfl ?_)))))
            refine g_case 85 rfl (fun h41 => ?_) (fun h41 => ?_)
            ·replace hm := ifD h41 hm
             refine v_unguard rfl rfl (g_mv rfl rfl (v_unguard rfl rfl (g_val rfl rfl rfl (fun _ _ => v_not rfl) (v_unguard rfl rfl (g_pt rfl rfl rfl (g_pf rfl rfl rfl (g_nil ?_)))))))
             obtain rfl := sj hm
             exact g_leaf () (trivial) (sE rfl) (hsE [0, 1, 2] [1, 2, 0, 3, 4] 0 rfl rfl rfl rfl)
            ·replace hm := ifE h41 hm
             refine g_k rfl rfl rfl rfl (g_k rfl rfl rfl rfl (v_unguard rfl rfl (g_pf rfl rfl rfl (g_pf rfl rfl rfl (g_nil ?_)))))
             obtain rfl := sj hm
             exact g_leaf () (trivial) (sE rfl) (hsE [0, 1, 2] [1, 2, 0, 3, 4] 0 rfl rfl rfl rfl)
         ·intro l_9 hj
          replace hm := h36
          refine g_n_then ?_
          refine g_cond rfl (fun h42 => ?_) (fun h42 => ?_)
          ·replace hm := ifT (h42) hm
           refine g_sr (g_as rfl rfl (g_nt (g_ret (g_r_then (g_r_blk ?_)))))
           obtain rfl := sj hm
           refine g_r_then ?_
           replace hm := ocR h27
           refine g_r_then (g_r_then (g_r_blk ?_))
           obtain rfl := sj hm
           have hbo := h24 _ rfl
           subst hbo
           refine g_r_then ?_
           replace hm := ocR h23
           refine g_r_then ?_
           obtain rfl := sj hm
           refine g_done rfl (fun w hh => (.tmp rfl .nil)) (fun w hh => ⟨(), rfl, trivial, hh.se [] [] 2 rfl rfl rfl rfl⟩)
          ·replace hm := ifN h42 hm
           refine g_skip (g_n_then (g_seq (g_sr (g_mv rfl rfl (g_val rfl rfl rfl (fun _ _ => v_not rfl) (g_nt ?_))))))
           refine g_cond rfl (fun h43 => ?_) (fun h43 => ?_)
           ·replace hm := ifT (h43) hm
            refine g_exit (g_x_then (g_x_blk ?_))
            obtain rfl := sj hm
            exact g_leaf (⟨t66.b0_1, t66.b0_2⟩ : m_l_StripTold_C2) (rfl) (sE rfl) (hsE [0, 1, 2] [0, 1, 3, 4] 0 rfl rfl rfl rfl)
           ·replace hm := ifN h43 hm
            refine g_skip (g_n_then (g_seq (g_sr (g_mv rfl rfl (g_val rfl rfl rfl (fun w _ => v_lenN (Eq.trans (h32).len (vlen RwH h31 rfl)) (Try.runUnderlying29 w) rfl) (g_mv rfl rfl (g_nt ?_)))))))
            obtain ⟨o_4, h44, h45⟩ := bindO hm
            refine g_cut (ι := Unit) (fun j_2 => o_4 = .inl j_2) (fun j_2 => [(6, ptr b 0), (7, slv l_1.2.2.v.q l_1.2.2.v.n l_1.2.2.v.cap), (8, slv l_3.q l_3.n l_3.cap), (10, ptr l_5 0), (12, slv l_7.v.q l_7.v.n l_7.v.cap), (58, .int .i64 s.t58)]) (fun j_2 => [(l_5, .cells #[.slice qa1 na1 ca1, .int .i64 t66.b0_1, .int .u32 t66.b0_2] 105 (0, 0)), (b, .cells #[slv l_1.1.q l_1.1.n l_1.1.cap, slv l_1.2.1.q l_1.2.1.n l_1.2.1.cap] 28 (0, 0)), (l, .cells #[.slice qa0 na0 ca0, .int .i64 t35.b0_1, .int .u32 t35.b0_2] 105 (0, 0))]) (fun j_2 => [⟨32, RwH.enc l_1.2.2.rs, l_1.2.2.v.sp, l_1.2.2.v.q, dbl 3 RI t35.r1 l_1.2.2.rs⟩, ⟨91, RI.enc t43.r0, l_3.sp, l_3.q, []⟩, ⟨32, RwH.enc l_7.rs, l_7.v.sp, l_7.v.q, dbl 3 RI t66.r0 l_7.rs⟩, ⟨77, RSt.enc t35.r0.strips, l_1.1.sp, l_1.1.q, []⟩, ⟨37, RSp.enc t35.r0.carried, l_1.2.1.sp, l_1.2.1.q, []⟩]) ?_ ?_
            ·replace hm := h44
             refine g_block ?_
             refine g_loopF (ι := Unit) hm (fun s_1 l_11 => True) (fun s_1 l_11 => [(6, ptr b 0), (7, slv l_1.2.2.v.q l_1.2.2.v.n l_1.2.2.v.cap), (8, slv l_3.q l_3.n l_3.cap), (10, ptr l_5 0), (12, slv l_7.v.q l_7.v.n l_7.v.cap), (58, .int .i64 s.t58), (92, slv l_7.v.q l_7.v.n l_7.v.cap), (93, .int .i64 (t66.r0.length : Int)), (94, .int .i64 s_1)]) (fun s_1 l_11 => [(l_5, .cells #[.slice qa1 na1 ca1, .int .i64 t66.b0_1, .int .u32 t66.b0_2] 105 (0, 0)), (b, .cells #[slv l_1.1.q l_1.1.n l_1.1.cap, slv l_1.2.1.q l_1.2.1.n l_1.2.1.cap] 28 (0, 0)), (l, .cells #[.slice qa0 na0 ca0, .int .i64 t35.b0_1, .int .u32 t35.b0_2] 105 (0, 0))]) (fun s_1 l_11 => [⟨32, RwH.enc l_1.2.2.rs, l_1.2.2.v.sp, l_1.2.2.v.q, dbl 3 RI t35.r1 l_1.2.2.rs⟩, ⟨91, RI.enc t43.r0, l_3.sp, l_3.q, []⟩, ⟨32, RwH.enc l_7.rs, l_7.v.sp, l_7.v.q, dbl 3 RI t66.r0 l_7.rs⟩, ⟨77, RSt.enc t35.r0.strips, l_1.1.sp, l_1.1.q, []⟩, ⟨37, RSp.enc t35.r0.carried, l_1.2.1.sp, l_1.2.1.q, []⟩]) () (trivial) (sE rfl) (fun w hh => hh) (fun s_1 l_11 r_1 hpl hm h46 => ?_)
             unfold m_l_StripTold_L1 at hm
             refine g_sr (g_ls rfl rfl rfl (g_nt (g_seq ?_)))
             refine g_cond rfl (fun h47 => ?_) (fun h47 => ?_)
             ·replace hm := ifD h47 hm
              refine g_skip (g_n_then (g_seq (g_block (g_sr (g_mv rfl rfl ?_)))))
              obtain ⟨t97, h48, hm⟩ := bindO hm
              obtain ⟨L, h49, h50⟩ := (h32).row h48
              refine g_val rfl rfl rfl (fun w _ => v_ixA h49 (Try.runUnderlying29 w) (Try.sizeOf32 w) rfl rfl (vlen RwH h31 rfl) (vne h31)) (g_val rfl rfl rfl (fun w hh => v_ldE RwH 0 h49 (Try.isAgg32 w) rfl (hh.vseg 2 rfl h31) rfl (Nat.add_zero _).symm) (g_as rfl rfl (g_as rfl rfl (g_nx (g_la [_, _] 1 Try.isAgg28 Try.sizeOf28 rfl rfl rfl rfl (g_mv rfl rfl (g_mv rfl rfl ?_)))))))
              obtain ⟨t102, h51, hm⟩ := bindO hm
              refine g_callH [] [] rfl rfl rfl rfl rfl rfl rfl Try.call41 (fun w hh => c_l_stolen t35.r0 t66.r0 s_1 (qA l_1.1.q) l_1.1.n l_1.1.cap (qA l_1.2.1.q) l_1.2.1.n l_1.2.1.cap (qA l_7.v.q) l_7.v.n l_7.v.cap (toAL l_7.rs) w (HV.callee (S0 := []) (vs0 := []) hh (roC (hh.vsepA 3 rfl h5) (roC (hh.vsepA 4 rfl h6) (roC (hh.vsepD 2 rfl h31) roN)))) (vlen RSt h5 rfl) (AOK.q (vne h5)) (h5).hle (vlen RSp h6 rfl) (AOK.q (vne h6)) (h6).hle (Eq.trans (h32).len (vlen RwH h31 rfl)) (AOK.q (vne h31)) (h31).hle ((h32).toDRO rfl) (hh.dsepT 2 rfl h32) h51) (fun l_12 h52 => ?_)
              refine g_as rfl rfl (g_nx (g_la [_, _] 1 Try.isAgg28 Try.sizeOf28 rfl rfl rfl rfl (g_mv rfl rfl ?_)))
              obtain ⟨t106, h53, hm⟩ := bindO hm
              refine g_callH [] [] rfl rfl rfl rfl rfl rfl rfl Try.call38 (fun w hh => c_s_Stolen t35.r0 s_1 (qA l_1.1.q) l_1.1.n l_1.1.cap (qA l_1.2.1.q) l_1.2.1.n l_1.2.1.cap w (HV.callee (S0 := []) (vs0 := []) hh (roC (hh.vsepA 3 rfl h5) (roC (hh.vsepA 4 rfl h6) roN))) (vlen RSt h5 rfl) (AOK.q (vne h5)) (h5).hle (vlen RSp h6 rfl) (AOK.q (vne h6)) (h6).hle h53) (fun l_13 h54 => ?_)
              refine g_mv rfl rfl (g_xt rfl rfl rfl (g_xt rfl rfl rfl ?_))
              refine g_allocV (fun w => Try.zeroValue37 w) rfl (fun b_1 h55 => ?_)
              refine g_stSA (us := #[_, _]) (cs' := [_, _]) (S' := [_, _, _, _]) 0 (fun w => Try.sizeOf37 w) rfl rfl rfl rfl rfl rfl rfl (g_as rfl rfl (g_nt (g_seq (g_seq ?_))))
              obtain ⟨o_5, h56, h57⟩ := bindO hm
              refine g_cut (ι := Unit) (fun l_14 => True) (fun l_14 => [(6, ptr b 0), (7, slv l_1.2.2.v.q l_1.2.2.v.n l_1.2.2.v.cap), (8, slv l_3.q l_3.n l_3.cap), (10, ptr l_5 0), (12, slv l_7.v.q l_7.v.n l_7.v.cap), (15, .int .i64 s_1), (16, slv L.q L.n L.cap), (58, .int .i64 s.t58), (92, slv l_7.v.q l_7.v.n l_7.v.cap), (93, .int .i64 (t66.r0.length : Int)), (94, .int .i64 s_1), (144, .bool o_5)]) (fun l_14 => [(b_1, .cells #[.int .i64 t106.r0.lo, .int .i64 t106.r0.hi] 37 (0, 0)), (l_5, .cells #[.slice qa1 na1 ca1, .int .i64 t66.b0_1, .int .u32 t66.b0_2] 105 (0, 0)), (b, .cells #[slv l_1.1.q l_1.1.n l_1.1.cap, slv l_1.2.1.q l_1.2.1.n l_1.2.1.cap] 28 (0, 0)), (l, .cells #[.slice qa0 na0 ca0, .int .i64 t35.b0_1, .int .u32 t35.b0_2] 105 (0, 0))]) (fun l_14 => [⟨32, RwH.enc l_1.2.2.rs, l_1.2.2.v.sp, l_1.2.2.v.q, dbl 3 RI t35.r1 l_1.2.2.rs⟩, ⟨91, RI.enc t43.r0, l_3.sp, l_3.q, []⟩, ⟨32, RwH.enc l_7.rs, l_7.v.sp, l_7.v.q, dbl 3 RI t66.r0 l_7.rs⟩, ⟨77, RSt.enc t35.r0.strips, l_1.1.sp, l_1.1.q, []⟩, ⟨37, RSp.enc t35.r0.carried, l_1.2.1.sp, l_1.2.1.q, []⟩]) ?_ ?_
              ·replace hm := h56
               refine g_draw none (.free 0 (.free 1 (.free 2 (.free 3 (.free 4 (.hoist 5 (.free 6 (.free 7 (.free 8 (.free 9 (.free 10 (.hoist 11 (.free 12 (.free 13 (.free 14 (.free 15 (.free 16 (.free 17 (.hoist 18 (.free 19 (.free 20 (.hoist 21 (.free 22 (.free 23 (.free 24 (.free 25 (.free 26 (.free 27 (.free 28 (.hoist 29 (.free 30 (.free 31 (.hoist 32 (.free 33 (.free 34 (.free 35 .done)))))))))))))))))))))))))))))))))))) _ rfl (by decide +kernel) (fun w k hh => hh.draw k) (fun w hh => hh) ?_
               refine p_mv rfl rfl rfl (p_free rfl rfl rfl rfl (fun _ _ => v_neq rfl rfl) (p_mv rfl rfl rfl ?_))
               refine g_case 111 rfl (fun h58 => ?_) (fun h58 => ?_)
               ·replace hm := ifF (of_ndec_true h58) hm
                refine p_skipF rfl rfl rfl rfl rfl rfl rfl (p_skipF rfl rfl rfl rfl rfl rfl rfl (p_skip rfl rfl rfl rfl rfl rfl rfl (p_skipF rfl rfl rfl rfl rfl rfl rfl (p_free rfl rfl rfl rfl (fun _ _ => v_pickT rfl rfl) (p_mv rfl rfl rfl (p_skipF rfl rfl rfl rfl rfl rfl rfl (p_skipF rfl rfl rfl rfl rfl rfl rfl ?_)))))))
                refine p_skip rfl rfl rfl rfl rfl rfl rfl (p_skipF rfl rfl rfl rfl rfl rfl rfl (p_free rfl rfl rfl rfl (fun _ _ => v_pickT rfl rfl) (p_mv rfl rfl rfl (p_skipF rfl rfl rfl rfl rfl rfl rfl (p_skipF rfl rfl rfl rfl rfl rfl rfl (p_skipF rfl rfl rfl rfl rfl rfl rfl (p_skip rfl rfl rfl rfl rfl rfl rfl ?_)))))))
                refine p_skipF rfl rfl rfl rfl rfl rfl rfl (p_skipF rfl rfl rfl rfl rfl rfl rfl (p_skip rfl rfl rfl rfl rfl rfl rfl (p_skipF rfl rfl rfl rfl rfl rfl rfl (p_skipF rfl rfl rfl rfl rfl rfl rfl (p_free rfl rfl rfl rfl (fun _ _ => v_pickT rfl rfl) (p_mv rfl rfl rfl (p_skipF rfl rfl rfl rfl rfl rfl rfl ?_)))))))
                refine p_skipF rfl rfl rfl rfl rfl rfl rfl (p_skipF rfl rfl rfl rfl rfl rfl rfl (p_skip rfl rfl rfl rfl rfl rfl rfl (p_skipF rfl rfl rfl rfl rfl rfl rfl (p_skipF rfl rfl rfl rfl rfl rfl rfl (p_skip rfl rfl rfl rfl rfl rfl rfl (p_skipF rfl rfl rfl rfl rfl rfl rfl (p_skipF rfl rfl rfl rfl rfl rfl rfl ?_)))))))
                refine p_free rfl rfl rfl rfl (fun _ _ => v_pickT rfl rfl) (p_done ?_)
                obtain rfl := sj hm
                exact g_leaf () (trivial) (sE rfl) (fun w hh => hh)
               ·replace hm := ifT (of_ndec_false h58) hm
                refine p_freeG rfl rfl rfl rfl rfl rfl (fun _ _ => v_move rfl) (p_freeG rfl rfl rfl rfl rfl rfl (fun w _ => v_fieldAddr 0 (Try.runUnderlying37 w) rfl (Try.sizeOf3 w) rfl) (p_hoistG rfl rfl rfl rfl rfl rfl (fun w hh => v_load (Try.isAgg3 w) rfl (hh.cell 0 rfl rfl)) (p_freeG rfl rfl rfl rfl rfl rfl (fun _ _ => v_lss rfl rfl) (p_free rfl rfl rfl rfl (fun _ _ => v_pickF rfl rfl) (p_mv rfl rfl rfl ?_)))))
                refine g_case 117 rfl (fun h59 => ?_) (fun h59 => ?_)
                ·replace hm := ifD h59 hm
                 refine p_skipF rfl rfl rfl rfl rfl rfl rfl (p_skipF rfl rfl rfl rfl rfl rfl rfl (p_skip rfl rfl rfl rfl rfl rfl rfl (p_skipF rfl rfl rfl rfl rfl rfl rfl (p_free rfl rfl rfl rfl (fun _ _ => v_pickT rfl rfl) (p_mv rfl rfl rfl (p_skipF rfl rfl rfl rfl rfl rfl rfl (p_skipF rfl rfl rfl rfl rfl rfl rfl ?_)))))))
                 refine p_skipF rfl rfl rfl rfl rfl rfl rfl (p_skip rfl rfl rfl rfl rfl rfl rfl (p_skipF rfl rfl rfl rfl rfl rfl rfl (p_skipF rfl rfl rfl rfl rfl rfl rfl (p_skip rfl rfl rfl rfl rfl rfl rfl (p_skipF rfl rfl rfl rfl rfl rfl rfl (p_skipF rfl rfl rfl rfl rfl rfl rfl (p_free rfl rfl rfl rfl (fun _ _ => v_pickT rfl rfl) ?_)))))))
                 refine p_mv rfl rfl rfl (p_skipF rfl rfl rfl rfl rfl rfl rfl (p_skipF rfl rfl rfl rfl rfl rfl rfl (p_skipF rfl rfl rfl rfl rfl rfl rfl (p_skip rfl rfl rfl rfl rfl rfl rfl (p_skipF rfl rfl rfl rfl rfl rfl rfl (p_skipF rfl rfl rfl rfl rfl rfl rfl (p_skip rfl rfl rfl rfl rfl rfl rfl ?_)))))))
                 refine p_skipF rfl rfl rfl rfl rfl rfl rfl (p_skipF rfl rfl rfl rfl rfl rfl rfl (p_free rfl rfl rfl rfl (fun _ _ => v_pickT rfl rfl) (p_done ?_)))
                 obtain rfl := sj hm
                 exact g_leaf () (trivial) (sE rfl) (fun w hh => hh)
                ·replace hm := ifE h59 hm
                 refine p_freeG rfl rfl rfl rfl rfl rfl (fun _ _ => v_move rfl) (p_freeG rfl rfl rfl rfl rfl rfl (fun w _ => v_fieldAddr 1 (Try.runUnderlying37 w) rfl (Try.sizeOf3 w) rfl) (p_hoistG rfl rfl rfl rfl rfl rfl (fun w hh => v_load (Try.isAgg3 w) rfl (hh.cell 0 rfl rfl)) (p_freeG rfl rfl rfl rfl rfl rfl (fun _ _ => v_gtr rfl rfl) (p_free rfl rfl rfl rfl (fun _ _ => v_pickF rfl rfl) (p_mv rfl rfl rfl ?_)))))
                 refine g_case 123 rfl (fun h60 => ?_) (fun h60 => ?_)
                 ·replace hm := ifD h60 hm
                  refine p_skipF rfl rfl rfl rfl rfl rfl rfl (p_skipF rfl rfl rfl rfl rfl rfl rfl (p_skipF rfl rfl rfl rfl rfl rfl rfl (p_skip rfl rfl rfl rfl rfl rfl rfl (p_skipF rfl rfl rfl rfl rfl rfl rfl (p_skipF rfl rfl rfl rfl rfl rfl rfl (p_skip rfl rfl rfl rfl rfl rfl rfl (p_skipF rfl rfl rfl rfl rfl rfl rfl ?_)))))))
                  refine p_skipF rfl rfl rfl rfl rfl rfl rfl (p_free rfl rfl rfl rfl (fun _ _ => v_pickT rfl rfl) (p_mv rfl rfl rfl (p_skipF rfl rfl rfl rfl rfl rfl rfl (p_skipF rfl rfl rfl rfl rfl rfl rfl (p_skipF rfl rfl rfl rfl rfl rfl rfl (p_skip rfl rfl rfl rfl rfl rfl rfl (p_skipF rfl rfl rfl rfl rfl rfl rfl ?_)))))))
                  refine p_skipF rfl rfl rfl rfl rfl rfl rfl (p_skip rfl rfl rfl rfl rfl rfl rfl (p_skipF rfl rfl rfl rfl rfl rfl rfl (p_skipF rfl rfl rfl rfl rfl rfl rfl (p_free rfl rfl rfl rfl (fun _ _ => v_pickT rfl rfl) (p_done ?_)))))
                  obtain rfl := sj hm
                  exact g_leaf () (trivial) (sE rfl) (fun w hh => hh)
                 ·replace hm := ifE h60 hm
                  refine p_freeG rfl rfl rfl rfl rfl rfl (fun _ _ => v_move rfl) (p_freeG rfl rfl rfl rfl rfl rfl (fun _ _ => v_move rfl) ?_)
                  obtain ⟨t126, h61, hm⟩ := bindO hm
                  refine p_freeG rfl rfl rfl rfl rfl rfl (fun w _ => v_ixA h61 (Try.runUnderlying88 w) (Try.sizeOf91 w) rfl rfl (vlen RI h15 rfl) (vne h15)) (p_hoistG rfl rfl rfl rfl rfl rfl (fun w hh => v_ldE RI 0 h61 (Try.isAgg91 w) rfl (hh.vseg 1 rfl h15) rfl (Nat.add_zero _).symm) (p_freeG rfl rfl rfl rfl rfl rfl (fun _ _ => v_eql rfl rfl) (p_freeG rfl rfl rfl rfl rfl rfl (fun w _ => v_fieldAddr 1 (Try.runUnderlying37 w) rfl (Try.sizeOf3 w) rfl) (p_hoistG rfl rfl rfl rfl rfl rfl (fun w hh => v_load (Try.isAgg3 w) rfl (hh.cell 0 rfl rfl)) (p_freeG rfl rfl rfl rfl rfl rfl (fun _ _ => v_eql rfl rfl) (p_freeG rfl rfl rfl rfl rfl rfl (fun w _ => v_neqBool (Try.runUnderlying4 w) rfl rfl) (p_free rfl rfl rfl rfl (fun _ _ => v_pickF rfl rfl) ?_)))))))
                  refine p_mv rfl rfl rfl ?_
                  refine g_case 134 rfl (fun h62 => ?_) (fun h62 => ?_)
                  ·replace hm := ifT (h62) hm
                   refine p_skipF rfl rfl rfl rfl rfl rfl rfl (p_skipF rfl rfl rfl rfl rfl rfl rfl (p_skipF rfl rfl rfl rfl rfl rfl rfl (p_skip rfl rfl rfl rfl rfl rfl rfl (p_skipF rfl rfl rfl rfl rfl rfl rfl (p_skipF rfl rfl rfl rfl rfl rfl rfl (p_skip rfl rfl rfl rfl rfl rfl rfl (p_skipF rfl rfl rfl rfl rfl rfl rfl ?_)))))))
                   refine p_skipF rfl rfl rfl rfl rfl rfl rfl (p_free rfl rfl rfl rfl (fun _ _ => v_pickT rfl rfl) (p_done ?_))
                   obtain rfl := sj hm
                   exact g_leaf () (trivial) (sE rfl) (fun w hh => hh)
                  ·replace hm := ifN h62 hm
                   refine p_freeG rfl rfl rfl rfl rfl rfl (fun _ _ => v_move rfl) (p_freeG rfl rfl rfl rfl rfl rfl (fun _ _ => v_move rfl) ?_)
                   obtain ⟨t137, h63, hm⟩ := bindO hm
                   refine p_freeG rfl rfl rfl rfl rfl rfl (fun w _ => v_ixA h63 (Try.runUnderlying88 w) (Try.sizeOf91 w) rfl rfl (vlen RI h15 rfl) (vne h15)) (p_hoistG rfl rfl rfl rfl rfl rfl (fun w hh => v_ldE RI 0 h63 (Try.isAgg91 w) rfl (hh.vseg 1 rfl h15) rfl (Nat.add_zero _).symm) (p_freeG rfl rfl rfl rfl rfl rfl (fun _ _ => v_eql rfl rfl) (p_freeG rfl rfl rfl rfl rfl rfl (fun w _ => v_fieldAddr 0 (Try.runUnderlying37 w) rfl (Try.sizeOf3 w) rfl) (p_hoistG rfl rfl rfl rfl rfl rfl (fun w hh => v_load (Try.isAgg3 w) rfl (hh.cell 0 rfl rfl)) (p_freeG rfl rfl rfl rfl rfl rfl (fun _ _ => v_gtr rfl rfl) (p_freeG rfl rfl rfl rfl rfl rfl (fun w _ => v_neqBool (Try.runUnderlying4 w) rfl rfl) (p_free rfl rfl rfl rfl (fun _ _ => v_pickF rfl rfl) ?_)))))))
                   refine p_done ?_
                   obtain rfl := sj hm
                   exact g_leaf () (trivial) (sE rfl) (fun w hh => hh)
              ·intro l_14 hj
               replace hm := h57
               refine g_n_then ?_
               refine g_cond rfl (fun h64 => ?_) (fun h64 => ?_)
               ·replace hm := ifT (h64) hm
                refine g_sr (g_as rfl rfl (g_nt (g_ret (g_r_then (g_r_blk (g_r_then (g_r_then ?_)))))))
                refine g_r_blk ?_
                obtain rfl := sj hm
                have hbo := h46 _ rfl
                subst hbo
                refine g_r_then ?_
                replace hm := ocR h45
                refine g_r_then (g_r_blk ?_)
                obtain rfl := sj hm
                refine g_r_then ?_
                replace hm := ocR h27
                refine g_r_then (g_r_then (g_r_blk ?_))
                obtain rfl := sj hm
                have hbo := h24 _ rfl
                subst hbo
                refine g_r_then ?_
                replace hm := ocR h23
                refine g_r_then ?_
                obtain rfl := sj hm
                refine g_done rfl (fun w hh => (.tmp rfl .nil)) (fun w hh => ⟨(), rfl, trivial, hh.se [] [] 2 rfl rfl rfl rfl⟩)
               ·replace hm := ifN h64 hm
                refine g_skip (g_n_then (g_sr (g_mv rfl rfl (g_val rfl rfl rfl (fun w _ => v_lenN (vlen RI h50 rfl) (Try.runUnderlying32 w) rfl) (g_mv rfl rfl (g_nt ?_))))))
                obtain ⟨o_6, h65, h66⟩ := bindO hm
                refine g_cut (ι := Unit) (fun j_3 => o_6 = .inl j_3) (fun j_3 => [(6, ptr b 0), (7, slv l_1.2.2.v.q l_1.2.2.v.n l_1.2.2.v.cap), (8, slv l_3.q l_3.n l_3.cap), (10, ptr l_5 0), (12, slv l_7.v.q l_7.v.n l_7.v.cap), (58, .int .i64 s.t58), (92, slv l_7.v.q l_7.v.n l_7.v.cap), (93, .int .i64 (t66.r0.length : Int)), (94, .int .i64 s_1)]) (fun j_3 => [(b_1, .cells #[.int .i64 t106.r0.lo, .int .i64 t106.r0.hi] 37 (0, 0)), (l_5, .cells #[.slice qa1 na1 ca1, .int .i64 t66.b0_1, .int .u32 t66.b0_2] 105 (0, 0)), (b, .cells #[slv l_1.1.q l_1.1.n l_1.1.cap, slv l_1.2.1.q l_1.2.1.n l_1.2.1.cap] 28 (0, 0)), (l, .cells #[.slice qa0 na0 ca0, .int .i64 t35.b0_1, .int .u32 t35.b0_2] 105 (0, 0))]) (fun j_3 => [⟨32, RwH.enc l_1.2.2.rs, l_1.2.2.v.sp, l_1.2.2.v.q, dbl 3 RI t35.r1 l_1.2.2.rs⟩, ⟨91, RI.enc t43.r0, l_3.sp, l_3.q, []⟩, ⟨32, RwH.enc l_7.rs, l_7.v.sp, l_7.v.q, dbl 3 RI t66.r0 l_7.rs⟩, ⟨77, RSt.enc t35.r0.strips, l_1.1.sp, l_1.1.q, []⟩, ⟨37, RSp.enc t35.r0.carried, l_1.2.1.sp, l_1.2.1.q, []⟩]) ?_ ?_
                ·replace hm := h65
                 refine g_block ?_
                 refine g_loopF (ι := Unit) hm (fun s_2 l_15 => True) (fun s_2 l_15 => [(6, ptr b 0), (7, slv l_1.2.2.v.q l_1.2.2.v.n l_1.2.2.v.cap), (8, slv l_3.q l_3.n l_3.cap), (10, ptr l_5 0), (12, slv l_7.v.q l_7.v.n l_7.v.cap), (15, .int .i64 s_1), (58, .int .i64 s.t58), (92, slv l_7.v.q l_7.v.n l_7.v.cap), (93, .int .i64 (t66.r0.length : Int)), (94, .int .i64 s_1), (145, slv L.q L.n L.cap), (146, .int .i64 (t97.length : Int)), (147, .int .i64 s_2)]) (fun s_2 l_15 => [(b_1, .cells #[.int .i64 t106.r0.lo, .int .i64 t106.r0.hi] 37 (0, 0)), (l_5, .cells #[.slice qa1 na1 ca1, .int .i64 t66.b0_1, .int .u32 t66.b0_2] 105 (0, 0)), (b, .cells #[slv l_1.1.q l_1.1.n l_1.1.cap, slv l_1.2.1.q l_1.2.1.n l_1.2.1.cap] 28 (0, 0)), (l, .cells #[.slice qa0 na0 ca0, .int .i64 t35.b0_1, .int .u32 t35.b0_2] 105 (0, 0))]) (fun s_2 l_15 => [⟨32, RwH.enc l_1.2.2.rs, l_1.2.2.v.sp, l_1.2.2.v.q, dbl 3 RI t35.r1 l_1.2.2.rs⟩, ⟨91, RI.enc t43.r0, l_3.sp, l_3.q, []⟩, ⟨32, RwH.enc l_7.rs, l_7.v.sp, l_7.v.q, dbl 3 RI t66.r0 l_7.rs⟩, ⟨77, RSt.enc t35.r0.strips, l_1.1.sp, l_1.1.q, []⟩, ⟨37, RSp.enc t35.r0.carried, l_1.2.1.sp, l_1.2.1.q, []⟩]) () (trivial) (sE rfl) (fun w hh => hh) (fun s_2 l_15 r_2 hpl hm h67 => ?_)
                 unfold m_l_StripTold_L2 at hm
                 refine g_sr (g_ls rfl rfl rfl (g_nt (g_seq ?_)))
                 refine g_cond rfl (fun h68 => ?_) (fun h68 => ?_)
                 ·replace hm := ifD h68 hm
                  refine g_skip (g_n_then (g_seq (g_block (g_sr (g_mv rfl rfl ?_)))))
                  obtain ⟨t150, h69, hm⟩ := bindO hm
                  refine g_val rfl rfl rfl (fun w _ => v_ixA h69 (Try.runUnderlying32 w) (Try.sizeOf3 w) rfl rfl (vlen RI h50 rfl) (vne h50)) (g_val rfl rfl rfl (fun w hh => v_ldE RI 0 h69 (Try.isAgg3 w) rfl (hh.dseg 2 rfl h48 h49 h50) rfl (Nat.add_zero _).symm) (g_as rfl rfl (g_as rfl rfl (g_nx (g_la [_, _] 2 Try.isAgg28 Try.sizeOf28 rfl rfl rfl rfl (g_mv rfl rfl (g_mv rfl rfl ?_)))))))
                  obtain ⟨t156, h70, hm⟩ := bindO hm
                  refine g_callH [] [] rfl rfl rfl rfl rfl rfl rfl Try.call19 (fun w hh => c_s_Taken t35.r0 s_1 s_2 (qA l_1.1.q) l_1.1.n l_1.1.cap (qA l_1.2.1.q) l_1.2.1.n l_1.2.1.cap w (HV.callee (S0 := []) (vs0 := []) hh (roC (hh.vsepA 3 rfl h5) (roC (hh.vsepA 4 rfl h6) roN))) (vlen RSt h5 rfl) (AOK.q (vne h5)) (h5).hle (vlen RSp h6 rfl) (AOK.q (vne h6)) (h6).hle h70) (fun l_16 h71 => ?_)
                  refine g_mv rfl rfl (g_xt rfl rfl rfl (g_xt rfl rfl rfl ?_))
                  refine g_allocV (fun w => Try.zeroValue37 w) rfl (fun b_2 h72 => ?_)
                  refine g_stSA (us := #[_, _]) (cs' := [_, _]) (S' := [_, _, _, _, _]) 0 (fun w => Try.sizeOf37 w) rfl rfl rfl rfl rfl rfl rfl (g_as rfl rfl (g_nt (g_seq ?_)))
                  obtain ⟨o_7, h73, h74⟩ := bindO hm
                  refine g_cut (ι := Unit) (fun l_17 => True) (fun l_17 => [(6, ptr b 0), (7, slv l_1.2.2.v.q l_1.2.2.v.n l_1.2.2.v.cap), (8, slv l_3.q l_3.n l_3.cap), (10, ptr l_5 0), (12, slv l_7.v.q l_7.v.n l_7.v.cap), (15, .int .i64 s_1), (58, .int .i64 s.t58), (92, slv l_7.v.q l_7.v.n l_7.v.cap), (93, .int .i64 (t66.r0.length : Int)), (94, .int .i64 s_1), (145, slv L.q L.n L.cap), (146, .int .i64 (t97.length : Int)), (147, .int .i64 s_2), (172, .bool o_7)]) (fun l_17 => [(b_2, .cells #[.int .i64 t156.r0.lo, .int .i64 t156.r0.hi] 37 (0, 0)), (b_1, .cells #[.int .i64 t106.r0.lo, .int .i64 t106.r0.hi] 37 (0, 0)), (l_5, .cells #[.slice qa1 na1 ca1, .int .i64 t66.b0_1, .int .u32 t66.b0_2] 105 (0, 0)), (b, .cells #[slv l_1.1.q l_1.1.n l_1.1.cap, slv l_1.2.1.q l_1.2.1.n l_1.2.1.cap] 28 (0, 0)), (l, .cells #[.slice qa0 na0 ca0, .int .i64 t35.b0_1, .int .u32 t35.b0_2] 105 (0, 0))]) (fun l_17 => [⟨32, RwH.enc l_1.2.2.rs, l_1.2.2.v.sp, l_1.2.2.v.q, dbl 3 RI t35.r1 l_1.2.2.rs⟩, ⟨91, RI.enc t43.r0, l_3.sp, l_3.q, []⟩, ⟨32, RwH.enc l_7.rs, l_7.v.sp, l_7.v.q, dbl 3 RI t66.r0 l_7.rs⟩, ⟨77, RSt.enc t35.r0.strips, l_1.1.sp, l_1.1.q, []⟩, ⟨37, RSp.enc t35.r0.carried, l_1.2.1.sp, l_1.2.1.q, []⟩]) ?_ ?_
                  ·replace hm := h73
                   refine g_region (g_mv rfl rfl (g_val rfl rfl rfl (fun _ _ => v_neq rfl rfl) (g_mv rfl rfl ?_)))
                   refine g_case 161 rfl (fun h75 => ?_) (fun h75 => ?_)
                   ·replace hm := ifF (of_ndec_true h75) hm
                    refine g_k rfl rfl rfl rfl (g_k rfl rfl rfl rfl (g_k rfl rfl rfl rfl (g_k rfl rfl rfl rfl (g_pt rfl rfl rfl (g_mv rfl rfl (g_k rfl rfl rfl rfl (g_k rfl rfl rfl rfl ?_)))))))
                    refine g_k rfl rfl rfl rfl (g_k rfl rfl rfl rfl (g_pt rfl rfl rfl (g_nil ?_)))
                    obtain rfl := sj hm
                    exact g_leaf () (trivial) (sE rfl) (fun w hh => hh)
                   ·replace hm := ifT (of_ndec_false h75) hm
                    refine v_unguard rfl rfl (g_mv rfl rfl (v_unguard rfl rfl (g_fa 0 Try.runUnderlying37 rfl Try.sizeOf3 rfl rfl (v_unguard rfl rfl (g_lc 0 Try.isAgg3 rfl rfl rfl rfl (v_unguard rfl rfl (g_ls rfl rfl rfl ?_)))))))
                    refine g_pf rfl rfl rfl (g_mv rfl rfl ?_)
                    refine g_case 167 rfl (fun h76 => ?_) (fun h76 => ?_)
                    ·replace hm := ifD h76 hm
                     refine g_k rfl rfl rfl rfl (g_k rfl rfl rfl rfl (g_k rfl rfl rfl rfl (g_k rfl rfl rfl rfl (g_pt rfl rfl rfl (g_nil ?_)))))
                     obtain rfl := sj hm
                     exact g_leaf () (trivial) (sE rfl) (fun w hh => hh)
                    ·replace hm := ifE h76 hm
                     refine v_unguard rfl rfl (g_mv rfl rfl (v_unguard rfl rfl (g_fa 1 Try.runUnderlying37 rfl Try.sizeOf3 rfl rfl (v_unguard rfl rfl (g_lc 0 Try.isAgg3 rfl rfl rfl rfl (v_unguard rfl rfl (g_val rfl rfl rfl (fun _ _ => v_gtr rfl rfl) ?_)))))))
                     refine g_pf rfl rfl rfl (g_nil ?_)
                     obtain rfl := sj hm
                     exact g_leaf () (trivial) (sE rfl) (fun w hh => hh)
                  ·intro l_17 hj
                   replace hm := h74
                   refine g_n_then ?_
                   refine g_cond rfl (fun h77 => ?_) (fun h77 => ?_)
                   ·replace hm := ifT (h77) hm
                    refine g_sr (g_as rfl rfl (g_nt (g_ret (g_r_blk (g_r_then (g_r_then (g_r_blk ?_)))))))
                    obtain rfl := sj hm
                    have hbo := h67 _ rfl
                    subst hbo
                    refine g_r_then ?_
                    replace hm := ocR h66
                    refine g_r_blk (g_r_then (g_r_then (g_r_blk ?_)))
                    obtain rfl := sj hm
                    have hbo := h46 _ rfl
                    subst hbo
                    refine g_r_then ?_
                    replace hm := ocR h45
                    refine g_r_then (g_r_blk ?_)
                    obtain rfl := sj hm
                    refine g_r_then ?_
                    replace hm := ocR h27
                    refine g_r_then (g_r_then (g_r_blk ?_))
                    obtain rfl := sj hm
                    have hbo := h24 _ rfl
                    subst hbo
                    refine g_r_then ?_
                    replace hm := ocR h23
                    refine g_r_then ?_
                    obtain rfl := sj hm
                    refine g_done rfl (fun w hh => (.tmp rfl .nil)) (fun w hh => ⟨(), rfl, trivial, hh.se [] [] 2 rfl rfl rfl rfl⟩)
                   ·replace hm := ifN h77 hm
                    refine g_skip (g_n_blk (g_n_then (g_region ?_)))
                    obtain ⟨t173, h78, hm⟩ := bindO hm
                    refine g_ac h78 rfl rfl rfl (g_mv rfl rfl (g_nil ?_))
                    obtain rfl := sj hm
                    refine g_n_then ?_
                    exact g_again' _ () rfl (trivial) (sE rfl) (hsE [1, 2, 3, 4] [0, 1, 2, 3, 4] 0 rfl rfl rfl rfl)
                 ·replace hm := ifE h68 hm
                  refine g_exit (g_x_then (g_x_then (g_x_blk ?_)))
                  obtain rfl := sj hm
                  have hbo := h67 _ rfl
                  subst hbo
                  exact g_leaf () (rfl) (sE rfl) (fun w hh => hh)
                ·intro j_3 hj
                 have h79 := hj
                 subst h79
                 replace hm := ocL h66
                 refine g_n_blk (g_n_then (g_region ?_))
                 obtain ⟨t174, h80, hm⟩ := bindO hm
                 refine g_ac h80 rfl rfl rfl (g_mv rfl rfl (g_nil ?_))
                 obtain rfl := sj hm
                 refine g_n_then ?_
                 exact g_again' _ () rfl (trivial) (sE rfl) (hsE [1, 2, 3] [0, 1, 2, 3, 4] 0 rfl rfl rfl rfl)
             ·replace hm := ifE h47 hm
              refine g_exit (g_x_then (g_x_then (g_x_blk ?_)))
              obtain rfl := sj hm
              have hbo := h46 _ rfl
              subst hbo
              exact g_leaf () (rfl) (sE rfl) (fun w hh => hh)
            ·intro j_2 hj
             have h81 := hj
             subst h81
             replace hm := ocL h45
             refine g_n_then (g_sr (g_fa 0 Try.runUnderlying28 rfl Try.sizeOf25 rfl rfl (g_lc 1 Try.isAgg25 rfl rfl rfl rfl (g_val rfl rfl rfl (fun w _ => v_lenN (vlen RSt h5 rfl) (Try.runUnderlying25 w) rfl) (g_mv rfl rfl (g_nt ?_))))))
             obtain ⟨o_8, h82, h83⟩ := bindO hm
             refine g_cut (ι := Unit) (fun j_4 => o_8 = .inl j_4) (fun j_4 => [(6, ptr b 0), (7, slv l_1.2.2.v.q l_1.2.2.v.n l_1.2.2.v.cap), (8, slv l_3.q l_3.n l_3.cap), (10, ptr l_5 0), (58, .int .i64 s.t58)]) (fun j_4 => [(l_5, .cells #[.slice qa1 na1 ca1, .int .i64 t66.b0_1, .int .u32 t66.b0_2] 105 (0, 0)), (b, .cells #[slv l_1.1.q l_1.1.n l_1.1.cap, slv l_1.2.1.q l_1.2.1.n l_1.2.1.cap] 28 (0, 0)), (l, .cells #[.slice qa0 na0 ca0, .int .i64 t35.b0_1, .int .u32 t35.b0_2] 105 (0, 0))]) (fun j_4 => [⟨32, RwH.enc l_1.2.2.rs, l_1.2.2.v.sp, l_1.2.2.v.q, dbl 3 RI t35.r1 l_1.2.2.rs⟩, ⟨91, RI.enc t43.r0, l_3.sp, l_3.q, []⟩, ⟨77, RSt.enc t35.r0.strips, l_1.1.sp, l_1.1.q, []⟩, ⟨37, RSp.enc t35.r0.carried, l_1.2.1.sp, l_1.2.1.q, []⟩]) ?_ ?_
             ·replace hm := h82
              refine g_block ?_
              refine g_loopF (ι := Unit) hm (fun s_3 l_18 => True) (fun s_3 l_18 => [(6, ptr b 0), (7, slv l_1.2.2.v.q l_1.2.2.v.n l_1.2.2.v.cap), (8, slv l_3.q l_3.n l_3.cap), (10, ptr l_5 0), (12, slv l_7.v.q l_7.v.n l_7.v.cap), (58, .int .i64 s.t58), (176, slv l_1.1.q l_1.1.n l_1.1.cap), (177, .int .i64 (t35.r0.strips.length : Int)), (178, .int .i64 s_3)]) (fun s_3 l_18 => [(l_5, .cells #[.slice qa1 na1 ca1, .int .i64 t66.b0_1, .int .u32 t66.b0_2] 105 (0, 0)), (b, .cells #[slv l_1.1.q l_1.1.n l_1.1.cap, slv l_1.2.1.q l_1.2.1.n l_1.2.1.cap] 28 (0, 0)), (l, .cells #[.slice qa0 na0 ca0, .int .i64 t35.b0_1, .int .u32 t35.b0_2] 105 (0, 0))]) (fun s_3 l_18 => [⟨32, RwH.enc l_1.2.2.rs, l_1.2.2.v.sp, l_1.2.2.v.q, dbl 3 RI t35.r1 l_1.2.2.rs⟩, ⟨91, RI.enc t43.r0, l_3.sp, l_3.q, []⟩, ⟨32, RwH.enc l_7.rs, l_7.v.sp, l_7.v.q, dbl 3 RI t66.r0 l_7.rs⟩, ⟨77, RSt.enc t35.r0.strips, l_1.1.sp, l_1.1.q, []⟩, ⟨37, RSp.enc t35.r0.carried, l_1.2.1.sp, l_1.2.1.q, []⟩]) () (trivial) (sE rfl) (fun w hh => hh) (fun s_3 l_18 r_4 hpl hm h84 => ?_)
              unfold m_l_StripTold_L3 at hm
              refine g_sr (g_ls rfl rfl rfl (g_nt (g_seq ?_)))
              refine g_cond rfl (fun h85 => ?_) (fun h85 => ?_)
              ·replace hm := ifD h85 hm
               refine g_skip (g_n_then (g_seq (g_block (g_sr (g_mv rfl rfl ?_)))))
               obtain ⟨t181, h86, hm⟩ := bindO hm
               refine g_val rfl rfl rfl (fun w _ => v_ixA h86 (Try.runUnderlying25 w) (Try.sizeOf77 w) rfl rfl (vlen RSt h5 rfl) (vne h5)) ?_
               refine g_val rfl rfl rfl (fun w hh => v_ldEA RSt 0 [.int .i64 t181.tenant, .int .i64 t181.lay.lo, .int .i64 t181.lay.hi, .int .i64 t181.seeded.lo, .int .i64 t181.seeded.hi, .int .i64 t181.left.lo, .int .i64 t181.left.hi] h86 (Try.isAgg77 w) (Try.sizeOf77 w) rfl (hh.vseg 3 rfl h5) rfl (Nat.add_zero _).symm) ?_
               refine g_allocV (fun w => Try.zeroValue77 w) rfl (fun b_3 h87 => ?_)
               refine g_as rfl rfl (g_stSA (us := #[_, _, _, _, _, _, _]) (cs' := [_, _, _, _, _, _, _]) (S' := [_, _, _, _]) 0 (fun w => Try.sizeOf77 w) rfl rfl rfl rfl rfl rfl rfl (g_nx (g_as rfl rfl (g_nt (g_seq (g_sr (g_mv rfl rfl ?_)))))))
               refine g_val rfl rfl rfl (fun w _ => v_lenN (Eq.trans (h32).len (vlen RwH h31 rfl)) (Try.runUnderlying29 w) rfl) (g_mv rfl rfl (g_nt ?_))
               obtain ⟨o_9, h88, h89⟩ := bindO hm
               refine g_cut (ι := Unit) (fun l_19 => True) (fun l_19 => [(6, ptr b 0), (7, slv l_1.2.2.v.q l_1.2.2.v.n l_1.2.2.v.cap), (8, slv l_3.q l_3.n l_3.cap), (10, ptr l_5 0), (12, slv l_7.v.q l_7.v.n l_7.v.cap), (24, .int .i64 s_3), (26, .int .i64 o_9), (58, .int .i64 s.t58), (176, slv l_1.1.q l_1.1.n l_1.1.cap), (177, .int .i64 (t35.r0.strips.length : Int)), (178, .int .i64 s_3)]) (fun l_19 => [(b_3, .cells #[.int .i64 t181.tenant, .int .i64 t181.lay.lo, .int .i64 t181.lay.hi, .int .i64 t181.seeded.lo, .int .i64 t181.seeded.hi, .int .i64 t181.left.lo, .int .i64 t181.left.hi] 77 (0, 0)), (l_5, .cells #[.slice qa1 na1 ca1, .int .i64 t66.b0_1, .int .u32 t66.b0_2] 105 (0, 0)), (b, .cells #[slv l_1.1.q l_1.1.n l_1.1.cap, slv l_1.2.1.q l_1.2.1.n l_1.2.1.cap] 28 (0, 0)), (l, .cells #[.slice qa0 na0 ca0, .int .i64 t35.b0_1, .int .u32 t35.b0_2] 105 (0, 0))]) (fun l_19 => [⟨32, RwH.enc l_1.2.2.rs, l_1.2.2.v.sp, l_1.2.2.v.q, dbl 3 RI t35.r1 l_1.2.2.rs⟩, ⟨91, RI.enc t43.r0, l_3.sp, l_3.q, []⟩, ⟨32, RwH.enc l_7.rs, l_7.v.sp, l_7.v.q, dbl 3 RI t66.r0 l_7.rs⟩, ⟨77, RSt.enc t35.r0.strips, l_1.1.sp, l_1.1.q, []⟩, ⟨37, RSp.enc t35.r0.carried, l_1.2.1.sp, l_1.2.1.q, []⟩]) ?_ ?_
               ·replace hm := h88
                refine g_block ?_
                refine g_loopF (ι := Unit) hm (fun s_4 l_20 => True) (fun s_4 l_20 => [(6, ptr b 0), (7, slv l_1.2.2.v.q l_1.2.2.v.n l_1.2.2.v.cap), (8, slv l_3.q l_3.n l_3.cap), (10, ptr l_5 0), (12, slv l_7.v.q l_7.v.n l_7.v.cap), (24, .int .i64 s_3), (25, ptr b_3 0), (26, .int .i64 s_4.n26), (58, .int .i64 s.t58), (176, slv l_1.1.q l_1.1.n l_1.1.cap), (177, .int .i64 (t35.r0.strips.length : Int)), (178, .int .i64 s_3), (183, slv l_7.v.q l_7.v.n l_7.v.cap), (184, .int .i64 (t66.r0.length : Int)), (185, .int .i64 s_4.t185)]) (fun s_4 l_20 => [(b_3, .cells #[.int .i64 t181.tenant, .int .i64 t181.lay.lo, .int .i64 t181.lay.hi, .int .i64 t181.seeded.lo, .int .i64 t181.seeded.hi, .int .i64 t181.left.lo, .int .i64 t181.left.hi] 77 (0, 0)), (l_5, .cells #[.slice qa1 na1 ca1, .int .i64 t66.b0_1, .int .u32 t66.b0_2] 105 (0, 0)), (b, .cells #[slv l_1.1.q l_1.1.n l_1.1.cap, slv l_1.2.1.q l_1.2.1.n l_1.2.1.cap] 28 (0, 0)), (l, .cells #[.slice qa0 na0 ca0, .int .i64 t35.b0_1, .int .u32 t35.b0_2] 105 (0, 0))]) (fun s_4 l_20 => [⟨32, RwH.enc l_1.2.2.rs, l_1.2.2.v.sp, l_1.2.2.v.q, dbl 3 RI t35.r1 l_1.2.2.rs⟩, ⟨91, RI.enc t43.r0, l_3.sp, l_3.q, []⟩, ⟨32, RwH.enc l_7.rs, l_7.v.sp, l_7.v.q, dbl 3 RI t66.r0 l_7.rs⟩, ⟨77, RSt.enc t35.r0.strips, l_1.1.sp, l_1.1.q, []⟩, ⟨37, RSp.enc t35.r0.carried, l_1.2.1.sp, l_1.2.1.q, []⟩]) () (trivial) (sE rfl) (fun w hh => hh) (fun s_4 l_20 r_5 hpl hm h90 => ?_)
                unfold m_l_StripTold_L4 at hm
                refine g_sr (g_ls rfl rfl rfl (g_nt (g_seq ?_)))
                refine g_cond rfl (fun h91 => ?_) (fun h91 => ?_)
                ·replace hm := ifD h91 hm
                 refine g_skip (g_n_then (g_seq ?_))
                 obtain ⟨o_10, h92, h93⟩ := bindO hm
                 refine g_cut (ι := Unit) (fun l_21 => True) (fun l_21 => [(6, ptr b 0), (7, slv l_1.2.2.v.q l_1.2.2.v.n l_1.2.2.v.cap), (8, slv l_3.q l_3.n l_3.cap), (10, ptr l_5 0), (12, slv l_7.v.q l_7.v.n l_7.v.cap), (24, .int .i64 s_3), (25, ptr b_3 0), (26, .int .i64 o_10), (58, .int .i64 s.t58), (176, slv l_1.1.q l_1.1.n l_1.1.cap), (177, .int .i64 (t35.r0.strips.length : Int)), (178, .int .i64 s_3), (183, slv l_7.v.q l_7.v.n l_7.v.cap), (184, .int .i64 (t66.r0.length : Int)), (185, .int .i64 s_4.t185)]) (fun l_21 => [(b_3, .cells #[.int .i64 t181.tenant, .int .i64 t181.lay.lo, .int .i64 t181.lay.hi, .int .i64 t181.seeded.lo, .int .i64 t181.seeded.hi, .int .i64 t181.left.lo, .int .i64 t181.left.hi] 77 (0, 0)), (l_5, .cells #[.slice qa1 na1 ca1, .int .i64 t66.b0_1, .int .u32 t66.b0_2] 105 (0, 0)), (b, .cells #[slv l_1.1.q l_1.1.n l_1.1.cap, slv l_1.2.1.q l_1.2.1.n l_1.2.1.cap] 28 (0, 0)), (l, .cells #[.slice qa0 na0 ca0, .int .i64 t35.b0_1, .int .u32 t35.b0_2] 105 (0, 0))]) (fun l_21 => [⟨32, RwH.enc l_1.2.2.rs, l_1.2.2.v.sp, l_1.2.2.v.q, dbl 3 RI t35.r1 l_1.2.2.rs⟩, ⟨91, RI.enc t43.r0, l_3.sp, l_3.q, []⟩, ⟨32, RwH.enc l_7.rs, l_7.v.sp, l_7.v.q, dbl 3 RI t66.r0 l_7.rs⟩, ⟨77, RSt.enc t35.r0.strips, l_1.1.sp, l_1.1.q, []⟩, ⟨37, RSp.enc t35.r0.carried, l_1.2.1.sp, l_1.2.1.q, []⟩]) ?_ ?_
                 ·replace hm := h92
                  refine g_block (g_sr (g_mv rfl rfl ?_))
                  obtain ⟨t188, h94, hm⟩ := bindO hm
                  obtain ⟨L_1, h95, h96⟩ := (h32).row h94
                  refine g_val rfl rfl rfl (fun w _ => v_ixA h95 (Try.runUnderlying29 w) (Try.sizeOf32 w) rfl rfl (vlen RwH h31 rfl) (vne h31)) (g_val rfl rfl rfl (fun w hh => v_ldE RwH 0 h95 (Try.isAgg32 w) rfl (hh.vseg 2 rfl h31) rfl (Nat.add_zero _).symm) (g_as rfl rfl (g_as rfl rfl (g_nx (g_mv rfl rfl (g_fa 0 Try.runUnderlying77 rfl Try.sizeOf3 rfl rfl (g_lc 0 Try.isAgg3 rfl rfl rfl rfl ?_)))))))
                  refine g_val rfl rfl rfl (fun _ _ => v_neq rfl rfl) (g_nt ?_)
                  refine g_cond rfl (fun h97 => ?_) (fun h97 => ?_)
                  ·replace hm := ifF (of_ndec_true h97) hm
                   refine g_region (g_mv rfl rfl (g_mv rfl rfl (g_mv rfl rfl ?_)))
                   obtain ⟨t197, h98, hm⟩ := bindO hm
                   refine g_val rfl rfl rfl (fun w _ => v_ixA h98 (Try.runUnderlying32 w) (Try.sizeOf3 w) rfl rfl (vlen RI h96 rfl) (vne h96)) (g_val rfl rfl rfl (fun w hh => v_ldE RI 0 h98 (Try.isAgg3 w) rfl (hh.dseg 2 rfl h94 h95 h96) rfl (Nat.add_zero _).symm) ?_)
                   obtain ⟨t199, h99, hm⟩ := bindO hm
                   refine g_ac h99 rfl rfl rfl (g_as rfl rfl (g_nil (g_n_blk ?_)))
                   obtain rfl := sj hm
                   exact g_leaf () (trivial) (sE rfl) (fun w hh => hh)
                  ·replace hm := ifT (of_ndec_false h97) hm
                   refine g_skip (g_n_blk ?_)
                   obtain rfl := sj hm
                   exact g_leaf () (trivial) (sE rfl) (fun w hh => hh)
                 ·intro l_21 hj
                  replace hm := h93
                  refine g_n_then (g_region ?_)
                  obtain ⟨t200, h100, hm⟩ := bindO hm
                  refine g_ac h100 rfl rfl rfl (g_mv rfl rfl (g_nil ?_))
                  obtain rfl := sj hm
                  refine g_n_then ?_
                  exact g_again' _ () rfl (trivial) (sE rfl) (fun w hh => hh)
                ·replace hm := ifE h91 hm
                 refine g_exit (g_x_then (g_x_then (g_x_blk ?_)))
                 obtain rfl := sj hm
                 have hbo := h90 _ rfl
                 subst hbo
                 exact g_leaf () (trivial) (sE rfl) (fun w hh => hh)
               ·intro l_19 hj
                replace hm := h89
                refine g_n_then (g_sr (g_la [_, _] 2 Try.isAgg28 Try.sizeOf28 rfl rfl rfl rfl (g_mv rfl rfl ?_)))
                obtain ⟨t204, h101, hm⟩ := bindO hm
                refine g_callH [] [] rfl rfl rfl rfl rfl rfl rfl Try.call47 (fun w hh => c_s_Missed t35.r0 s_3 (qA l_1.1.q) l_1.1.n l_1.1.cap (qA l_1.2.1.q) l_1.2.1.n l_1.2.1.cap w (HV.callee (S0 := []) (vs0 := []) hh (roC (hh.vsepA 3 rfl h5) (roC (hh.vsepA 4 rfl h6) roN))) (vlen RSt h5 rfl) (AOK.q (vne h5)) (h5).hle (vlen RSp h6 rfl) (AOK.q (vne h6)) (h6).hle h101) (fun l_22 h102 => ?_)
                refine g_mv rfl rfl (g_xt rfl rfl rfl (g_xt rfl rfl rfl ?_))
                refine g_allocV (fun w => Try.zeroValue37 w) rfl (fun b_4 h103 => ?_)
                refine g_stSA (us := #[_, _]) (cs' := [_, _]) (S' := [_, _, _, _, _]) 0 (fun w => Try.sizeOf37 w) rfl rfl rfl rfl rfl rfl rfl (g_as rfl rfl (g_nt (g_seq ?_)))
                obtain ⟨o_11, h104, h105⟩ := bindO hm
                refine g_cut (ι := Unit) (fun l_23 => True) (fun l_23 => [(6, ptr b 0), (7, slv l_1.2.2.v.q l_1.2.2.v.n l_1.2.2.v.cap), (8, slv l_3.q l_3.n l_3.cap), (10, ptr l_5 0), (12, slv l_7.v.q l_7.v.n l_7.v.cap), (58, .int .i64 s.t58), (176, slv l_1.1.q l_1.1.n l_1.1.cap), (177, .int .i64 (t35.r0.strips.length : Int)), (178, .int .i64 s_3), (220, .bool o_11)]) (fun l_23 => [(b_4, .cells #[.int .i64 t204.r0.lo, .int .i64 t204.r0.hi] 37 (0, 0)), (b_3, .cells #[.int .i64 t181.tenant, .int .i64 t181.lay.lo, .int .i64 t181.lay.hi, .int .i64 t181.seeded.lo, .int .i64 t181.seeded.hi, .int .i64 t181.left.lo, .int .i64 t181.left.hi] 77 (0, 0)), (l_5, .cells #[.slice qa1 na1 ca1, .int .i64 t66.b0_1, .int .u32 t66.b0_2] 105 (0, 0)), (b, .cells #[slv l_1.1.q l_1.1.n l_1.1.cap, slv l_1.2.1.q l_1.2.1.n l_1.2.1.cap] 28 (0, 0)), (l, .cells #[.slice qa0 na0 ca0, .int .i64 t35.b0_1, .int .u32 t35.b0_2] 105 (0, 0))]) (fun l_23 => [⟨32, RwH.enc l_1.2.2.rs, l_1.2.2.v.sp, l_1.2.2.v.q, dbl 3 RI t35.r1 l_1.2.2.rs⟩, ⟨91, RI.enc t43.r0, l_3.sp, l_3.q, []⟩, ⟨32, RwH.enc l_7.rs, l_7.v.sp, l_7.v.q, dbl 3 RI t66.r0 l_7.rs⟩, ⟨77, RSt.enc t35.r0.strips, l_1.1.sp, l_1.1.q, []⟩, ⟨37, RSp.enc t35.r0.carried, l_1.2.1.sp, l_1.2.1.q, []⟩]) ?_ ?_
                ·replace hm := h104
                 refine g_region (g_mv rfl rfl (g_val rfl rfl rfl (fun _ _ => v_neq rfl rfl) (g_mv rfl rfl ?_)))
                 refine g_case 209 rfl (fun h106 => ?_) (fun h106 => ?_)
                 ·replace hm := ifF (of_ndec_true h106) hm
                  refine g_k rfl rfl rfl rfl (g_k rfl rfl rfl rfl (g_k rfl rfl rfl rfl (g_k rfl rfl rfl rfl (g_pt rfl rfl rfl (g_mv rfl rfl (g_k rfl rfl rfl rfl (g_k rfl rfl rfl rfl ?_)))))))
                  refine g_k rfl rfl rfl rfl (g_k rfl rfl rfl rfl (g_pt rfl rfl rfl (g_nil ?_)))
                  obtain rfl := sj hm
                  exact g_leaf () (trivial) (sE rfl) (fun w hh => hh)
                 ·replace hm := ifT (of_ndec_false h106) hm
                  refine v_unguard rfl rfl (g_mv rfl rfl (v_unguard rfl rfl (g_fa 0 Try.runUnderlying37 rfl Try.sizeOf3 rfl rfl (v_unguard rfl rfl (g_lc 0 Try.isAgg3 rfl rfl rfl rfl (v_unguard rfl rfl (g_ls rfl rfl rfl ?_)))))))
                  refine g_pf rfl rfl rfl (g_mv rfl rfl ?_)
                  refine g_case 215 rfl (fun h107 => ?_) (fun h107 => ?_)
                  ·replace hm := ifD h107 hm
                   refine g_k rfl rfl rfl rfl (g_k rfl rfl rfl rfl (g_k rfl rfl rfl rfl (g_k rfl rfl rfl rfl (g_pt rfl rfl rfl (g_nil ?_)))))
                   obtain rfl := sj hm
                   exact g_leaf () (trivial) (sE rfl) (fun w hh => hh)
                  ·replace hm := ifE h107 hm
                   refine v_unguard rfl rfl (g_mv rfl rfl (v_unguard rfl rfl (g_fa 1 Try.runUnderlying37 rfl Try.sizeOf3 rfl rfl (v_unguard rfl rfl (g_lc 0 Try.isAgg3 rfl rfl rfl rfl (v_unguard rfl rfl (g_val rfl rfl rfl (fun _ _ => v_gtr rfl rfl) ?_)))))))
                   refine g_pf rfl rfl rfl (g_nil ?_)
                   obtain rfl := sj hm
                   exact g_leaf () (trivial) (sE rfl) (fun w hh => hh)
                ·intro l_23 hj
                 replace hm := h105
                 refine g_n_then ?_
                 refine g_cond rfl (fun h108 => ?_) (fun h108 => ?_)
                 ·replace hm := ifT (h108) hm
                  refine g_sr (g_as rfl rfl (g_nt (g_ret (g_r_blk (g_r_then (g_r_then (g_r_blk ?_)))))))
                  obtain rfl := sj hm
                  have hbo := h84 _ rfl
                  subst hbo
                  refine g_r_then ?_
                  replace hm := ocR h83
                  refine g_r_blk ?_
                  obtain rfl := sj hm
                  refine g_r_then ?_
                  replace hm := ocR h27
                  refine g_r_then (g_r_then (g_r_blk ?_))
                  obtain rfl := sj hm
                  have hbo := h24 _ rfl
                  subst hbo
                  refine g_r_then ?_
                  replace hm := ocR h23
                  refine g_r_then ?_
                  obtain rfl := sj hm
                  refine g_done rfl (fun w hh => (.tmp rfl .nil)) (fun w hh => ⟨(), rfl, trivial, hh.se [] [] 2 rfl rfl rfl rfl⟩)
                 ·replace hm := ifN h108 hm
                  refine g_skip (g_n_blk (g_n_then (g_region ?_)))
                  obtain ⟨t221, h109, hm⟩ := bindO hm
                  refine g_ac h109 rfl rfl rfl (g_mv rfl rfl (g_nil ?_))
                  obtain rfl := sj hm
                  refine g_n_then ?_
                  exact g_again' _ () rfl (trivial) (sE rfl) (hsE [2, 3, 4] [0, 1, 2, 3, 4] 0 rfl rfl rfl rfl)
              ·replace hm := ifE h85 hm
               refine g_exit (g_x_then (g_x_then (g_x_blk ?_)))
               obtain rfl := sj hm
               have hbo := h84 _ rfl
               subst hbo
               exact g_leaf () (rfl) (sE rfl) (hsE [0, 1, 2] [0, 1, 3, 4] 0 rfl rfl rfl rfl)
             ·intro j_4 hj
              have h110 := hj
              subst h110
              replace hm := ocL h83
              refine g_n_blk ?_
              obtain rfl := sj hm
              exact g_leaf (⟨t66.b0_1, t66.b0_2⟩ : m_l_StripTold_C2) (rfl) (sE rfl) (fun w hh => hh)
        ·replace hm := ifE h28 hm
         refine g_skip (g_n_then (g_sr (g_la [_, _] 1 Try.isAgg28 Try.sizeOf28 rfl rfl rfl rfl (g_mv rfl rfl ?_))))
         obtain ⟨t70_1, h111, hm⟩ := bindO hm
         refine g_callH [] [] rfl rfl rfl rfl rfl rfl rfl Try.call50 (fun w hh => c_s_Fits t35.r0 t35.r1 (qA l_1.1.q) l_1.1.n l_1.1.cap (qA l_1.2.1.q) l_1.2.1.n l_1.2.1.cap (qA l_1.2.2.v.q) l_1.2.2.v.n l_1.2.2.v.cap (toAL l_1.2.2.rs) w (HV.callee (S0 := []) (vs0 := []) hh (roC (hh.vsepA 2 rfl h5) (roC (hh.vsepA 3 rfl h6) (roC (hh.vsepD 0 rfl h7) roN)))) (vlen RSt h5 rfl) (AOK.q (vne h5)) (h5).hle (vlen RSp h6 rfl) (AOK.q (vne h6)) (h6).hle (Eq.trans (h8).len (vlen RwH h7 rfl)) (AOK.q (vne h7)) (h7).hle ((h8).toDRO rfl) (hh.dsepT 0 rfl h8) h111) (fun l_24 h112 => ?_)
         refine g_mv rfl rfl (g_xt rfl rfl rfl (g_xt rfl rfl rfl (g_as rfl rfl (g_as rfl rfl (g_nt (g_seq (g_seq ?_)))))))
         obtain ⟨o_12, h113, h114⟩ := bindO hm
         refine g_cut (ι := Unit) (fun l_25 => True) (fun l_25 => [(6, ptr b 0), (7, slv l_1.2.2.v.q l_1.2.2.v.n l_1.2.2.v.cap), (8, slv l_3.q l_3.n l_3.cap), (10, ptr l_5 0), (12, slv l_1.2.2.v.q l_1.2.2.v.n l_1.2.2.v.cap), (13, .bool t70_1.r0), (58, .int .i64 s.t58), (89, .bool o_12)]) (fun l_25 => [(l_5, .cells #[.slice qa1 na1 ca1, .int .i64 s.t5_1, .int .u32 s.t5_2] 105 (0, 0)), (b, .cells #[slv l_1.1.q l_1.1.n l_1.1.cap, slv l_1.2.1.q l_1.2.1.n l_1.2.1.cap] 28 (0, 0)), (l, .cells #[.slice qa0 na0 ca0, .int .i64 t35.b0_1, .int .u32 t35.b0_2] 105 (0, 0))]) (fun l_25 => [⟨32, RwH.enc l_1.2.2.rs, l_1.2.2.v.sp, l_1.2.2.v.q, dbl 3 RI t35.r1 l_1.2.2.rs⟩, ⟨91, RI.enc t43.r0, l_3.sp, l_3.q, []⟩, ⟨77, RSt.enc t35.r0.strips, l_1.1.sp, l_1.1.q, []⟩, ⟨37, RSp.enc t35.r0.carried, l_1.2.1.sp, l_1.2.1.q, []⟩]) ?_ ?_
         ·replace hm := h113
          refine g_region (g_mv rfl rfl (g_val rfl rfl rfl (fun _ _ => v_neq rfl rfl) (g_mv rfl rfl ?_)))
          refine g_case 75 rfl (fun h115 => ?_) (fun h115 => ?_)
          ·replace hm := ifF (of_ndec_true h115) hm
           refine g_k rfl rfl rfl rfl (g_k rfl rfl rfl rfl (g_k rfl rfl rfl rfl (g_k rfl rfl rfl rfl (g_k rfl rfl rfl rfl (g_pt rfl rfl rfl (g_mv rfl rfl (g_k rfl rfl rfl rfl ?_)))))))
           refine g_k rfl rfl rfl rfl (g_k rfl rfl rfl rfl ?_)
           refine g_skipU' rfl rfl rfl rfl rfl ?_
           refine g_skipU' rfl rfl rfl rfl rfl ?_
           refine g_k rfl rfl rfl rfl (g_pt rfl rfl rfl (g_nil ?_))
           obtain rfl := sj hm
           exact g_leaf () (trivial) (sE rfl) (fun w hh => hh)
          ·replace hm := ifT (of_ndec_false h115) hm
           refine v_unguard rfl rfl (g_mv rfl rfl (v_unguard rfl rfl (g_la [_, _] 1 Try.isAgg28 Try.sizeOf28 rfl rfl rfl rfl (v_unguard rfl rfl (g_mv rfl rfl (v_unguard rfl rfl ?_))))))
           obtain ⟨t79_1, h116, hm⟩ := bindO hm
           refine g_callH [] [] rfl rfl rfl rfl rfl rfl rfl Try.call16 (fun w hh => c_l_fits t35.r0 t35.r1 (qA l_1.1.q) l_1.1.n l_1.1.cap (qA l_1.2.1.q) l_1.2.1.n l_1.2.1.cap (qA l_1.2.2.v.q) l_1.2.2.v.n l_1.2.2.v.cap (toAL l_1.2.2.rs) w (HV.callee (S0 := []) (vs0 := []) hh (roC (hh.vsepA 2 rfl h5) (roC (hh.vsepA 3 rfl h6) (roC (hh.vsepD 0 rfl h7) roN)))) (vlen RSt h5 rfl) (AOK.q (vne h5)) (h5).hle (vlen RSp h6 rfl) (AOK.q (vne h6)) (h6).hle (Eq.trans (h8).len (vlen RwH h7 rfl)) (AOK.q (vne h7)) (h7).hle ((h8).toDRO rfl) (hh.dsepT 0 rfl h8) h116) (fun l_26 h117 => ?_)
           refine v_unguard rfl rfl (g_val rfl rfl rfl (fun w _ => v_neqBool (Try.runUnderlying4 w) rfl rfl) (g_pf rfl rfl rfl (g_mv rfl rfl ?_)))
           refine g_case 82 rfl (fun h118 => ?_) (fun h118 => ?_)
           ·replace hm := ifT (h118) hm
            refine g_k rfl rfl rfl rfl (g_k rfl rfl rfl rfl (g_k rfl rfl rfl rfl ?_))
            refine g_skipU' rfl rfl rfl rfl rfl ?_
            refine g_skipU' rfl rfl rfl rfl rfl ?_
            refine g_k rfl rfl rfl rfl (g_pt rfl rfl rfl (g_nil ?_))
            obtain rfl := sj hm
            exact g_leaf () (trivial) (sE rfl) (fun w hh => hh)
           ·replace hm := ifN h118 hm
            refine v_unguard rfl rfl (g_mv rfl rfl (v_unguard rfl rfl (g_val rfl rfl rfl (fun _ _ => v_eql rfl rfl) (v_unguard rfl rfl (g_mv rfl rfl ?_)))))
            refine g_case 85 rfl (fun h119 => ?_) (fun h119 => ?_)
            ·replace hm := ifD h119 hm
             refine v_unguard rfl rfl (g_mv rfl rfl (v_unguard rfl rfl (g_val rfl rfl rfl (fun _ _ => v_not rfl) (v_unguard rfl rfl (g_pt rfl rfl rfl (g_pf rfl rfl rfl (g_nil ?_)))))))
             obtain rfl := sj hm
             exact g_leaf () (trivial) (sE rfl) (fun w hh => hh)
            ·replace hm := ifE h119 hm
             refine g_k rfl rfl rfl rfl (g_k rfl rfl rfl rfl (v_unguard rfl rfl (g_pf rfl rfl rfl (g_pf rfl rfl rfl (g_nil ?_)))))
             obtain rfl := sj hm
             exact g_leaf () (trivial) (sE rfl) (fun w hh => hh)
         ·intro l_25 hj
          replace hm := h114
          refine g_n_then ?_
          refine g_cond rfl (fun h120 => ?_) (fun h120 => ?_)
          ·replace hm := ifT (h120) hm
           refine g_sr (g_as rfl rfl (g_nt (g_ret (g_r_then (g_r_blk ?_)))))
           obtain rfl := sj hm
           refine g_r_then ?_
           replace hm := ocR h27
           refine g_r_then (g_r_then (g_r_blk ?_))
           obtain rfl := sj hm
           have hbo := h24 _ rfl
           subst hbo
           refine g_r_then ?_
           replace hm := ocR h23
           refine g_r_then ?_
           obtain rfl := sj hm
           refine g_done rfl (fun w hh => (.tmp rfl .nil)) (fun w hh => ⟨(), rfl, trivial, hh.se [] [] 2 rfl rfl rfl rfl⟩)
          ·replace hm := ifN h120 hm
           refine g_skip (g_n_then (g_seq (g_sr (g_mv rfl rfl (g_val rfl rfl rfl (fun _ _ => v_not rfl) (g_nt ?_))))))
           refine g_cond rfl (fun h121 => ?_) (fun h121 => ?_)
           ·replace hm := ifT (h121) hm
            refine g_exit (g_x_then (g_x_blk ?_))
            obtain rfl := sj hm
            exact g_leaf (⟨s.t5_1, s.t5_2⟩ : m_l_StripTold_C2) (rfl) (sE rfl) (fun w hh => hh)
           ·replace hm := ifN h121 hm
            refine g_skip (g_n_then (g_seq (g_sr (g_mv rfl rfl (g_val rfl rfl rfl (fun w _ => v_lenN (Eq.trans (h8).len (vlen RwH h7 rfl)) (Try.runUnderlying29 w) rfl) (g_mv rfl rfl (g_nt ?_)))))))
            obtain ⟨o_13, h122, h123⟩ := bindO hm
            refine g_cut (ι := Unit) (fun j_5 => o_13 = .inl j_5) (fun j_5 => [(6, ptr b 0), (7, slv l_1.2.2.v.q l_1.2.2.v.n l_1.2.2.v.cap), (8, slv l_3.q l_3.n l_3.cap), (10, ptr l_5 0), (12, slv l_1.2.2.v.q l_1.2.2.v.n l_1.2.2.v.cap), (58, .int .i64 s.t58)]) (fun j_5 => [(l_5, .cells #[.slice qa1 na1 ca1, .int .i64 s.t5_1, .int .u32 s.t5_2] 105 (0, 0)), (b, .cells #[slv l_1.1.q l_1.1.n l_1.1.cap, slv l_1.2.1.q l_1.2.1.n l_1.2.1.cap] 28 (0, 0)), (l, .cells #[.slice qa0 na0 ca0, .int .i64 t35.b0_1, .int .u32 t35.b0_2] 105 (0, 0))]) (fun j_5 => [⟨32, RwH.enc l_1.2.2.rs, l_1.2.2.v.sp, l_1.2.2.v.q, dbl 3 RI t35.r1 l_1.2.2.rs⟩, ⟨91, RI.enc t43.r0, l_3.sp, l_3.q, []⟩, ⟨77, RSt.enc t35.r0.strips, l_1.1.sp, l_1.1.q, []⟩, ⟨37, RSp.enc t35.r0.carried, l_1.2.1.sp, l_1.2.1.q, []⟩]) ?_ ?_
            ·replace hm := h122
             refine g_block ?_
             refine g_loopF (ι := Unit) hm (fun s_5 l_27 => True) (fun s_5 l_27 => [(6, ptr b 0), (7, slv l_1.2.2.v.q l_1.2.2.v.n l_1.2.2.v.cap), (8, slv l_3.q l_3.n l_3.cap), (10, ptr l_5 0), (12, slv l_1.2.2.v.q l_1.2.2.v.n l_1.2.2.v.cap), (58, .int .i64 s.t58), (92, slv l_1.2.2.v.q l_1.2.2.v.n l_1.2.2.v.cap), (93, .int .i64 (t35.r1.length : Int)), (94, .int .i64 s_5)]) (fun s_5 l_27 => [(l_5, .cells #[.slice qa1 na1 ca1, .int .i64 s.t5_1, .int .u32 s.t5_2] 105 (0, 0)), (b, .cells #[slv l_1.1.q l_1.1.n l_1.1.cap, slv l_1.2.1.q l_1.2.1.n l_1.2.1.cap] 28 (0, 0)), (l, .cells #[.slice qa0 na0 ca0, .int .i64 t35.b0_1, .int .u32 t35.b0_2] 105 (0, 0))]) (fun s_5 l_27 => [⟨32, RwH.enc l_1.2.2.rs, l_1.2.2.v.sp, l_1.2.2.v.q, dbl 3 RI t35.r1 l_1.2.2.rs⟩, ⟨91, RI.enc t43.r0, l_3.sp, l_3.q, []⟩, ⟨77, RSt.enc t35.r0.strips, l_1.1.sp, l_1.1.q, []⟩, ⟨37, RSp.enc t35.r0.carried, l_1.2.1.sp, l_1.2.1.q, []⟩]) () (trivial) (sE rfl) (fun w hh => hh) (fun s_5 l_27 r_8 hpl hm h124 => ?_)
             unfold m_l_StripTold_L5 at hm
             refine g_sr (g_ls rfl rfl rfl (g_nt (g_seq ?_)))
             refine g_cond rfl (fun h125 => ?_) (fun h125 => ?_)
             ·replace hm := ifD h125 hm
              refine g_skip (g_n_then (g_seq (g_block (g_sr (g_mv rfl rfl ?_)))))
              obtain ⟨t97_1, h126, hm⟩ := bindO hm
              obtain ⟨L_2, h127, h128⟩ := (h8).row h126
              refine g_val rfl rfl rfl (fun w _ => v_ixA h127 (Try.runUnderlying29 w) (Try.sizeOf32 w) rfl rfl (vlen RwH h7 rfl) (vne h7)) (g_val rfl rfl rfl (fun w hh => v_ldE RwH 0 h127 (Try.isAgg32 w) rfl (hh.vseg 0 rfl h7) rfl (Nat.add_zero _).symm) (g_as rfl rfl (g_as rfl rfl (g_nx (g_la [_, _] 1 Try.isAgg28 Try.sizeOf28 rfl rfl rfl rfl (g_mv rfl rfl (g_mv rfl rfl ?_)))))))
              obtain ⟨t102_1, h129, hm⟩ := bindO hm
              refine g_callH [] [] rfl rfl rfl rfl rfl rfl rfl Try.call41 (fun w hh => c_l_stolen t35.r0 t35.r1 s_5 (qA l_1.1.q) l_1.1.n l_1.1.cap (qA l_1.2.1.q) l_1.2.1.n l_1.2.1.cap (qA l_1.2.2.v.q) l_1.2.2.v.n l_1.2.2.v.cap (toAL l_1.2.2.rs) w (HV.callee (S0 := []) (vs0 := []) hh (roC (hh.vsepA 2 rfl h5) (roC (hh.vsepA 3 rfl h6) (roC (hh.vsepD 0 rfl h7) roN)))) (vlen RSt h5 rfl) (AOK.q (vne h5)) (h5).hle (vlen RSp h6 rfl) (AOK.q (vne h6)) (h6).hle (Eq.trans (h8).len (vlen RwH h7 rfl)) (AOK.q (vne h7)) (h7).hle ((h8).toDRO rfl) (hh.dsepT 0 rfl h8) h129) (fun l_28 h130 => ?_)
              refine g_as rfl rfl (g_nx (g_la [_, _] 1 Try.isAgg28 Try.sizeOf28 rfl rfl rfl rfl (g_mv rfl rfl ?_)))
              obtain ⟨t106_1, h131, hm⟩ := bindO hm
              refine g_callH [] [] rfl rfl rfl rfl rfl rfl rfl Try.call38 (fun w hh => c_s_Stolen t35.r0 s_5 (qA l_1.1.q) l_1.1.n l_1.1.cap (qA l_1.2.1.q) l_1.2.1.n l_1.2.1.cap w (HV.callee (S0 := []) (vs0 := []) hh (roC (hh.vsepA 2 rfl h5) (roC (hh.vsepA 3 rfl h6) roN))) (vlen RSt h5 rfl) (AOK.q (vne h5)) (h5).hle (vlen RSp h6 rfl) (AOK.q (vne h6)) (h6).hle h131) (fun l_29 h132 => ?_)
              refine g_mv rfl rfl (g_xt rfl rfl rfl (g_xt rfl rfl rfl ?_))
              refine g_allocV (fun w => Try.zeroValue37 w) rfl (fun b_5 h133 => ?_)
              refine g_stSA (us := #[_, _]) (cs' := [_, _]) (S' := [_, _, _, _]) 0 (fun w => Try.sizeOf37 w) rfl rfl rfl rfl rfl rfl rfl (g_as rfl rfl (g_nt (g_seq (g_seq ?_))))
              obtain ⟨o_14, h134, h135⟩ := bindO hm
              refine g_cut (ι := Unit) (fun l_30 => True) (fun l_30 => [(6, ptr b 0), (7, slv l_1.2.2.v.q l_1.2.2.v.n l_1.2.2.v.cap), (8, slv l_3.q l_3.n l_3.cap), (10, ptr l_5 0), (12, slv l_1.2.2.v.q l_1.2.2.v.n l_1.2.2.v.cap), (15, .int .i64 s_5), (16, slv L_2.q L_2.n L_2.cap), (58, .int .i64 s.t58), (92, slv l_1.2.2.v.q l_1.2.2.v.n l_1.2.2.v.cap), (93, .int .i64 (t35.r1.length : Int)), (94, .int .i64 s_5), (144, .bool o_14)]) (fun l_30 => [(b_5, .cells #[.int .i64 t106_1.r0.lo, .int .i64 t106_1.r0.hi] 37 (0, 0)), (l_5, .cells #[.slice qa1 na1 ca1, .int .i64 s.t5_1, .int .u32 s.t5_2] 105 (0, 0)), (b, .cells #[slv l_1.1.q l_1.1.n l_1.1.cap, slv l_1.2.1.q l_1.2.1.n l_1.2.1.cap] 28 (0, 0)), (l, .cells #[.slice qa0 na0 ca0, .int .i64 t35.b0_1, .int .u32 t35.b0_2] 105 (0, 0))]) (fun l_30 => [⟨32, RwH.enc l_1.2.2.rs, l_1.2.2.v.sp, l_1.2.2.v.q, dbl 3 RI t35.r1 l_1.2.2.rs⟩, ⟨91, RI.enc t43.r0, l_3.sp, l_3.q, []⟩, ⟨77, RSt.enc t35.r0.strips, l_1.1.sp, l_1.1.q, []⟩, ⟨37, RSp.enc t35.r0.carried, l_1.2.1.sp, l_1.2.1.q, []⟩]) ?_ ?_
              ·replace hm := h134
               refine g_draw none (.free 0 (.free 1 (.free 2 (.free 3 (.free 4 (.hoist 5 (.free 6 (.free 7 (.free 8 (.free 9 (.free 10 (.hoist 11 (.free 12 (.free 13 (.free 14 (.free 15 (.free 16 (.free 17 (.hoist 18 (.free 19 (.free 20 (.hoist 21 (.free 22 (.free 23 (.free 24 (.free 25 (.free 26 (.free 27 (.free 28 (.hoist 29 (.free 30 (.free 31 (.hoist 32 (.free 33 (.free 34 (.free 35 .done)))))))))))))))))))))))))))))))))))) _ rfl (by decide +kernel) (fun w k hh => hh.draw k) (fun w hh => hh) ?_
               refine p_mv rfl rfl rfl (p_free rfl rfl rfl rfl (fun _ _ => v_neq rfl rfl) (p_mv rfl rfl rfl ?_))
               refine g_case 111 rfl (fun h136 => ?_) (fun h136 => ?_)
               ·replace hm := ifF (of_ndec_true h136) hm
                refine p_skipF rfl rfl rfl rfl rfl rfl rfl (p_skipF rfl rfl rfl rfl rfl rfl rfl (p_skip rfl rfl rfl rfl rfl rfl rfl (p_skipF rfl rfl rfl rfl rfl rfl rfl (p_free rfl rfl rfl rfl (fun _ _ => v_pickT rfl rfl) (p_mv rfl rfl rfl (p_skipF rfl rfl rfl rfl rfl rfl rfl (p_skipF rfl rfl rfl rfl rfl rfl rfl ?_)))))))
                refine p_skip rfl rfl rfl rfl rfl rfl rfl (p_skipF rfl rfl rfl rfl rfl rfl rfl (p_free rfl rfl rfl rfl (fun _ _ => v_pickT rfl rfl) (p_mv rfl rfl rfl (p_skipF rfl rfl rfl rfl rfl rfl rfl (p_skipF rfl rfl rfl rfl rfl rfl rfl (p_skipF rfl rfl rfl rfl rfl rfl rfl (p_skip rfl rfl rfl rfl rfl rfl rfl ?_)))))))
                refine p_skipF rfl rfl rfl rfl rfl rfl rfl (p_skipF rfl rfl rfl rfl rfl rfl rfl (p_skip rfl rfl rfl rfl rfl rfl rfl (p_skipF rfl rfl rfl rfl rfl rfl rfl (p_skipF rfl rfl rfl rfl rfl rfl rfl (p_free rfl rfl rfl rfl (fun _ _ => v_pickT rfl rfl) (p_mv rfl rfl rfl (p_skipF rfl rfl rfl rfl rfl rfl rfl ?_)))))))
                refine p_skipF rfl rfl rfl rfl rfl rfl rfl (p_skipF rfl rfl rfl rfl rfl rfl rfl (p_skip rfl rfl rfl rfl rfl rfl rfl (p_skipF rfl rfl rfl rfl rfl rfl rfl (p_skipF rfl rfl rfl rfl rfl rfl rfl (p_skip rfl rfl rfl rfl rfl rfl rfl (p_skipF rfl rfl rfl rfl rfl rfl rfl (p_skipF rfl rfl rfl rfl rfl rfl rfl ?_)))))))
                refine p_free rfl rfl rfl rfl (fun _ _ => v_pickT rfl rfl) (p_done ?_)
                obtain rfl := sj hm
                exact g_leaf () (trivial) (sE rfl) (fun w hh => hh)
               ·replace hm := ifT (of_ndec_false h136) hm
                refine p_freeG rfl rfl rfl rfl rfl rfl (fun _ _ => v_move rfl) (p_freeG rfl rfl rfl rfl rfl rfl (fun w _ => v_fieldAddr 0 (Try.runUnderlying37 w) rfl (Try.sizeOf3 w) rfl) (p_hoistG rfl rfl rfl rfl rfl rfl (fun w hh => v_load (Try.isAgg3 w) rfl (hh.cell 0 rfl rfl)) (p_freeG rfl rfl rfl rfl rfl rfl (fun _ _ => v_lss rfl rfl) (p_free rfl rfl rfl rfl (fun _ _ => v_pickF rfl rfl) (p_mv rfl rfl rfl ?_)))))
                refine g_case 117 rfl (fun h137 => ?_) (fun h137 => ?_)
                ·replace hm := ifD h137 hm
                 refine p_skipF rfl rfl rfl rfl rfl rfl rfl (p_skipF rfl rfl rfl rfl rfl rfl rfl (p_skip rfl rfl rfl rfl rfl rfl rfl (p_skipF rfl rfl rfl rfl rfl rfl rfl (p_free rfl rfl rfl rfl (fun _ _ => v_pickT rfl rfl) (p_mv rfl rfl rfl (p_skipF rfl rfl rfl rfl rfl rfl rfl (p_skipF rfl rfl rfl rfl rfl rfl rfl ?_)))))))
                 refine p_skipF rfl rfl rfl rfl rfl rfl rfl (p_skip rfl rfl rfl rfl rfl rfl rfl (p_skipF rfl rfl rfl rfl rfl rfl rfl (p_skipF rfl rfl rfl rfl rfl rfl rfl (p_skip rfl rfl rfl rfl rfl rfl rfl (p_skipF rfl rfl rfl rfl rfl rfl rfl (p_skipF rfl rfl rfl rfl rfl rfl rfl (p_free rfl rfl rfl rfl (fun _ _ => v_pickT rfl rfl) ?_)))))))
                 refine p_mv rfl rfl rfl (p_skipF rfl rfl rfl rfl rfl rfl rfl (p_skipF rfl rfl rfl rfl rfl rfl rfl (p_skipF rfl rfl rfl rfl rfl rfl rfl (p_skip rfl rfl rfl rfl rfl rfl rfl (p_skipF rfl rfl rfl rfl rfl rfl rfl (p_skipF rfl rfl rfl rfl rfl rfl rfl (p_skip rfl rfl rfl rfl rfl rfl rfl ?_)))))))
                 refine p_skipF rfl rfl rfl rfl rfl rfl rfl (p_skipF rfl rfl rfl rfl rfl rfl rfl (p_free rfl rfl rfl rfl (fun _ _ => v_pickT rfl rfl) (p_done ?_)))
                 obtain rfl := sj hm
                 exact g_leaf () (trivial) (sE rfl) (fun w hh => hh)
                ·replace hm := ifE h137 hm
                 refine p_freeG rfl rfl rfl rfl rfl rfl (fun _ _ => v_move rfl) (p_freeG rfl rfl rfl rfl rfl rfl (fun w _ => v_fieldAddr 1 (Try.runUnderlying37 w) rfl (Try.sizeOf3 w) rfl) (p_hoistG rfl rfl rfl rfl rfl rfl (fun w hh => v_load (Try.isAgg3 w) rfl (hh.cell 0 rfl rfl)) (p_freeG rfl rfl rfl rfl rfl rfl (fun _ _ => v_gtr rfl rfl) (p_free rfl rfl rfl rfl (fun _ _ => v_pickF rfl rfl) (p_mv rfl rfl rfl ?_)))))
                 refine g_case 123 rfl (fun h138 => ?_) (fun h138 => ?_)
                 ·replace hm := ifD h138 hm
                  refine p_skipF rfl rfl rfl rfl rfl rfl rfl (p_skipF rfl rfl rfl rfl rfl rfl rfl (p_skipF rfl rfl rfl rfl rfl rfl rfl (p_skip rfl rfl rfl rfl rfl rfl rfl (p_skipF rfl rfl rfl rfl rfl rfl rfl (p_skipF rfl rfl rfl rfl rfl rfl rfl (p_skip rfl rfl rfl rfl rfl rfl rfl (p_skipF rfl rfl rfl rfl rfl rfl rfl ?_)))))))
                  refine p_skipF rfl rfl rfl rfl rfl rfl rfl (p_free rfl rfl rfl rfl (fun _ _ => v_pickT rfl rfl) (p_mv rfl rfl rfl (p_skipF rfl rfl rfl rfl rfl rfl rfl (p_skipF rfl rfl rfl rfl rfl rfl rfl (p_skipF rfl rfl rfl rfl rfl rfl rfl (p_skip rfl rfl rfl rfl rfl rfl rfl (p_skipF rfl rfl rfl rfl rfl rfl rfl ?_)))))))
                  refine p_skipF rfl rfl rfl rfl rfl rfl rfl (p_skip rfl rfl rfl rfl rfl rfl rfl (p_skipF rfl rfl rfl rfl rfl rfl rfl (p_skipF rfl rfl rfl rfl rfl rfl rfl (p_free rfl rfl rfl rfl (fun _ _ => v_pickT rfl rfl) (p_done ?_)))))
                  obtain rfl := sj hm
                  exact g_leaf () (trivial) (sE rfl) (fun w hh => hh)
                 ·replace hm := ifE h138 hm
                  refine p_freeG rfl rfl rfl rfl rfl rfl (fun _ _ => v_move rfl) (p_freeG rfl rfl rfl rfl rfl rfl (fun _ _ => v_move rfl) ?_)
                  obtain ⟨t126_1, h139, hm⟩ := bindO hm
                  refine p_freeG rfl rfl rfl rfl rfl rfl (fun w _ => v_ixA h139 (Try.runUnderlying88 w) (Try.sizeOf91 w) rfl rfl (vlen RI h15 rfl) (vne h15)) (p_hoistG rfl rfl rfl rfl rfl rfl (fun w hh => v_ldE RI 0 h139 (Try.isAgg91 w) rfl (hh.vseg 1 rfl h15) rfl (Nat.add_zero _).symm) (p_freeG rfl rfl rfl rfl rfl rfl (fun _ _ => v_eql rfl rfl) (p_freeG rfl rfl rfl rfl rfl rfl (fun w _ => v_fieldAddr 1 (Try.runUnderlying37 w) rfl (Try.sizeOf3 w) rfl) (p_hoistG rfl rfl rfl rfl rfl rfl (fun w hh => v_load (Try.isAgg3 w) rfl (hh.cell 0 rfl rfl)) (p_freeG rfl rfl rfl rfl rfl rfl (fun _ _ => v_eql rfl rfl) (p_freeG rfl rfl rfl rfl rfl rfl (fun w _ => v_neqBool (Try.runUnderlying4 w) rfl rfl) (p_free rfl rfl rfl rfl (fun _ _ => v_pickF rfl rfl) ?_)))))))
                  refine p_mv rfl rfl rfl ?_
                  refine g_case 134 rfl (fun h140 => ?_) (fun h140 => ?_)
                  ·replace hm := ifT (h140) hm
                   refine p_skipF rfl rfl rfl rfl rfl rfl rfl (p_skipF rfl rfl rfl rfl rfl rfl rfl (p_skipF rfl rfl rfl rfl rfl rfl rfl (p_skip rfl rfl rfl rfl rfl rfl rfl (p_skipF rfl rfl rfl rfl rfl rfl rfl (p_skipF rfl rfl rfl rfl rfl rfl rfl (p_skip rfl rfl rfl rfl rfl rfl rfl (p_skipF rfl rfl rfl rfl rfl rfl rfl ?_)))))))
                   refine p_skipF rfl rfl rfl rfl rfl rfl rfl (p_free rfl rfl rfl rfl (fun _ _ => v_pickT rfl rfl) (p_done ?_))
                   obtain rfl := sj hm
                   exact g_leaf () (trivial) (sE rfl) (fun w hh => hh)
                  ·replace hm := ifN h140 hm
                   refine p_freeG rfl rfl rfl rfl rfl rfl (fun _ _ => v_move rfl) (p_freeG rfl rfl rfl rfl rfl rfl (fun _ _ => v_move rfl) ?_)
                   obtain ⟨t137_1, h141, hm⟩ := bindO hm
                   refine p_freeG rfl rfl rfl rfl rfl rfl (fun w _ => v_ixA h141 (Try.runUnderlying88 w) (Try.sizeOf91 w) rfl rfl (vlen RI h15 rfl) (vne h15)) (p_hoistG rfl rfl rfl rfl rfl rfl (fun w hh => v_ldE RI 0 h141 (Try.isAgg91 w) rfl (hh.vseg 1 rfl h15) rfl (Nat.add_zero _).symm) (p_freeG rfl rfl rfl rfl rfl rfl (fun _ _ => v_eql rfl rfl) (p_freeG rfl rfl rfl rfl rfl rfl (fun w _ => v_fieldAddr 0 (Try.runUnderlying37 w) rfl (Try.sizeOf3 w) rfl) (p_hoistG rfl rfl rfl rfl rfl rfl (fun w hh => v_load (Try.isAgg3 w) rfl (hh.cell 0 rfl rfl)) (p_freeG rfl rfl rfl rfl rfl rfl (fun _ _ => v_gtr rfl rfl) (p_freeG rfl rfl rfl rfl rfl rfl (fun w _ => v_neqBool (Try.runUnderlying4 w) rfl rfl) (p_free rfl rfl rfl rfl (fun _ _ => v_pickF rfl rfl) ?_)))))))
                   refine p_done ?_
                   obtain rfl := sj hm
                   exact g_leaf () (trivial) (sE rfl) (fun w hh => hh)
              ·intro l_30 hj
               replace hm := h135
               refine g_n_then ?_
               refine g_cond rfl (fun h142 => ?_) (fun h142 => ?_)
               ·replace hm := ifT (h142) hm
                refine g_sr (g_as rfl rfl (g_nt (g_ret (g_r_then (g_r_blk (g_r_then (g_r_then ?_)))))))
                refine g_r_blk ?_
                obtain rfl := sj hm
                have hbo := h124 _ rfl
                subst hbo
                refine g_r_then ?_
                replace hm := ocR h123
                refine g_r_then (g_r_blk ?_)
                obtain rfl := sj hm
                refine g_r_then ?_
                replace hm := ocR h27
                refine g_r_then (g_r_then (g_r_blk ?_))
                obtain rfl := sj hm
                have hbo := h24 _ rfl
                subst hbo
                refine g_r_then ?_
                replace hm := ocR h23
                refine g_r_then ?_
                obtain rfl := sj hm
                refine g_done rfl (fun w hh => (.tmp rfl .nil)) (fun w hh => ⟨(), rfl, trivial, hh.se [] [] 2 rfl rfl rfl rfl⟩)
               ·replace hm := ifN h142 hm
                refine g_skip (g_n_then (g_sr (g_mv rfl rfl (g_val rfl rfl rfl (fun w _ => v_lenN (vlen RI h128 rfl) (Try.runUnderlying32 w) rfl) (g_mv rfl rfl (g_nt ?_))))))
                obtain ⟨o_15, h143, h144⟩ := bindO hm
                refine g_cut (ι := Unit) (fun j_6 => o_15 = .inl j_6) (fun j_6 => [(6, ptr b 0), (7, slv l_1.2.2.v.q l_1.2.2.v.n l_1.2.2.v.cap), (8, slv l_3.q l_3.n l_3.cap), (10, ptr l_5 0), (12, slv l_1.2.2.v.q l_1.2.2.v.n l_1.2.2.v.cap), (58, .int .i64 s.t58), (92, slv l_1.2.2.v.q l_1.2.2.v.n l_1.2.2.v.cap), (93, .int .i64 (t35.r1.length : Int)), (94, .int .i64 s_5)]) (fun j_6 => [(b_5, .cells #[.int .i64 t106_1.r0.lo, .int .i64 t106_1.r0.hi] 37 (0, 0)), (l_5, .cells #[.slice qa1 na1 ca1, .int .i64 s.t5_1, .int .u32 s.t5_2] 105 (0, 0)), (b, .cells #[slv l_1.1.q l_1.1.n l_1.1.cap, slv l_1.2.1.q l_1.2.1.n l_1.2.1.cap] 28 (0, 0)), (l, .cells #[.slice qa0 na0 ca0, .int .i64 t35.b0_1, .int .u32 t35.b0_2] 105 (0, 0))]) (fun j_6 => [⟨32, RwH.enc l_1.2.2.rs, l_1.2.2.v.sp, l_1.2.2.v.q, dbl 3 RI t35.r1 l_1.2.2.rs⟩, ⟨91, RI.enc t43.r0, l_3.sp, l_3.q, []⟩, ⟨77, RSt.enc t35.r0.strips, l_1.1.sp, l_1.1.q, []⟩, ⟨37, RSp.enc t35.r0.carried, l_1.2.1.sp, l_1.2.1.q, []⟩]) ?_ ?_
                ·replace hm := h143
                 refine g_block ?_
                 refine g_loopF (ι := Unit) hm (fun s_6 l_31 => True) (fun s_6 l_31 => [(6, ptr b 0), (7, slv l_1.2.2.v.q l_1.2.2.v.n l_1.2.2.v.cap), (8, slv l_3.q l_3.n l_3.cap), (10, ptr l_5 0), (12, slv l_1.2.2.v.q l_1.2.2.v.n l_1.2.2.v.cap), (15, .int .i64 s_5), (58, .int .i64 s.t58), (92, slv l_1.2.2.v.q l_1.2.2.v.n l_1.2.2.v.cap), (93, .int .i64 (t35.r1.length : Int)), (94, .int .i64 s_5), (145, slv L_2.q L_2.n L_2.cap), (146, .int .i64 (t97_1.length : Int)), (147, .int .i64 s_6)]) (fun s_6 l_31 => [(b_5, .cells #[.int .i64 t106_1.r0.lo, .int .i64 t106_1.r0.hi] 37 (0, 0)), (l_5, .cells #[.slice qa1 na1 ca1, .int .i64 s.t5_1, .int .u32 s.t5_2] 105 (0, 0)), (b, .cells #[slv l_1.1.q l_1.1.n l_1.1.cap, slv l_1.2.1.q l_1.2.1.n l_1.2.1.cap] 28 (0, 0)), (l, .cells #[.slice qa0 na0 ca0, .int .i64 t35.b0_1, .int .u32 t35.b0_2] 105 (0, 0))]) (fun s_6 l_31 => [⟨32, RwH.enc l_1.2.2.rs, l_1.2.2.v.sp, l_1.2.2.v.q, dbl 3 RI t35.r1 l_1.2.2.rs⟩, ⟨91, RI.enc t43.r0, l_3.sp, l_3.q, []⟩, ⟨77, RSt.enc t35.r0.strips, l_1.1.sp, l_1.1.q, []⟩, ⟨37, RSp.enc t35.r0.carried, l_1.2.1.sp, l_1.2.1.q, []⟩]) () (trivial) (sE rfl) (fun w hh => hh) (fun s_6 l_31 r_9 hpl hm h145 => ?_)
                 unfold m_l_StripTold_L6 at hm
                 refine g_sr (g_ls rfl rfl rfl (g_nt (g_seq ?_)))
                 refine g_cond rfl (fun h146 => ?_) (fun h146 => ?_)
                 ·replace hm := ifD h146 hm
                  refine g_skip (g_n_then (g_seq (g_block (g_sr (g_mv rfl rfl ?_)))))
                  obtain ⟨t150_1, h147, hm⟩ := bindO hm
                  refine g_val rfl rfl rfl (fun w _ => v_ixA h147 (Try.runUnderlying32 w) (Try.sizeOf3 w) rfl rfl (vlen RI h128 rfl) (vne h128)) (g_val rfl rfl rfl (fun w hh => v_ldE RI 0 h147 (Try.isAgg3 w) rfl (hh.dseg 0 rfl h126 h127 h128) rfl (Nat.add_zero _).symm) (g_as rfl rfl (g_as rfl rfl (g_nx (g_la [_, _] 2 Try.isAgg28 Try.sizeOf28 rfl rfl rfl rfl (g_mv rfl rfl (g_mv rfl rfl ?_)))))))
                  obtain ⟨t156_1, h148, hm⟩ := bindO hm
                  refine g_callH [] [] rfl rfl rfl rfl rfl rfl rfl Try.call19 (fun w hh => c_s_Taken t35.r0 s_5 s_6 (qA l_1.1.q) l_1.1.n l_1.1.cap (qA l_1.2.1.q) l_1.2.1.n l_1.2.1.cap w (HV.callee (S0 := []) (vs0 := []) hh (roC (hh.vsepA 2 rfl h5) (roC (hh.vsepA 3 rfl h6) roN))) (vlen RSt h5 rfl) (AOK.q (vne h5)) (h5).hle (vlen RSp h6 rfl) (AOK.q (vne h6)) (h6).hle h148) (fun l_32 h149 => ?_)
                  refine g_mv rfl rfl (g_xt rfl rfl rfl (g_xt rfl rfl rfl ?_))
                  refine g_allocV (fun w => Try.zeroValue37 w) rfl (fun b_6 h150 => ?_)
                  refine g_stSA (us := #[_, _]) (cs' := [_, _]) (S' := [_, _, _, _, _]) 0 (fun w => Try.sizeOf37 w) rfl rfl rfl rfl rfl rfl rfl (g_as rfl rfl (g_nt (g_seq ?_)))
                  obtain ⟨o_16, h151, h152⟩ := bindO hm
                  refine g_cut (ι := Unit) (fun l_33 => True) (fun l_33 => [(6, ptr b 0), (7, slv l_1.2.2.v.q l_1.2.2.v.n l_1.2.2.v.cap), (8, slv l_3.q l_3.n l_3.cap), (10, ptr l_5 0), (12, slv l_1.2.2.v.q l_1.2.2.v.n l_1.2.2.v.cap), (15, .int .i64 s_5), (58, .int .i64 s.t58), (92, slv l_1.2.2.v.q l_1.2.2.v.n l_1.2.2.v.cap), (93, .int .i64 (t35.r1.length : Int)), (94, .int .i64 s_5), (145, slv L_2.q L_2.n L_2.cap), (146, .int .i64 (t97_1.length : Int)), (147, .int .i64 s_6), (172, .bool o_16)]) (fun l_33 => [(b_6, .cells #[.int .i64 t156_1.r0.lo, .int .i64 t156_1.r0.hi] 37 (0, 0)), (b_5, .cells #[.int .i64 t106_1.r0.lo, .int .i64 t106_1.r0.hi] 37 (0, 0)), (l_5, .cells #[.slice qa1 na1 ca1, .int .i64 s.t5_1, .int .u32 s.t5_2] 105 (0, 0)), (b, .cells #[slv l_1.1.q l_1.1.n l_1.1.cap, slv l_1.2.1.q l_1.2.1.n l_1.2.1.cap] 28 (0, 0)), (l, .cells #[.slice qa0 na0 ca0, .int .i64 t35.b0_1, .int .u32 t35.b0_2] 105 (0, 0))]) (fun l_33 => [⟨32, RwH.enc l_1.2.2.rs, l_1.2.2.v.sp, l_1.2.2.v.q, dbl 3 RI t35.r1 l_1.2.2.rs⟩, ⟨91, RI.enc t43.r0, l_3.sp, l_3.q, []⟩, ⟨77, RSt.enc t35.r0.strips, l_1.1.sp, l_1.1.q, []⟩, ⟨37, RSp.enc t35.r0.carried, l_1.2.1.sp, l_1.2.1.q, []⟩]) ?_ ?_
                  ·replace hm := h151
                   refine g_region (g_mv rfl rfl (g_val rfl rfl rfl (fun _ _ => v_neq rfl rfl) (g_mv rfl rfl ?_)))
                   refine g_case 161 rfl (fun h153 => ?_) (fun h153 => ?_)
                   ·replace hm := ifF (of_ndec_true h153) hm
                    refine g_k rfl rfl rfl rfl (g_k rfl rfl rfl rfl (g_k rfl rfl rfl rfl (g_k rfl rfl rfl rfl (g_pt rfl rfl rfl (g_mv rfl rfl (g_k rfl rfl rfl rfl (g_k rfl rfl rfl rfl ?_)))))))
                    refine g_k rfl rfl rfl rfl (g_k rfl rfl rfl rfl (g_pt rfl rfl rfl (g_nil ?_)))
                    obtain rfl := sj hm
                    exact g_leaf () (trivial) (sE rfl) (fun w hh => hh)
                   ·replace hm := ifT (of_ndec_false h153) hm
                    refine v_unguard rfl rfl (g_mv rfl rfl (v_unguard rfl rfl (g_fa 0 Try.runUnderlying37 rfl Try.sizeOf3 rfl rfl (v_unguard rfl rfl (g_lc 0 Try.isAgg3 rfl rfl rfl rfl (v_unguard rfl rfl (g_ls rfl rfl rfl ?_)))))))
                    refine g_pf rfl rfl rfl (g_mv rfl rfl ?_)
                    refine g_case 167 rfl (fun h154 => ?_) (fun h154 => ?_)
                    ·replace hm := ifD h154 hm
                     refine g_k rfl rfl rfl rfl (g_k rfl rfl rfl rfl (g_k rfl rfl rfl rfl (g_k rfl rfl rfl rfl (g_pt rfl rfl rfl (g_nil ?_)))))
                     obtain rfl := sj hm
                     exact g_leaf () (trivial) (sE rfl) (fun w hh => hh)
                    ·replace hm := ifE h154 hm
                     refine v_unguard rfl rfl (g_mv rfl rfl (v_unguard rfl rfl (g_fa 1 Try.runUnderlying37 rfl Try.sizeOf3 rfl rfl (v_unguard rfl rfl (g_lc 0 Try.isAgg3 rfl rfl rfl rfl (v_unguard rfl rfl (g_val rfl rfl rfl (fun _ _ => v_gtr rfl rfl) ?_)))))))
                     refine g_pf rfl rfl rfl (g_nil ?_)
                     obtain rfl := sj hm
                     exact g_leaf () (trivial) (sE rfl) (fun w hh => hh)
                  ·intro l_33 hj
                   replace hm := h152
                   refine g_n_then ?_
                   refine g_cond rfl (fun h155 => ?_) (fun h155 => ?_)
                   ·replace hm := ifT (h155) hm
                    refine g_sr (g_as rfl rfl (g_nt (g_ret (g_r_blk (g_r_then (g_r_then (g_r_blk ?_)))))))
                    obtain rfl := sj hm
                    have hbo := h145 _ rfl
                    subst hbo
                    refine g_r_then ?_
                    replace hm := ocR h144
                    refine g_r_blk (g_r_then (g_r_then (g_r_blk ?_)))
                    obtain rfl := sj hm
                    have hbo := h124 _ rfl
                    subst hbo
                    refine g_r_then ?_
                    replace hm := ocR h123
                    refine g_r_then (g_r_blk ?_)
                    obtain rfl := sj hm
                    refine g_r_then ?_
                    replace hm := ocR h27
                    refine g_r_then (g_r_then (g_r_blk ?_))
                    obtain rfl := sj hm
                    have hbo := h24 _ rfl
                    subst hbo
                    refine g_r_then ?_
                    replace hm := ocR h23
                    refine g_r_then ?_
                    obtain rfl := sj hm
                    refine g_done rfl (fun w hh => (.tmp rfl .nil)) (fun w hh => ⟨(), rfl, trivial, hh.se [] [] 2 rfl rfl rfl rfl⟩)
                   ·replace hm := ifN h155 hm
                    refine g_skip (g_n_blk (g_n_then (g_region ?_)))
                    obtain ⟨t173_1, h156, hm⟩ := bindO hm
                    refine g_ac h156 rfl rfl rfl (g_mv rfl rfl (g_nil ?_))
                    obtain rfl := sj hm
                    refine g_n_then ?_
                    exact g_again' _ () rfl (trivial) (sE rfl) (hsE [1, 2, 3, 4] [0, 1, 2, 3] 0 rfl rfl rfl rfl)
                 ·replace hm := ifE h146 hm
                  refine g_exit (g_x_then (g_x_then (g_x_blk ?_)))
                  obtain rfl := sj hm
                  have hbo := h145 _ rfl
                  subst hbo
                  exact g_leaf () (rfl) (sE rfl) (fun w hh => hh)
                ·intro j_6 hj
                 have h157 := hj
                 subst h157
                 replace hm := ocL h144
                 refine g_n_blk (g_n_then (g_region ?_))
                 obtain ⟨t174_1, h158, hm⟩ := bindO hm
                 refine g_ac h158 rfl rfl rfl (g_mv rfl rfl (g_nil ?_))
                 obtain rfl := sj hm
                 refine g_n_then ?_
                 exact g_again' _ () rfl (trivial) (sE rfl) (hsE [1, 2, 3] [0, 1, 2, 3] 0 rfl rfl rfl rfl)
             ·replace hm := ifE h125 hm
              refine g_exit (g_x_then (g_x_then (g_x_blk ?_)))
              obtain rfl := sj hm
              have hbo := h124 _ rfl
              subst hbo
              exact g_leaf () (rfl) (sE rfl) (fun w hh => hh)
            ·intro j_5 hj
             have h159 := hj
             subst h159
             replace hm := ocL h123
             refine g_n_then (g_sr (g_fa 0 Try.runUnderlying28 rfl Try.sizeOf25 rfl rfl (g_lc 1 Try.isAgg25 rfl rfl rfl rfl (g_val rfl rfl rfl (fun w _ => v_lenN (vlen RSt h5 rfl) (Try.runUnderlying25 w) rfl) (g_mv rfl rfl (g_nt ?_))))))
             obtain ⟨o_17, h160, h161⟩ := bindO hm
             refine g_cut (ι := Unit) (fun j_7 => o_17 = .inl j_7) (fun j_7 => [(6, ptr b 0), (7, slv l_1.2.2.v.q l_1.2.2.v.n l_1.2.2.v.cap), (8, slv l_3.q l_3.n l_3.cap), (10, ptr l_5 0), (58, .int .i64 s.t58)]) (fun j_7 => [(l_5, .cells #[.slice qa1 na1 ca1, .int .i64 s.t5_1, .int .u32 s.t5_2] 105 (0, 0)), (b, .cells #[slv l_1.1.q l_1.1.n l_1.1.cap, slv l_1.2.1.q l_1.2.1.n l_1.2.1.cap] 28 (0, 0)), (l, .cells #[.slice qa0 na0 ca0, .int .i64 t35.b0_1, .int .u32 t35.b0_2] 105 (0, 0))]) (fun j_7 => [⟨32, RwH.enc l_1.2.2.rs, l_1.2.2.v.sp, l_1.2.2.v.q, dbl 3 RI t35.r1 l_1.2.2.rs⟩, ⟨91, RI.enc t43.r0, l_3.sp, l_3.q, []⟩, ⟨77, RSt.enc t35.r0.strips, l_1.1.sp, l_1.1.q, []⟩, ⟨37, RSp.enc t35.r0.carried, l_1.2.1.sp, l_1.2.1.q, []⟩]) ?_ ?_
             ·replace hm := h160
              refine g_block ?_
              refine g_loopF (ι := Unit) hm (fun s_7 l_34 => True) (fun s_7 l_34 => [(6, ptr b 0), (7, slv l_1.2.2.v.q l_1.2.2.v.n l_1.2.2.v.cap), (8, slv l_3.q l_3.n l_3.cap), (10, ptr l_5 0), (12, slv l_1.2.2.v.q l_1.2.2.v.n l_1.2.2.v.cap), (58, .int .i64 s.t58), (176, slv l_1.1.q l_1.1.n l_1.1.cap), (177, .int .i64 (t35.r0.strips.length : Int)), (178, .int .i64 s_7)]) (fun s_7 l_34 => [(l_5, .cells #[.slice qa1 na1 ca1, .int .i64 s.t5_1, .int .u32 s.t5_2] 105 (0, 0)), (b, .cells #[slv l_1.1.q l_1.1.n l_1.1.cap, slv l_1.2.1.q l_1.2.1.n l_1.2.1.cap] 28 (0, 0)), (l, .cells #[.slice qa0 na0 ca0, .int .i64 t35.b0_1, .int .u32 t35.b0_2] 105 (0, 0))]) (fun s_7 l_34 => [⟨32, RwH.enc l_1.2.2.rs, l_1.2.2.v.sp, l_1.2.2.v.q, dbl 3 RI t35.r1 l_1.2.2.rs⟩, ⟨91, RI.enc t43.r0, l_3.sp, l_3.q, []⟩, ⟨77, RSt.enc t35.r0.strips, l_1.1.sp, l_1.1.q, []⟩, ⟨37, RSp.enc t35.r0.carried, l_1.2.1.sp, l_1.2.1.q, []⟩]) () (trivial) (sE rfl) (fun w hh => hh) (fun s_7 l_34 r_11 hpl hm h162 => ?_)
              unfold m_l_StripTold_L7 at hm
              refine g_sr (g_ls rfl rfl rfl (g_nt (g_seq ?_)))
              refine g_cond rfl (fun h163 => ?_) (fun h163 => ?_)
              ·replace hm := ifD h163 hm
               refine g_skip (g_n_then (g_seq (g_block (g_sr (g_mv rfl rfl ?_)))))
               obtain ⟨t181_1, h164, hm⟩ := bindO hm
               refine g_val rfl rfl rfl (fun w _ => v_ixA h164 (Try.runUnderlying25 w) (Try.sizeOf77 w) rfl rfl (vlen RSt h5 rfl) (vne h5)) ?_
               refine g_val rfl rfl rfl (fun w hh => v_ldEA RSt 0 [.int .i64 t181_1.tenant, .int .i64 t181_1.lay.lo, .int .i64 t181_1.lay.hi, .int .i64 t181_1.seeded.lo, .int .i64 t181_1.seeded.hi, .int .i64 t181_1.left.lo, .int .i64 t181_1.left.hi] h164 (Try.isAgg77 w) (Try.sizeOf77 w) rfl (hh.vseg 2 rfl h5) rfl (Nat.add_zero _).symm) ?_
               refine g_allocV (fun w => Try.zeroValue77 w) rfl (fun b_7 h165 => ?_)
               refine g_as rfl rfl (g_stSA (us := #[_, _, _, _, _, _, _]) (cs' := [_, _, _, _, _, _, _]) (S' := [_, _, _, _]) 0 (fun w => Try.sizeOf77 w) rfl rfl rfl rfl rfl rfl rfl (g_nx (g_as rfl rfl (g_nt (g_seq (g_sr (g_mv rfl rfl ?_)))))))
               refine g_val rfl rfl rfl (fun w _ => v_lenN (Eq.trans (h8).len (vlen RwH h7 rfl)) (Try.runUnderlying29 w) rfl) (g_mv rfl rfl (g_nt ?_))
               obtain ⟨o_18, h166, h167⟩ := bindO hm
               refine g_cut (ι := Unit) (fun l_35 => True) (fun l_35 => [(6, ptr b 0), (7, slv l_1.2.2.v.q l_1.2.2.v.n l_1.2.2.v.cap), (8, slv l_3.q l_3.n l_3.cap), (10, ptr l_5 0), (12, slv l_1.2.2.v.q l_1.2.2.v.n l_1.2.2.v.cap), (24, .int .i64 s_7), (26, .int .i64 o_18), (58, .int .i64 s.t58), (176, slv l_1.1.q l_1.1.n l_1.1.cap), (177, .int .i64 (t35.r0.strips.length : Int)), (178, .int .i64 s_7)]) (fun l_35 => [(b_7, .cells #[.int .i64 t181_1.tenant, .int .i64 t181_1.lay.lo, .int .i64 t181_1.lay.hi, .int .i64 t181_1.seeded.lo, .int .i64 t181_1.seeded.hi, .int .i64 t181_1.left.lo, .int .i64 t181_1.left.hi] 77 (0, 0)), (l_5, .cells #[.slice qa1 na1 ca1, .int .i64 s.t5_1, .int .u32 s.t5_2] 105 (0, 0)), (b, .cells #[slv l_1.1.q l_1.1.n l_1.1.cap, slv l_1.2.1.q l_1.2.1.n l_1.2.1.cap] 28 (0, 0)), (l, .cells #[.slice qa0 na0 ca0, .int .i64 t35.b0_1, .int .u32 t35.b0_2] 105 (0, 0))]) (fun l_35 => [⟨32, RwH.enc l_1.2.2.rs, l_1.2.2.v.sp, l_1.2.2.v.q, dbl 3 RI t35.r1 l_1.2.2.rs⟩, ⟨91, RI.enc t43.r0, l_3.sp, l_3.q, []⟩, ⟨77, RSt.enc t35.r0.strips, l_1.1.sp, l_1.1.q, []⟩, ⟨37, RSp.enc t35.r0.carried, l_1.2.1.sp, l_1.2.1.q, []⟩]) ?_ ?_
               ·replace hm := h166
                refine g_block ?_
                refine g_loopF (ι := Unit) hm (fun s_8 l_36 => True) (fun s_8 l_36 => [(6, ptr b 0), (7, slv l_1.2.2.v.q l_1.2.2.v.n l_1.2.2.v.cap), (8, slv l_3.q l_3.n l_3.cap), (10, ptr l_5 0), (12, slv l_1.2.2.v.q l_1.2.2.v.n l_1.2.2.v.cap), (24, .int .i64 s_7), (25, ptr b_7 0), (26, .int .i64 s_8.n26), (58, .int .i64 s.t58), (176, slv l_1.1.q l_1.1.n l_1.1.cap), (177, .int .i64 (t35.r0.strips.length : Int)), (178, .int .i64 s_7), (183, slv l_1.2.2.v.q l_1.2.2.v.n l_1.2.2.v.cap), (184, .int .i64 (t35.r1.length : Int)), (185, .int .i64 s_8.t185)]) (fun s_8 l_36 => [(b_7, .cells #[.int .i64 t181_1.tenant, .int .i64 t181_1.lay.lo, .int .i64 t181_1.lay.hi, .int .i64 t181_1.seeded.lo, .int .i64 t181_1.seeded.hi, .int .i64 t181_1.left.lo, .int .i64 t181_1.left.hi] 77 (0, 0)), (l_5, .cells #[.slice qa1 na1 ca1, .int .i64 s.t5_1, .int .u32 s.t5_2] 105 (0, 0)), (b, .cells #[slv l_1.1.q l_1.1.n l_1.1.cap, slv l_1.2.1.q l_1.2.1.n l_1.2.1.cap] 28 (0, 0)), (l, .cells #[.slice qa0 na0 ca0, .int .i64 t35.b0_1, .int .u32 t35.b0_2] 105 (0, 0))]) (fun s_8 l_36 => [⟨32, RwH.enc l_1.2.2.rs, l_1.2.2.v.sp, l_1.2.2.v.q, dbl 3 RI t35.r1 l_1.2.2.rs⟩, ⟨91, RI.enc t43.r0, l_3.sp, l_3.q, []⟩, ⟨77, RSt.enc t35.r0.strips, l_1.1.sp, l_1.1.q, []⟩, ⟨37, RSp.enc t35.r0.carried, l_1.2.1.sp, l_1.2.1.q, []⟩]) () (trivial) (sE rfl) (fun w hh => hh) (fun s_8 l_36 r_12 hpl hm h168 => ?_)
                unfold m_l_StripTold_L8 at hm
                refine g_sr (g_ls rfl rfl rfl (g_nt (g_seq ?_)))
                refine g_cond rfl (fun h169 => ?_) (fun h169 => ?_)
                ·replace hm := ifD h169 hm
                 refine g_skip (g_n_then (g_seq ?_))
                 obtain ⟨o_19, h170, h171⟩ := bindO hm
                 refine g_cut (ι := Unit) (fun l_37 => True) (fun l_37 => [(6, ptr b 0), (7, slv l_1.2.2.v.q l_1.2.2.v.n l_1.2.2.v.cap), (8, slv l_3.q l_3.n l_3.cap), (10, ptr l_5 0), (12, slv l_1.2.2.v.q l_1.2.2.v.n l_1.2.2.v.cap), (24, .int .i64 s_7), (25, ptr b_7 0), (26, .int .i64 o_19), (58, .int .i64 s.t58), (176, slv l_1.1.q l_1.1.n l_1.1.cap), (177, .int .i64 (t35.r0.strips.length : Int)), (178, .int .i64 s_7), (183, slv l_1.2.2.v.q l_1.2.2.v.n l_1.2.2.v.cap), (184, .int .i64 (t35.r1.length : Int)), (185, .int .i64 s_8.t185)]) (fun l_37 => [(b_7, .cells #[.int .i64 t181_1.tenant, .int .i64 t181_1.lay.lo, .int .i64 t181_1.lay.hi, .int .i64 t181_1.seeded.lo, .int .i64 t181_1.seeded.hi, .int .i64 t181_1.left.lo, .int .i64 t181_1.left.hi] 77 (0, 0)), (l_5, .cells #[.slice qa1 na1 ca1, .int .i64 s.t5_1, .int .u32 s.t5_2] 105 (0, 0)), (b, .cells #[slv l_1.1.q l_1.1.n l_1.1.cap, slv l_1.2.1.q l_1.2.1.n l_1.2.1.cap] 28 (0, 0)), (l, .cells #[.slice qa0 na0 ca0, .int .i64 t35.b0_1, .int .u32 t35.b0_2] 105 (0, 0))]) (fun l_37 => [⟨32, RwH.enc l_1.2.2.rs, l_1.2.2.v.sp, l_1.2.2.v.q, dbl 3 RI t35.r1 l_1.2.2.rs⟩, ⟨91, RI.enc t43.r0, l_3.sp, l_3.q, []⟩, ⟨77, RSt.enc t35.r0.strips, l_1.1.sp, l_1.1.q, []⟩, ⟨37, RSp.enc t35.r0.carried, l_1.2.1.sp, l_1.2.1.q, []⟩]) ?_ ?_
                 ·replace hm := h170
                  refine g_block (g_sr (g_mv rfl rfl ?_))
                  obtain ⟨t188_1, h172, hm⟩ := bindO hm
                  obtain ⟨L_3, h173, h174⟩ := (h8).row h172
                  refine g_val rfl rfl rfl (fun w _ => v_ixA h173 (Try.runUnderlying29 w) (Try.sizeOf32 w) rfl rfl (vlen RwH h7 rfl) (vne h7)) (g_val rfl rfl rfl (fun w hh => v_ldE RwH 0 h173 (Try.isAgg32 w) rfl (hh.vseg 0 rfl h7) rfl (Nat.add_zero _).symm) (g_as rfl rfl (g_as rfl rfl (g_nx (g_mv rfl rfl (g_fa 0 Try.runUnderlying77 rfl Try.sizeOf3 rfl rfl (g_lc 0 Try.isAgg3 rfl rfl rfl rfl ?_)))))))
                  refine g_val rfl rfl rfl (fun _ _ => v_neq rfl rfl) (g_nt ?_)
                  refine g_cond rfl (fun h175 => ?_) (fun h175 => ?_)
                  ·replace hm := ifF (of_ndec_true h175) hm
                   refine g_region (g_mv rfl rfl (g_mv rfl rfl (g_mv rfl rfl ?_)))
                   obtain ⟨t197_1, h176, hm⟩ := bindO hm
                   refine g_val rfl rfl rfl (fun w _ => v_ixA h176 (Try.runUnderlying32 w) (Try.sizeOf3 w) rfl rfl (vlen RI h174 rfl) (vne h174)) (g_val rfl rfl rfl (fun w hh => v_ldE RI 0 h176 (Try.isAgg3 w) rfl (hh.dseg 0 rfl h172 h173 h174) rfl (Nat.add_zero _).symm) ?_)
                   obtain ⟨t199_1, h177, hm⟩ := bindO hm
                   refine g_ac h177 rfl rfl rfl (g_as rfl rfl (g_nil (g_n_blk ?_)))
                   obtain rfl := sj hm
                   exact g_leaf () (trivial) (sE rfl) (fun w hh => hh)
                  ·replace hm := ifT (of_ndec_false h175) hm
                   refine g_skip (g_n_blk ?_)
                   obtain rfl := sj hm
                   exact g_leaf () (trivial) (sE rfl) (fun w hh => hh)
                 ·intro l_37 hj
                  replace hm := h171
                  refine g_n_then (g_region ?_)
                  obtain ⟨t200_1, h178, hm⟩ := bindO hm
                  refine g_ac h178 rfl rfl rfl (g_mv rfl rfl (g_nil ?_))
                  obtain rfl := sj hm
                  refine g_n_then ?_
                  exact g_again' _ () rfl (trivial) (sE rfl) (fun w hh => hh)
                ·replace hm := ifE h169 hm
                 refine g_exit (g_x_then (g_x_then (g_x_blk ?_)))
                 obtain rfl := sj hm
                 have hbo := h168 _ rfl
                 subst hbo
                 exact g_leaf () (trivial) (sE rfl) (fun w hh => hh)
               ·intro l_35 hj
                replace hm := h167
                refine g_n_then (g_sr (g_la [_, _] 2 Try.isAgg28 Try.sizeOf28 rfl rfl rfl rfl (g_mv rfl rfl ?_)))
                obtain ⟨t204_1, h179, hm⟩ := bindO hm
                refine g_callH [] [] rfl rfl rfl rfl rfl rfl rfl Try.call47 (fun w hh => c_s_Missed t35.r0 s_7 (qA l_1.1.q) l_1.1.n l_1.1.cap (qA l_1.2.1.q) l_1.2.1.n l_1.2.1.cap w (HV.callee (S0 := []) (vs0 := []) hh (roC (hh.vsepA 2 rfl h5) (roC (hh.vsepA 3 rfl h6) roN))) (vlen RSt h5 rfl) (AOK.q (vne h5)) (h5).hle (vlen RSp h6 rfl) (AOK.q (vne h6)) (h6).hle h179) (fun l_38 h180 => ?_)
                refine g_mv rfl rfl (g_xt rfl rfl rfl (g_xt rfl rfl rfl ?_))
                refine g_allocV (fun w => Try.zeroValue37 w) rfl (fun b_8 h181 => ?_)
                refine g_stSA (us := #[_, _]) (cs' := [_, _]) (S' := [_, _, _, _, _]) 0 (fun w => Try.sizeOf37 w) rfl rfl rfl rfl rfl rfl rfl (g_as rfl rfl (g_nt (g_seq ?_)))
                obtain ⟨o_20, h182, h183⟩ := bindO hm
                refine g_cut (ι := Unit) (fun l_39 => True) (fun l_39 => [(6, ptr b 0), (7, slv l_1.2.2.v.q l_1.2.2.v.n l_1.2.2.v.cap), (8, slv l_3.q l_3.n l_3.cap), (10, ptr l_5 0), (12, slv l_1.2.2.v.q l_1.2.2.v.n l_1.2.2.v.cap), (58, .int .i64 s.t58), (176, slv l_1.1.q l_1.1.n l_1.1.cap), (177, .int .i64 (t35.r0.strips.length : Int)), (178, .int .i64 s_7), (220, .bool o_20)]) (fun l_39 => [(b_8, .cells #[.int .i64 t204_1.r0.lo, .int .i64 t204_1.r0.hi] 37 (0, 0)), (b_7, .cells #[.int .i64 t181_1.tenant, .int .i64 t181_1.lay.lo, .int .i64 t181_1.lay.hi, .int .i64 t181_1.seeded.lo, .int .i64 t181_1.seeded.hi, .int .i64 t181_1.left.lo, .int .i64 t181_1.left.hi] 77 (0, 0)), (l_5, .cells #[.slice qa1 na1 ca1, .int .i64 s.t5_1, .int .u32 s.t5_2] 105 (0, 0)), (b, .cells #[slv l_1.1.q l_1.1.n l_1.1.cap, slv l_1.2.1.q l_1.2.1.n l_1.2.1.cap] 28 (0, 0)), (l, .cells #[.slice qa0 na0 ca0, .int .i64 t35.b0_1, .int .u32 t35.b0_2] 105 (0, 0))]) (fun l_39 => [⟨32, RwH.enc l_1.2.2.rs, l_1.2.2.v.sp, l_1.2.2.v.q, dbl 3 RI t35.r1 l_1.2.2.rs⟩, ⟨91, RI.enc t43.r0, l_3.sp, l_3.q, []⟩, ⟨77, RSt.enc t35.r0.strips, l_1.1.sp, l_1.1.q, []⟩, ⟨37, RSp.enc t35.r0.carried, l_1.2.1.sp, l_1.2.1.q, []⟩]) ?_ ?_
                ·replace hm := h182
                 refine g_region (g_mv rfl rfl (g_val rfl rfl rfl (fun _ _ => v_neq rfl rfl) (g_mv rfl rfl ?_)))
                 refine g_case 209 rfl (fun h184 => ?_) (fun h184 => ?_)
                 ·replace hm := ifF (of_ndec_true h184) hm
                  refine g_k rfl rfl rfl rfl (g_k rfl rfl rfl rfl (g_k rfl rfl rfl rfl (g_k rfl rfl rfl rfl (g_pt rfl rfl rfl (g_mv rfl rfl (g_k rfl rfl rfl rfl (g_k rfl rfl rfl rfl ?_)))))))
                  refine g_k rfl rfl rfl rfl (g_k rfl rfl rfl rfl (g_pt rfl rfl rfl (g_nil ?_)))
                  obtain rfl := sj hm
                  exact g_leaf () (trivial) (sE rfl) (fun w hh => hh)
                 ·replace hm := ifT (of_ndec_false h184) hm
                  refine v_unguard rfl rfl (g_mv rfl rfl (v_unguard rfl rfl (g_fa 0 Try.runUnderlying37 rfl Try.sizeOf3 rfl rfl (v_unguard rfl rfl (g_lc 0 Try.isAgg3 rfl rfl rfl rfl (v_unguard rfl rfl (g_ls rfl rfl rfl ?_)))))))
                  refine g_pf rfl rfl rfl (g_mv rfl rfl ?_)
                  refine g_case 215 rfl (fun h185 => ?_) (fun h185 => ?_)
                  ·replace hm := ifD h185 hm
                   refine g_k rfl rfl rfl rfl (g_k rfl rfl rfl rfl (g_k rfl rfl rfl rfl (g_k rfl rfl rfl rfl (g_pt rfl rfl rfl (g_nil ?_)))))
                   obtain rfl := sj hm
                   exact g_leaf () (trivial) (sE rfl) (fun w hh => hh)
                  ·replace hm := ifE h185 hm
                   refine v_unguard rfl rfl (g_mv rfl rfl (v_unguard rfl rfl (g_fa 1 Try.runUnderlying37 rfl Try.sizeOf3 rfl rfl (v_unguard rfl rfl (g_lc 0 Try.isAgg3 rfl rfl rfl rfl (v_unguard rfl rfl (g_val rfl rfl rfl (fun _ _ => v_gtr rfl rfl) ?_)))))))
                   refine g_pf rfl rfl rfl (g_nil ?_)
                   obtain rfl := sj hm
                   exact g_leaf () (trivial) (sE rfl) (fun w hh => hh)
                ·intro l_39 hj
                 replace hm := h183
                 refine g_n_then ?_
                 refine g_cond rfl (fun h186 => ?_) (fun h186 => ?_)
                 ·replace hm := ifT (h186) hm
                  refine g_sr (g_as rfl rfl (g_nt (g_ret (g_r_blk (g_r_then (g_r_then (g_r_blk ?_)))))))
                  obtain rfl := sj hm
                  have hbo := h162 _ rfl
                  subst hbo
                  refine g_r_then ?_
                  replace hm := ocR h161
                  refine g_r_blk ?_
                  obtain rfl := sj hm
                  refine g_r_then ?_
                  replace hm := ocR h27
                  refine g_r_then (g_r_then (g_r_blk ?_))
                  obtain rfl := sj hm
                  have hbo := h24 _ rfl
                  subst hbo
                  refine g_r_then ?_
                  replace hm := ocR h23
                  refine g_r_then ?_
                  obtain rfl := sj hm
                  refine g_done rfl (fun w hh => (.tmp rfl .nil)) (fun w hh => ⟨(), rfl, trivial, hh.se [] [] 2 rfl rfl rfl rfl⟩)
                 ·replace hm := ifN h186 hm
                  refine g_skip (g_n_blk (g_n_then (g_region ?_)))
                  obtain ⟨t221_1, h187, hm⟩ := bindO hm
                  refine g_ac h187 rfl rfl rfl (g_mv rfl rfl (g_nil ?_))
                  obtain rfl := sj hm
                  refine g_n_then ?_
                  exact g_again' _ () rfl (trivial) (sE rfl) (hsE [2, 3, 4] [0, 1, 2, 3] 0 rfl rfl rfl rfl)
              ·replace hm := ifE h163 hm
               refine g_exit (g_x_then (g_x_then (g_x_blk ?_)))
               obtain rfl := sj hm
               have hbo := h162 _ rfl
               subst hbo
               exact g_leaf () (rfl) (sE rfl) (fun w hh => hh)
             ·intro j_7 hj
              have h188 := hj
              subst h188
              replace hm := ocL h161
              refine g_n_blk ?_
              obtain rfl := sj hm
              exact g_leaf (⟨s.t5_1, s.t5_2⟩ : m_l_StripTold_C2) (rfl) (sE rfl) (fun w hh => hh)
       ·intro j_1 hj
        have h189 := hj
        subst h189
        replace hm := ocL h27
        refine g_n_then (g_region ?_)
        obtain ⟨t222, h190, hm⟩ := bindO hm
        refine g_ac h190 rfl rfl rfl (g_mv rfl rfl (g_nil ?_))
        obtain rfl := sj hm
        refine g_n_then ?_
        exact g_again' _ () rfl (trivial) (sE rfl) (fun w hh => hh)
      ·replace hm := ifE h25 hm
       refine g_exit (g_x_then (g_x_then (g_x_blk ?_)))
       obtain rfl := sj hm
       have hbo := h24 _ rfl
       subst hbo
       exact g_leaf (⟨s.t5_1, s.t5_2⟩ : m_l_StripTold_C1) (rfl) (.nil) (hsE [0, 1, 2] [2, 3] 0 rfl rfl rfl rfl)
     ·intro j hj
      have h191 := hj
      subst h191
      replace hm := ocL h23
      refine g_n_then (g_sr ?_)
      obtain ⟨t223, h192, hm⟩ := bindO hm
      refine g_callH [] [] rfl rfl rfl rfl rfl rfl rfl Try.call20 (fun w hh => c_l_awake  w (HV.callee (S0 := []) (vs0 := []) hh roN)  h192) (fun l_40 h193 => ?_)
      refine g_as rfl rfl (g_nt (g_ret ?_))
      obtain rfl := sj hm
      refine g_done rfl (fun w hh => (.tmp rfl .nil)) (fun w hh => ⟨(), rfl, trivial, hh.se [] [] 2 rfl rfl rfl rfl⟩)
end Go.Proofs.Ws

namespace Go.Proofs.Ws
open Go Go.Fw Go.Gx Go.Sp
set_option linter.unusedVariables false
def HOK (l : List Int) (p : Int) : Prop := 0 ≤ p ∧ (p < (l.length : Int) ∨ p = 0)
theorem pick_ok {l : List Int} {p r : Int} (hl : l.length ≤ 9223372036854775807) (hp : HOK l p) : ∃ x, m_k_Heap_pick_1 l p r = some x ∧ (0 ≤ x.r0 ∧ x.r0 ≤ 32767) ∧ HOK l x.h0_1 := by
  obtain ⟨h0, h1⟩ := hp
  unfold m_k_Heap_pick_1
  have e1 : addc p 1 = some (p + 1) := addc_eq (by omega)
  by_cases hlt : p < (l.length : Int)
  · rw [if_pos hlt, ix_eq 0 h0 hlt, e1]
    simp only [Option.bind_some]
    by_cases hge : (l.length : Int) ≤ p + 1
    · rw [if_pos hge]
      exact ⟨_, rfl, Go.Fw.and_bound _ _ rfl, Int.le_refl _, .inr rfl⟩
    · rw [if_neg hge]
      exact ⟨_, rfl, Go.Fw.and_bound _ _ rfl, by simp only; omega, .inl (by simp only; omega)⟩
  · rw [if_neg hlt, e1]
    simp only [Option.bind_some]
    by_cases hge : (l.length : Int) ≤ p + 1
    · rw [if_pos hge]
      exact ⟨_, rfl, Go.Fw.and_bound _ _ rfl, Int.le_refl _, .inr rfl⟩
    · rw [if_neg hge]
      exact ⟨_, rfl, Go.Fw.and_bound _ _ rfl, by simp only; omega, .inl (by simp only; omega)⟩
theorem upto_ok {l : List Int} {p r n : Int} (hl : l.length ≤ 9223372036854775807) (hp : HOK l p) (hn : -1000000 ≤ n ∧ n ≤ 1000000) : ∃ x, m_k_Heap_Upto_1 l p r n = some x ∧ (0 ≤ x.r0 ∧ x.r0 ≤ max 0 n) ∧ HOK l x.h0_1 := by
  obtain ⟨x, hx, hb, hk⟩ := pick_ok (r := r) hl hp
  unfold m_k_Heap_Upto_1
  rw [hx, Option.bind_some, addc_eq (by omega), Option.bind_some, remc_eq (by omega), Option.bind_some]
  refine ⟨_, rfl, ?_, hk⟩
  have h1 := Int.tmod_nonneg (max 1 (n + 1)) hb.1
  have h2 := Int.tmod_lt_of_pos x.r0 (show 0 < max 1 (n + 1) by omega)
  simp only
  omega
theorem from_ok {l : List Int} {p r lo hi : Int} (hl : l.length ≤ 9223372036854775807) (hp : HOK l p) (hn : (-400000 ≤ lo ∧ lo ≤ 400000) ∧ -400000 ≤ hi ∧ hi ≤ 400000) : ∃ x, m_k_Heap_From_1 l p r lo hi = some x ∧ (lo ≤ x.r0 ∧ x.r0 ≤ max lo hi) ∧ HOK l x.h0_1 := by
  unfold m_k_Heap_From_1
  rw [subc_eq (by omega), Option.bind_some]
  obtain ⟨x, hx, hb, hk⟩ := upto_ok (r := r) (n := hi - lo) hl hp (by omega)
  rw [hx, Option.bind_some, addc_eq (by omega), Option.bind_some]
  exact ⟨_, rfl, by simp only; omega, hk⟩
theorem once_ok {l : List Int} {p r n : Int} (hl : l.length ≤ 9223372036854775807) (hp : HOK l p) (hn : -400000 ≤ n ∧ n ≤ 400000) : ∃ x, m_k_Heap_Once_1 l p r n = some x ∧ HOK l x.h0_1 := by
  unfold m_k_Heap_Once_1
  rw [subc_eq (by omega), Option.bind_some]
  obtain ⟨x, hx, hb, hk⟩ := upto_ok (r := r) (n := n - 1) hl hp (by omega)
  rw [hx, Option.bind_some]
  exact ⟨_, rfl, hk⟩
theorem around_ok {l : List Int} {p r n wd : Int} (hl : l.length ≤ 9223372036854775807) (hp : HOK l p) (hn : 0 ≤ n ∧ n ≤ 30) (hw : 0 ≤ wd ∧ wd ≤ 10) : ∃ x, m_l_around_1 l p r n wd = some x ∧ (0 ≤ x.r0.lo ∧ x.r0.lo ≤ n ∧ n ≤ x.r0.hi ∧ x.r0.hi ≤ 30) ∧ HOK l x.b0_1 := by
  unfold m_l_around_1
  obtain ⟨x, hx, hb, hk⟩ := upto_ok (r := r) (n := wd) hl hp (by omega)
  rw [hx, Option.bind_some, subc_eq (by omega), Option.bind_some]
  obtain ⟨z, hz, hb2, hk2⟩ := upto_ok (r := x.h0_2) (n := wd) hl hk (by omega)
  rw [hz, Option.bind_some, addc_eq (by omega), Option.bind_some]
  exact ⟨_, rfl, by simp only; omega, hk2⟩
theorem m_reaches_eq {s : Scalps} (h6 : s.strips.length ≤ 1000) {t k : Nat} (hk : k ≤ 1000) : m_l_reaches s (t : Int) (k : Int) = some (reachB s.strips t k) := by
  unfold m_l_reaches reachB
  have key := iterM_any0 (f := m_l_reaches_L0 s (t : Int) (k : Int)) s.strips.length (fun j => decide (j ≤ k + 1 ∧ k ≤ j + 1 ∧ (s.strips.getD j default).tenant = (t : Int))) true (fun j hj => ?_) ?_ (N := FU) (FU_lt (by omega))
  · rw [key, Option.bind_some]
    cases h : (List.range s.strips.length).any fun j => decide (j ≤ k + 1 ∧ k ≤ j + 1 ∧ (s.strips.getD j default).tenant = (t : Int)) <;> rfl
  · unfold m_l_reaches_L0
    have hlt : (j : Int) < (s.strips.length : Int) := by omega
    rw [if_pos hlt, ix_nat default hj, Option.bind_some]
    by_cases ht : (s.strips.getD j default).tenant = (t : Int)
    · rw [if_pos ht, subc_eq (by omega), Option.bind_some, subc_eq (by omega), Option.bind_some, Option.bind_some]
      by_cases hd : j ≤ k + 1 ∧ k ≤ j + 1
      · rw [if_pos (decide_eq_true (show max ((j : Int) - (k : Int)) ((k : Int) - (j : Int)) < 2 by omega)), if_pos (decide_eq_true ⟨hd.1, hd.2, ht⟩)]
      · rw [if_neg (fun h => by have := of_decide_eq_true h; omega), if_neg (fun h => by have := of_decide_eq_true h; omega), addc_eq (by omega), Option.bind_some]
    · rw [if_neg ht, Option.bind_some, if_neg (by simp), if_neg (fun h => ht (of_decide_eq_true h).2.2), addc_eq (by omega), Option.bind_some]
  · unfold m_l_reaches_L0
    rw [if_neg (by omega)]
theorem reachB_congr {a b : List Strip} (h : a.map (·.tenant) = b.map (·.tenant)) (t k : Nat) : reachB a t k = reachB b t k := by
  have hl : a.length = b.length := by have := congrArg List.length h; simpa using this
  unfold reachB
  rw [hl, Bool.eq_iff_iff, List.any_eq_true, List.any_eq_true]
  have hg : ∀ j, j < b.length → (a.getD j default).tenant = (b.getD j default).tenant := fun j hj => by
    have h2 : (a.map (·.tenant))[j]? = (b.map (·.tenant))[j]? := by rw [h]
    rw [List.getElem?_map, List.getElem?_map] at h2
    rw [List.getD_eq_getElem?_getD, List.getD_eq_getElem?_getD, List.getElem?_eq_getElem (by omega), List.getElem?_eq_getElem hj]
    rw [List.getElem?_eq_getElem (by omega), List.getElem?_eq_getElem hj] at h2
    simpa using h2
  constructor
  · rintro ⟨j, h1, h2⟩
    obtain ⟨a1, a2, a3⟩ := of_decide_eq_true h2
    exact ⟨j, h1, decide_eq_true ⟨a1, a2, by rw [← hg j (List.mem_range.1 h1)]; exact a3⟩⟩
  · rintro ⟨j, h1, h2⟩
    obtain ⟨a1, a2, a3⟩ := of_decide_eq_true h2
    exact ⟨j, h1, decide_eq_true ⟨a1, a2, by rw [hg j (List.mem_range.1 h1)]; exact a3⟩⟩
def rowsM (T S : Nat) (y : Nat → Nat → Int) (j k : Nat) : List (List Int) := (List.range T).map fun t => if t < j then (List.range S).map (y t) else if t = j then (List.range k).map (y t) else []
def putY (y : Nat → Nat → Int) (t k : Nat) (n : Int) : Nat → Nat → Int := fun t' k' => if t' = t ∧ k' = k then n else y t' k'
theorem rowsM_next {T S : Nat} {y : Nat → Nat → Int} {j : Nat} : rowsM T S y j S = rowsM T S y (j + 1) 0 := by
  unfold rowsM
  refine List.map_congr_left fun t _ => ?_
  by_cases h1 : t < j
  · rw [if_pos h1, if_pos (by omega)]
  · rw [if_neg h1]
    by_cases h2 : t = j
    · rw [if_pos h2, if_pos (by omega)]
    · rw [if_neg h2, if_neg (by omega)]
      split <;> rfl
theorem rowsM_put {T S : Nat} {y : Nat → Nat → Int} {j k : Nat} {n : Int} : (rowsM T S y j k).set j ((List.range k).map (y j) ++ [n]) = rowsM T S (putY y j k n) j (k + 1) := by
  unfold rowsM
  rw [range_set]
  refine List.map_congr_left fun t _ => ?_
  by_cases h2 : t = j
  · subst h2
    rw [if_pos rfl, if_neg (Nat.lt_irrefl _), if_pos rfl, List.range_succ, List.map_append]
    congr 1
    · refine List.map_congr_left fun i hi => ?_
      have := List.mem_range.1 hi
      unfold putY
      rw [if_neg (by omega)]
    · simp [putY]
  · rw [if_neg h2, if_neg h2]
    by_cases h1 : t < j
    · rw [if_pos h1, if_pos h1]
      refine List.map_congr_left fun i hi => ?_
      unfold putY
      rw [if_neg (by omega)]
    · rw [if_neg h1, if_neg h1, if_neg h2]
theorem rowsM_at {T S : Nat} {y : Nat → Nat → Int} {j k : Nat} (h : j < T) : ix (rowsM T S y j k) (j : Int) = some ((List.range k).map (y j)) := by
  unfold rowsM
  rw [range_ix h, if_neg (Nat.lt_irrefl _), if_pos rfl]
theorem rowsM_mat {T S : Nat} {y : Nat → Nat → Int} : rowsM T S y T 0 = mat T S y := by
  unfold rowsM mat
  refine List.map_congr_left fun t ht => ?_
  rw [if_pos (List.mem_range.1 ht)]
def YOK (st : List Strip) (y : Nat → Nat → Int) : Prop := ∀ t k, 0 ≤ y t k ∧ y t k ≤ 4 ∧ (0 < y t k → reachB st t k = true)
theorem putY_sum {y : Nat → Nat → Int} {t k : Nat} {n : Int} : sumTo (putY y t k n t) (k + 1) = sumTo (y t) k + n := by
  simp only [sumTo]
  rw [sumTo_congr (g := y t) (fun i hi => by unfold putY; rw [if_neg (by omega)])]
  unfold putY
  rw [if_pos ⟨rfl, rfl⟩]
theorem putY_row {y : Nat → Nat → Int} {t k t' S : Nat} {n : Int} (h : t' ≠ t) : sumTo (putY y t k n t') S = sumTo (y t') S := by
  refine sumTo_congr fun i _ => ?_
  unfold putY
  rw [if_neg (fun e => h e.1)]
end Go.Proofs.Ws

namespace Go.Proofs.Ws
open Go Go.Fw Go.Gx Go.Sp
set_option linter.unusedVariables false
theorem made_L0 {l : List Int} (hl : l.length ≤ 9223372036854775807) {t24 t27 : m_k_Heap_From_1_R} (hS : 1 ≤ t24.r0 ∧ t24.r0 ≤ 6) (hT : 1 ≤ t27.r0 ∧ t27.r0 ≤ 5) {p r : Int} (hp : HOK l p) :
    ∃ o, iterM FU (m_l_Made_1_L0 t24 t27 l) ⟨0, p, r, []⟩ = some o ∧ HOK l o.b0_1 ∧ (o.s8_strips.length : Int) = t24.r0 ∧ ∀ x, x ∈ o.s8_strips → 0 ≤ x.tenant ∧ x.tenant < t27.r0 := by
  refine iterM_inv (f := m_l_Made_1_L0 t24 t27 l) (fun s => 0 ≤ s.t29 ∧ s.t29 ≤ t24.r0 ∧ HOK l s.b0_1 ∧ (s.s8_strips.length : Int) = s.t29 ∧ ∀ x, x ∈ s.s8_strips → 0 ≤ x.tenant ∧ x.tenant < t27.r0) (fun s => (t24.r0 - s.t29).toNat) _ (fun s hs => ?_) FU _ (FU_lt (by simp only; omega)) ⟨by simp, by simp only; omega, hp, rfl, by simp⟩
  obtain ⟨h0, h1, hk, hlen, hx⟩ := hs
  unfold m_l_Made_1_L0
  by_cases hlt : s.t29 < t24.r0
  · left
    rw [if_pos hlt, subc_eq (by omega), Option.bind_some]
    obtain ⟨z, hz, hb, hk2⟩ := upto_ok (r := s.b0_2) (n := t27.r0 - 1) hl hk (by omega)
    rw [hz, Option.bind_some, appc_eq (by simp only [List.length_cons, List.length_nil]; omega), Option.bind_some, addc_eq (by omega), Option.bind_some]
    refine ⟨_, rfl, ⟨by simp only; omega, by simp only; omega, hk2, by simp only [List.length_append, List.length_cons, List.length_nil]; omega, fun x hx' => ?_⟩, by simp only; omega⟩
    rcases List.mem_append.1 hx' with h | h
    · exact hx x h
    · rw [List.mem_singleton] at h
      subst h
      simp only; omega
  · right
    rw [if_neg hlt]
    exact ⟨_, rfl, hk, by simp only; omega, hx⟩
theorem made_L2 {l : List Int} (hl : l.length ≤ 9223372036854775807) {t24 : m_k_Heap_From_1_R} {o : m_l_Made_1_C0} {T : Nat} (hT : T ≤ 5) (hS : (o.s8_strips.length : Int) = t24.r0) (h6 : o.s8_strips.length ≤ 6) {s1 : m_l_Made_1_S1} {j : Nat} (hj : j < T) (hsj : s1.t46 = (j : Int)) {y : Nat → Nat → Int} (hy : YOK o.s8_strips y) {p r : Int} (hp : HOK l p) :
    ∃ o2, iterM FU (m_l_Made_1_L2 t24 o s1 l) ⟨0, 0, p, r, rowsM T o.s8_strips.length y j 0⟩ = some o2 ∧ HOK l o2.b0_1 ∧ ∃ y', YOK o.s8_strips y' ∧ o2.real11 = rowsM T o.s8_strips.length y' j o.s8_strips.length ∧ o2.sum13 = sumTo (y' j) o.s8_strips.length ∧ ∀ t, t ≠ j → sumTo (y' t) o.s8_strips.length = sumTo (y t) o.s8_strips.length := by
  refine iterM_inv (f := m_l_Made_1_L2 t24 o s1 l) (fun s => ∃ k : Nat, s.t50 = (k : Int) ∧ k ≤ o.s8_strips.length ∧ HOK l s.b0_1 ∧ ∃ y', YOK o.s8_strips y' ∧ s.real11 = rowsM T o.s8_strips.length y' j k ∧ s.sum13 = sumTo (y' j) k ∧ ∀ t, t ≠ j → sumTo (y' t) o.s8_strips.length = sumTo (y t) o.s8_strips.length) (fun s => o.s8_strips.length - s.t50.toNat) _ (fun s hs => ?_) FU _ (FU_lt (by simp only; omega)) ⟨0, rfl, Nat.zero_le _, hp, y, hy, rfl, rfl, fun _ _ => rfl⟩
  obtain ⟨k, hk, hkle, hh, y', hy', hre, hsum, hoth⟩ := hs
  unfold m_l_Made_1_L2
  rw [hk, hre, hsum]
  by_cases hlt : (k : Int) < t24.r0
  · left
    have hkl : k < o.s8_strips.length := by omega
    rw [if_pos hlt, hsj, m_reaches_eq (s := ⟨o.s8_strips, s1.s8_carried⟩) (by simp only; omega) (by omega), Option.bind_some]
    have hc : ∃ z : m_l_Made_1_C3, (((if reachB o.s8_strips j k = true then ((ix o.s8_strips (k : Int)).bind fun t61 => if t61.tenant = (j : Int) then (some (⟨true, s.b0_1, s.b0_2⟩ : m_l_Made_1_C4)) else ((m_k_Heap_Once_1 l s.b0_1 s.b0_2 4).bind fun t68 => some (⟨t68.r0, t68.h0_1, t68.h0_2⟩ : m_l_Made_1_C4))) else (some (⟨false, s.b0_1, s.b0_2⟩ : m_l_Made_1_C4))).bind fun o_4 => if o_4.t70 = true then ((m_k_Heap_Upto_1 l o_4.b0_1 o_4.b0_2 4).bind fun t72 => some (⟨t72.r0, t72.h0_1, t72.h0_2⟩ : m_l_Made_1_C3)) else (some (⟨0, o_4.b0_1, o_4.b0_2⟩ : m_l_Made_1_C3)))) = some z ∧ HOK l z.b0_1 ∧ 0 ≤ z.n15 ∧ z.n15 ≤ 4 ∧ (0 < z.n15 → reachB o.s8_strips j k = true) := by
      by_cases hr : reachB o.s8_strips j k = true
      · rw [if_pos hr, ix_nat default hkl, Option.bind_some]
        have hc4 : ∃ z4 : m_l_Made_1_C4, (if (o.s8_strips.getD k default).tenant = (j : Int) then (some (⟨true, s.b0_1, s.b0_2⟩ : m_l_Made_1_C4)) else ((m_k_Heap_Once_1 l s.b0_1 s.b0_2 4).bind fun t68 => some (⟨t68.r0, t68.h0_1, t68.h0_2⟩ : m_l_Made_1_C4))) = some z4 ∧ HOK l z4.b0_1 := by
          split
          · exact ⟨_, rfl, hh⟩
          · obtain ⟨x, hx, hk2⟩ := once_ok (r := s.b0_2) (n := 4) hl hh (by omega)
            rw [hx, Option.bind_some]
            exact ⟨_, rfl, hk2⟩
        obtain ⟨z4, hz4, hk4⟩ := hc4
        rw [hz4, Option.bind_some]
        split
        · obtain ⟨x, hx, hb, hk2⟩ := upto_ok (r := z4.b0_2) (n := 4) hl hk4 (by omega)
          rw [hx, Option.bind_some]
          exact ⟨_, rfl, hk2, by simp only; omega, by simp only; omega, fun _ => hr⟩
        · exact ⟨_, rfl, hk4, by simp, by simp, fun _ => hr⟩
      · rw [if_neg hr, Option.bind_some, if_neg (by simp)]
        exact ⟨_, rfl, hh, by simp, by simp, fun h => absurd h (Int.lt_irrefl _)⟩
    obtain ⟨z, hz, hzk, hz0, hz4, hzr⟩ := hc
    rw [hz, Option.bind_some, rowsM_at hj, Option.bind_some, appc_eq (by simp only [List.length_map, List.length_range, List.length_cons, List.length_nil]; omega), Option.bind_some]
    have hb := sumTo_bound (f := y' j) (b := 4) (n := k) (fun i _ => ⟨(hy' j i).1, (hy' j i).2.1⟩)
    rw [addc_eq (by omega), Option.bind_some, Option.bind_some, Option.bind_some, addc_eq (by omega), Option.bind_some, show Int.toNat (j : Int) = j by omega, rowsM_put]
    refine ⟨_, rfl, ⟨k + 1, rfl, by omega, hzk, putY y' j k z.n15, fun t k' => ?_, rfl, ?_, fun t ht => ?_⟩, by simp only; omega⟩
    · unfold putY
      split
      · rename_i he
        obtain ⟨e1, e2⟩ := he
        subst e1; subst e2
        exact ⟨hz0, hz4, hzr⟩
      · exact hy' t k'
    · rw [putY_sum]
    · rw [putY_row ht]; exact hoth t ht
  · right
    have : k = o.s8_strips.length := by omega
    subst this
    rw [if_neg hlt]
    exact ⟨_, rfl, hh, y', hy', rfl, rfl, hoth⟩
structure CarOK (S : Nat) (y : Nat → Nat → Int) (ca : List Span) (n : Nat) : Prop where
  len : ca.length = n
  ok : ∀ t, t < n → 0 ≤ (hOf ca t).lo ∧ (hOf ca t).lo ≤ sumTo (y t) S ∧ sumTo (y t) S ≤ (hOf ca t).hi ∧ (hOf ca t).hi ≤ 30
theorem made_L1 {l : List Int} (hl : l.length ≤ 9223372036854775807) {t24 : m_k_Heap_From_1_R} {o : m_l_Made_1_C0} {T : Nat} (hT : T ≤ 5) (hS : (o.s8_strips.length : Int) = t24.r0) (h6 : o.s8_strips.length ≤ 6) {t43 : List (List Int)} (h43 : t43.length = T) {p r : Int} (hp : HOK l p) :
    ∃ o1, iterM FU (m_l_Made_1_L1 t43 t24 o l) ⟨0, p, r, rowsM T o.s8_strips.length (fun _ _ => 0) 0 0, []⟩ = some o1 ∧ HOK l o1.b0_1 ∧ ∃ y, YOK o.s8_strips y ∧ o1.real11 = mat T o.s8_strips.length y ∧ CarOK o.s8_strips.length y o1.s8_carried T := by
  refine iterM_inv (f := m_l_Made_1_L1 t43 t24 o l) (fun s => ∃ j : Nat, s.t46 = (j : Int) ∧ j ≤ T ∧ HOK l s.b0_1 ∧ ∃ y, YOK o.s8_strips y ∧ s.real11 = rowsM T o.s8_strips.length y j 0 ∧ CarOK o.s8_strips.length y s.s8_carried j) (fun s => T - s.t46.toNat) _ (fun s hs => ?_) FU _ (FU_lt (by simp only; omega)) ⟨0, rfl, Nat.zero_le _, hp, fun _ _ => 0, fun t k => ⟨Int.le_refl _, (by decide : (0 : Int) ≤ 4), fun h => absurd h (Int.lt_irrefl _)⟩, rfl, rfl, fun t ht => by omega⟩
  obtain ⟨j, hj, hjle, hh, y, hy, hre, hca⟩ := hs
  have hcl := hca.len
  unfold m_l_Made_1_L1
  rw [hj, hre, h43]
  by_cases hlt : (j : Int) < (T : Int)
  · left
    rw [if_pos hlt]
    obtain ⟨o2, ho2, hk2, y', hy', hre', hsum', hoth⟩ := made_L2 hl (t24 := t24) hT hS h6 (s1 := s) (j := j) (by omega) hj hy (r := s.b0_2) hh
    rw [ho2, Option.bind_some, hsum']
    have hb := sumTo_bound (f := y' j) (b := 4) (n := o.s8_strips.length) (fun i _ => ⟨(hy' j i).1, (hy' j i).2.1⟩)
    obtain ⟨x, hx, hb2, hk3⟩ := around_ok (r := o2.b0_2) (n := sumTo (y' j) o.s8_strips.length) (wd := 2) hl hk2 (by omega) (by omega)
    rw [hx, Option.bind_some, appc_eq (by simp only [List.length_cons, List.length_nil]; omega), Option.bind_some, addc_eq (by omega), Option.bind_some]
    refine ⟨_, rfl, ⟨j + 1, rfl, by omega, hk3, y', hy', ?_, ?_, fun t ht => ?_⟩, by simp only; omega⟩
    · simp only; rw [hre', rowsM_next]
    · simp only [List.length_append, List.length_cons, List.length_nil]; omega
    · unfold hOf
      simp only
      rw [List.getD_eq_getElem?_getD]
      by_cases htj : t = j
      · subst htj
        rw [List.getElem?_append_right (by omega), hcl, Nat.sub_self]
        simp only [List.getElem?_cons_zero, Option.getD_some]
        omega
      · rw [List.getElem?_append_left (by omega), hoth t htj]
        have := hca.ok t (by omega)
        unfold hOf at this
        rw [List.getD_eq_getElem?_getD] at this
        exact this
  · right
    have : j = T := by omega
    subst this
    rw [if_neg hlt]
    exact ⟨_, rfl, hh, y, hy, by simp only; rw [rowsM_mat], hca⟩
theorem made_L4 {T S : Nat} (hT : T ≤ 5) {o1 : m_l_Made_1_C1} {y : Nat → Nat → Int} (hy : ∀ t k, 0 ≤ y t k ∧ y t k ≤ 4) (hr : o1.real11 = mat T S y) {s3 : m_l_Made_1_S3} {k : Nat} (hk : k < S) (hs : s3.t97 = (k : Int)) :
    iterM FU (m_l_Made_1_L4 o1 s3) ⟨0, 0⟩ = some (sumTo (fun t => y t k) T) := by
  have key := iterM_run (f := m_l_Made_1_L4 o1 s3) (fun j => ⟨sumTo (fun t => y t k) j, (j : Int)⟩) T (b := sumTo (fun t => y t k) T) (fun j hj => ?_) ?_ FU (FU_lt (by omega))
  · exact key
  · unfold m_l_Made_1_L4
    have hlt : (j : Int) < (o1.real11.length : Int) := by rw [hr]; simp [mat]; omega
    simp only
    have hb := sumTo_bound (f := fun t => y t k) (b := 4) (n := j) (fun i _ => hy i k)
    have hb2 := hy j k
    rw [if_pos hlt, hr, mat_row hj, Option.bind_some, hs, range_ix hk, Option.bind_some, addc_eq (by omega), Option.bind_some, addc_eq (by omega), Option.bind_some]
    rfl
  · unfold m_l_Made_1_L4
    simp only
    rw [if_neg (by rw [hr]; simp [mat])]
structure StOK (T : Nat) (y : Nat → Nat → Int) (x : Strip) (k : Nat) : Prop where
  a : In30 x.lay
  b : In30 x.seeded
  c : In30 x.left
  o1 : x.lay.lo ≤ x.lay.hi
  o2 : x.seeded.lo ≤ x.seeded.hi
  o3 : x.left.lo ≤ x.left.hi
  g1 : (goneP x).lo ≤ sumTo (fun t => y t k) T
  g2 : sumTo (fun t => y t k) T ≤ (goneP x).hi
theorem made_L3 {l : List Int} (hl : l.length ≤ 9223372036854775807) {t24 : m_k_Heap_From_1_R} {st : List Strip} {T : Nat} (hT : T ≤ 5) (hS : (st.length : Int) = t24.r0) (h6 : st.length ≤ 6) {o1 : m_l_Made_1_C1} {y : Nat → Nat → Int} (hy : ∀ t k, 0 ≤ y t k ∧ y t k ≤ 4) (hr : o1.real11 = mat T st.length y) {p r : Int} (hp : HOK l p) :
    ∃ o5, iterM FU (m_l_Made_1_L3 t24 o1 l) ⟨0, p, r, st⟩ = some o5 ∧ HOK l o5.b0_1 ∧ o5.s8_strips.map (·.tenant) = st.map (·.tenant) ∧ ∀ k, k < st.length → StOK T y (o5.s8_strips.getD k default) k := by
  refine iterM_inv (f := m_l_Made_1_L3 t24 o1 l) (fun s => ∃ k : Nat, s.t97 = (k : Int) ∧ k ≤ st.length ∧ HOK l s.b0_1 ∧ s.s8_strips.map (·.tenant) = st.map (·.tenant) ∧ ∀ i, i < k → StOK T y (s.s8_strips.getD i default) i) (fun s => st.length - s.t97.toNat) _ (fun s hs => ?_) FU _ (FU_lt (by simp only; omega)) ⟨0, rfl, Nat.zero_le _, hp, rfl, fun i hi => by omega⟩
  obtain ⟨k, hk, hkle, hh, hten, hok⟩ := hs
  have hlen : s.s8_strips.length = st.length := by have := congrArg List.length hten; simpa using this
  unfold m_l_Made_1_L3
  by_cases hlt : (k : Int) < t24.r0
  · left
    have hkl : k < st.length := by omega
    rw [hk, if_pos hlt, made_L4 hT hy hr hkl hk, Option.bind_some]
    have hb := sumTo_bound (f := fun t => y t k) (b := 4) (n := T) (fun i _ => hy i k)
    generalize hg : sumTo (fun t => y t k) T = g at hb
    obtain ⟨x1, e1, b1, k1⟩ := upto_ok (r := s.b0_2) (n := 3) hl hh (by omega)
    rw [e1, Option.bind_some]
    obtain ⟨x2, e2, b2, k2⟩ := upto_ok (r := x1.h0_2) (n := 2) hl k1 (by omega)
    rw [e2, Option.bind_some, addc_eq (by omega), Option.bind_some, ix_nat default (by omega), Option.bind_some, Option.bind_some, subc_eq (by omega), Option.bind_some]
    obtain ⟨x3, e3, b3, k3⟩ := around_ok (r := x2.h0_2) (n := g + x1.r0 - min x2.r0 (g + x1.r0)) (wd := 1) hl k2 (by omega) (by omega)
    rw [e3, Option.bind_some]
    obtain ⟨x4, e4, b4, k4⟩ := around_ok (r := x3.b0_2) (n := min x2.r0 (g + x1.r0)) (wd := 1) hl k3 (by omega) (by omega)
    rw [e4, Option.bind_some]
    obtain ⟨x5, e5, b5, k5⟩ := around_ok (r := x4.b0_2) (n := x1.r0) (wd := 1) hl k4 (by omega) (by omega)
    rw [e5, Option.bind_some, Option.bind_some, show Int.toNat (k : Int) = k by omega, ix_nat default (by rw [List.length_set]; omega), Option.bind_some, Option.bind_some, ix_nat default (by rw [List.length_set, List.length_set]; omega), Option.bind_some, Option.bind_some, addc_eq (by omega), Option.bind_some]
    have hgs : ∀ (l : List Strip) (v : Strip), k < l.length → (l.set k v).getD k default = v := fun l v h => by
      rw [List.getD_eq_getElem?_getD, List.getElem?_set_self h]; rfl
    rw [hgs _ _ (by omega), hgs _ _ (by rw [List.length_set]; omega), List.set_set, List.set_set]
    simp only
    refine ⟨_, rfl, ⟨k + 1, rfl, by omega, k5, ?_, fun i hi => ?_⟩, by simp only; omega⟩
    · simp only
      rw [List.map_set]
      simp only
      rw [← hten]
      apply List.ext_getElem?
      intro i
      rw [List.getElem?_set]
      by_cases hik : k = i
      · subst hik
        rw [if_pos rfl, if_pos (by rw [List.length_map]; omega), List.getElem?_map, List.getD_eq_getElem?_getD, List.getElem?_eq_getElem (by omega)]
        rfl
      · rw [if_neg hik]
    · by_cases hik : i = k
      · subst hik
        rw [hgs _ _ (by omega)]
        unfold In30 at *
        refine ⟨by unfold In30; simp only; omega, by unfold In30; simp only; omega, by unfold In30; simp only; omega, by simp only; omega, by simp only; omega, by simp only; omega, ?_, ?_⟩
        · rw [hg]; unfold goneP; simp only; omega
        · rw [hg]; unfold goneP; simp only; omega
      · simp only
        rw [List.getD_eq_getElem?_getD, List.getElem?_set_ne (fun e => hik e.symm), ← List.getD_eq_getElem?_getD]
        exact hok i (by omega)
  · right
    have : k = st.length := by omega
    subst this
    rw [hk, if_neg hlt]
    exact ⟨_, rfl, hh, hten, hok⟩
theorem Made_spec {l : List Int} (hl : l.length ≤ 9223372036854775807) {p r S0 T0 : Int} (hp : HOK l p) (hS : 1 ≤ S0 ∧ S0 ≤ 6) (hT : 1 ≤ T0 ∧ T0 ≤ 5) :
    ∃ x y, m_l_Made_1 l p r S0 T0 = some x ∧ HOK l x.b0_1 ∧ Right x.r0 ∧ x.r1 = mat x.r0.carried.length x.r0.strips.length y ∧ FitsS x.r0 y ∧ YOK x.r0.strips y ∧ (x.r0.strips.length : Int) ≤ S0 ∧ (x.r0.carried.length : Int) ≤ T0 := by
  unfold m_l_Made_1
  obtain ⟨t24, e24, b24, k24⟩ := from_ok (r := r) (lo := 1) (hi := S0) hl hp (by omega)
  rw [e24, Option.bind_some]
  obtain ⟨t27, e27, b27, k27⟩ := from_ok (r := t24.h0_2) (lo := 1) (hi := T0) hl k24 (by omega)
  rw [e27, Option.bind_some]
  obtain ⟨o, eo, ko, lo, to⟩ := made_L0 (t24 := t24) (t27 := t27) (r := t27.h0_2) hl (by omega) (by omega) k27
  rw [eo, Option.bind_some, makec_eq (by omega), Option.bind_some]
  obtain ⟨T, hTn⟩ : ∃ T : Nat, t27.r0 = (T : Int) := ⟨t27.r0.toNat, by omega⟩
  have hrep : List.replicate t27.r0.toNat ([] : List Int) = rowsM T o.s8_strips.length (fun _ _ => 0) 0 0 := by
    unfold rowsM
    symm
    rw [List.eq_replicate_iff]
    refine ⟨by simp; omega, fun b hb => ?_⟩
    obtain ⟨t, _, rfl⟩ := List.mem_map.1 hb
    simp
  obtain ⟨o1, e1, k1, y, hy, hr1, hca⟩ := made_L1 (l := l) hl (t24 := t24) (o := o) (T := T) (by omega) lo (by omega) (t43 := List.replicate t27.r0.toNat ([] : List Int)) (by simp; omega) (r := o.b0_2) ko
  rw [← hrep] at e1
  rw [e1, Option.bind_some]
  obtain ⟨o5, e5, k5, ht5, hs5⟩ := made_L3 (l := l) hl (t24 := t24) (st := o.s8_strips) (T := T) (by omega) lo (by omega) (o1 := o1) (y := y) (fun t k => ⟨(hy t k).1, (hy t k).2.1⟩) hr1 (r := o1.b0_2) k1
  rw [e5, Option.bind_some]
  have hl5 : o5.s8_strips.length = o.s8_strips.length := by have := congrArg List.length ht5; simpa using this
  have hcl := hca.len
  have hre : ∀ t k, reachB o5.s8_strips t k = reachB o.s8_strips t k := reachB_congr ht5
  have hst : ∀ x, x ∈ o5.s8_strips → ∃ k, k < o.s8_strips.length ∧ StOK T y x k := fun x hx => by
    obtain ⟨k, hk, rfl⟩ := List.getElem_of_mem hx
    have := hs5 k (by omega)
    rw [List.getD_eq_getElem?_getD, List.getElem?_eq_getElem hk] at this
    exact ⟨k, by omega, this⟩
  refine ⟨_, y, rfl, k5, ⟨⟨by simp only; omega, by simp only; omega, fun x hx => ?_, fun x hx => ?_⟩, by simp only; omega, by simp only; omega, fun x hx => ?_, fun x hx => ?_⟩, ?_, ⟨fun t k ht hk => ?_, fun t ht => ?_, fun k hk => ?_⟩, fun t k => ?_, by simp only; omega, by simp only; omega⟩
  · obtain ⟨k, hk, h⟩ := hst x hx
    exact ⟨h.a, h.b, h.c, Int.le_trans h.g1 h.g2⟩
  · obtain ⟨t, ht, rfl⟩ := List.getElem_of_mem hx
    simp only at ht
    have := hca.ok t (by omega)
    unfold hOf at this
    rw [List.getD_eq_getElem?_getD, List.getElem?_eq_getElem ht, Option.getD_some] at this
    unfold In30
    simp only
    omega
  · have hm : x.tenant ∈ o5.s8_strips.map (·.tenant) := List.mem_map.2 ⟨x, hx, rfl⟩
    rw [ht5] at hm
    obtain ⟨x', hx', he⟩ := List.mem_map.1 hm
    have := to x' hx'
    rw [he] at this
    simp only
    omega
  · obtain ⟨k, hk, h⟩ := hst x hx
    exact ⟨h.o1, h.o2, h.o3⟩
  · simp only
    rw [hr1, hcl, hl5]
  · simp only at ht hk ⊢
    rw [hre]
    exact ⟨(hy t k).1, (hy t k).2.2⟩
  · simp only at ht ⊢
    rw [hl5]
    have := hca.ok t (by omega)
    exact ⟨this.2.1, this.2.2.1⟩
  · simp only at hk ⊢
    rw [hcl]
    have := hs5 k (by omega)
    exact ⟨this.g1, this.g2⟩
  · simp only
    rw [hre]
    exact hy t k
end Go.Proofs.Ws

namespace Go.Proofs.Ws
open Go Go.Fw Go.Gx Go.Sp
set_option linter.unusedVariables false
def okE (s : Scalps) (t k : Nat) (n : Int) : Bool := decide (0 ≤ n ∧ n ≤ 60 ∧ (0 < n → reachB s.strips t k = true))
def rowV (row : List Int) (k : Nat) : Int := row.getD k 0
def rowB (s : Scalps) (t : Nat) (row : List Int) : Bool := decide (row.length = s.strips.length) && ((List.range s.strips.length).all (fun k => okE s t k (rowV row k)) && decide ((hOf s.carried t).lo ≤ sumTo (rowV row) s.strips.length ∧ sumTo (rowV row) s.strips.length ≤ (hOf s.carried t).hi))
def shV (rows : List (List Int)) (t k : Nat) : Int := rowV (rows.getD t []) k
def colB (s : Scalps) (rows : List (List Int)) (k : Nat) : Bool := decide ((gOf s.strips k).lo ≤ sumTo (fun t => shV rows t k) s.carried.length ∧ sumTo (fun t => shV rows t k) s.carried.length ≤ (gOf s.strips k).hi)
def fitsB (s : Scalps) (rows : List (List Int)) : Bool := decide (rows.length = s.carried.length) && ((List.range s.carried.length).all (fun t => rowB s t (rows.getD t [])) && (List.range s.strips.length).all (colB s rows))
theorem lawGone_eq (x : Strip) : m_l_gone x = m_s_Strip_gone x := rfl
theorem okE_iff {s : Scalps} {t k : Nat} {n : Int} : okE s t k n = true ↔ 0 ≤ n ∧ n ≤ 60 ∧ (0 < n → reachB s.strips t k = true) := decide_eq_true_iff
def vecS (S : Nat) (f : Nat → Int) : List Int := (List.range S).map f
theorem vecS_set {S k : Nat} {f : Nat → Int} {v : Int} : (vecS S f).set k v = vecS S fun i => if i = k then v else f i := range_set
theorem vecS_ix {S k : Nat} {f : Nat → Int} (h : k < S) : ix (vecS S f) (k : Int) = some (f k) := range_ix h
theorem vecS_len {S : Nat} {f : Nat → Int} : (vecS S f).length = S := by simp [vecS]
theorem vecS_congr {S : Nat} {f g : Nat → Int} (h : ∀ i, i < S → f i = g i) : vecS S f = vecS S g := List.map_congr_left fun i hi => h i (List.mem_range.1 hi)
theorem all_find {n : Nat} {p : Nat → Bool} : (List.range n).all p = ((List.range n).find? fun k => !p k).isNone := by
  rw [Bool.eq_iff_iff, List.all_eq_true, Option.isNone_iff_eq_none, List.find?_eq_none]
  constructor
  · intro h x hx; simp [h x hx]
  · intro h x hx; simpa using h x hx
theorem fits_L1 {s : Scalps} (h6 : s.strips.length ≤ 6) {t : Nat} {row : List Int} (hrow : row.length = s.strips.length) {f : Nat → Int} (hf : ∀ k, 0 ≤ f k ∧ f k ≤ 1000) {s0 : m_l_fits_S0} (hs0 : s0.t26 = (t : Int)) :
    iterM FU (m_l_fits_L1 row s s0) ⟨0, 0, vecS s.strips.length f⟩ = some (if (List.range s.strips.length).all (fun k => okE s t k (rowV row k)) = true then .inl ⟨sumTo (rowV row) s.strips.length, vecS s.strips.length fun k => f k + rowV row k⟩ else .inr false) := by
  have key := iterM_find (f := m_l_fits_L1 row s s0) (fun k => ⟨sumTo (rowV row) k, (k : Int), vecS s.strips.length fun i => if i < k then f i + rowV row i else f i⟩) s.strips.length (fun k => !okE s t k (rowV row k)) (fun _ => .inr false) (.inl ⟨sumTo (rowV row) s.strips.length, vecS s.strips.length fun k => f k + rowV row k⟩) (fun k hk hprev => ?_) ?_ (N := FU) (FU_lt (by omega))
  · have e : (⟨0, 0, vecS s.strips.length f⟩ : m_l_fits_S1) = ⟨sumTo (rowV row) 0, ((0 : Nat) : Int), vecS s.strips.length fun i => if i < 0 then f i + rowV row i else f i⟩ := by
      have : vecS s.strips.length f = vecS s.strips.length fun i => if i < 0 then f i + rowV row i else f i := vecS_congr fun i _ => by rw [if_neg (by omega)]
      rw [← this]; rfl
    rw [e, key, all_find]
    cases (List.range s.strips.length).find? (fun k => !okE s t k (rowV row k)) with
    | none => rfl
    | some k => rfl
  · unfold m_l_fits_L1
    have hlt : (k : Int) < (row.length : Int) := by omega
    have hb : ∀ n, n ≤ k → 0 ≤ sumTo (rowV row) n ∧ sumTo (rowV row) n ≤ 60 * (n : Int) := fun n hn => sumTo_bound (f := rowV row) (b := 60) fun i hi => by
      have := hprev i (by omega)
      rw [Bool.not_eq_false'] at this
      have := okE_iff.1 this
      omega
    have hbk := hb k (Nat.le_refl _)
    simp only
    rw [if_pos hlt, ix_nat 0 (by omega), Option.bind_some]
    have hc : (if row.getD k 0 < 0 then some true else if 60 < row.getD k 0 then some true else if 0 < row.getD k 0 then (m_l_reaches s s0.t26 (k : Int)).bind fun t56 => some (!t56) else some false) = some (!okE s t k (rowV row k)) := by
      rw [hs0, m_reaches_eq (by omega) (by omega), Option.bind_some]
      unfold rowV
      generalize row.getD k 0 = n
      by_cases h1 : n < 0
      · rw [if_pos h1]
        have : okE s t k n = false := by rw [← Bool.not_eq_true, okE_iff]; omega
        rw [this]; rfl
      · rw [if_neg h1]
        by_cases h2 : 60 < n
        · rw [if_pos h2]
          have : okE s t k n = false := by rw [← Bool.not_eq_true, okE_iff]; omega
          rw [this]; rfl
        · rw [if_neg h2]
          by_cases h3 : 0 < n
          · rw [if_pos h3]
            have : okE s t k n = reachB s.strips t k := by
              rw [Bool.eq_iff_iff, okE_iff]
              exact ⟨fun h => h.2.2 h3, fun h => ⟨by omega, by omega, fun _ => h⟩⟩
            rw [this]
          · rw [if_neg h3]
            have : okE s t k n = true := okE_iff.2 ⟨by omega, by omega, fun h => absurd h h3⟩
            rw [this]; rfl
    rw [hc, Option.bind_some]
    cases hok : okE s t k (rowV row k) with
    | false => rfl
    | true =>
      have hok' := okE_iff.1 hok
      have hfk := hf k
      simp only [Bool.not_true, Bool.false_eq_true, if_false]
      unfold rowV at hok' hbk ⊢
      rw [addc_eq (by omega), Option.bind_some, vecS_ix hk, Option.bind_some, if_neg (Nat.lt_irrefl _), addc_eq (by omega), Option.bind_some, Option.bind_some, Option.bind_some, addc_eq (by omega), Option.bind_some, show Int.toNat (k : Int) = k by omega, vecS_set]
      congr 3
      refine vecS_congr fun i _ => ?_
      by_cases hik : i = k
      · subst hik; rw [if_pos rfl, if_pos (by omega)]
      · rw [if_neg hik]
        by_cases h2 : i < k
        · rw [if_pos h2, if_pos (by omega)]
        · rw [if_neg h2, if_neg (by omega)]
  · unfold m_l_fits_L1
    simp only
    rw [if_neg (by omega)]
    congr 3
    congr 1
    refine vecS_congr fun i hi => ?_
    rw [if_pos hi]
theorem fits_L0 {s : Scalps} (h6 : s.strips.length ≤ 6) (h5 : s.carried.length ≤ 5) {rows : List (List Int)} (hrows : rows.length = s.carried.length) :
    iterM FU (m_l_fits_L0 rows s) ⟨0, vecS s.strips.length fun _ => 0⟩ = some (if (List.range s.carried.length).all (fun t => rowB s t (rows.getD t [])) = true then .inl (vecS s.strips.length fun k => sumTo (fun t => shV rows t k) s.carried.length) else .inr false) := by
  have key := iterM_find (f := m_l_fits_L0 rows s) (fun t => ⟨(t : Int), vecS s.strips.length fun k => sumTo (fun t => shV rows t k) t⟩) s.carried.length (fun t => !rowB s t (rows.getD t [])) (fun _ => .inr false) (.inl (vecS s.strips.length fun k => sumTo (fun t => shV rows t k) s.carried.length)) (fun t ht hprev => ?_) ?_ (N := FU) (FU_lt (by omega))
  · have e : (⟨0, vecS s.strips.length fun _ => 0⟩ : m_l_fits_S0) = ⟨((0 : Nat) : Int), vecS s.strips.length fun k => sumTo (fun t => shV rows t k) 0⟩ := rfl
    rw [e, key, all_find]
    cases (List.range s.carried.length).find? (fun t => !rowB s t (rows.getD t [])) with
    | none => rfl
    | some k => rfl
  · unfold m_l_fits_L0
    have hlt : (t : Int) < (rows.length : Int) := by omega
    simp only
    rw [if_pos hlt, ix_nat [] (by omega), Option.bind_some, vecS_len]
    by_cases hlen : (rows.getD t []).length = s.strips.length
    · rw [if_pos (by omega)]
      have hbd : ∀ k, 0 ≤ (if k < s.strips.length then sumTo (fun t => shV rows t k) t else 0) ∧ (if k < s.strips.length then sumTo (fun t => shV rows t k) t else 0) ≤ 1000 := fun k => by
        by_cases hk : k < s.strips.length
        · rw [if_pos hk]
          have := sumTo_bound (f := fun t => shV rows t k) (b := 60) (n := t) (fun i hi => by
            have := hprev i hi
            rw [Bool.not_eq_false'] at this
            unfold rowB at this
            rw [Bool.and_eq_true, Bool.and_eq_true] at this
            have := okE_iff.1 (List.all_eq_true.1 this.2.1 k (List.mem_range.2 hk))
            unfold shV
            omega)
          omega
        · rw [if_neg hk]; omega
      have hL := fits_L1 h6 (t := t) hlen (f := fun k => if k < s.strips.length then sumTo (fun t => shV rows t k) t else 0) hbd (s0 := ⟨(t : Int), vecS s.strips.length fun k => sumTo (fun t => shV rows t k) t⟩) rfl
      rw [vecS_congr (f := fun k => if k < s.strips.length then sumTo (fun t => shV rows t k) t else 0) (g := fun k => sumTo (fun t => shV rows t k) t) (fun i hi => if_pos hi)] at hL
      rw [vecS_congr (f := fun k => (if k < s.strips.length then sumTo (fun t => shV rows t k) t else 0) + rowV (rows.getD t []) k) (g := fun k => sumTo (fun t => shV rows t k) (t + 1)) (fun i hi => by rw [if_pos hi]; rfl)] at hL
      rw [hL, Option.bind_some]
      unfold rowB
      rw [decide_eq_true hlen, Bool.true_and]
      by_cases hall : (List.range s.strips.length).all (fun k => okE s t k (rowV (rows.getD t []) k)) = true
      · rw [if_pos hall, oc_inl, hall, Bool.true_and]
        simp only
        rw [ix_nat default ht, Option.bind_some, Option.bind_some]
        unfold hOf
        by_cases h1 : sumTo (rowV (rows.getD t [])) s.strips.length < (s.carried.getD t default).lo
        · rw [if_pos h1, Option.bind_some, if_pos rfl, decide_eq_false (fun h => by omega)]; rfl
        · rw [if_neg h1, Option.bind_some]
          by_cases h2 : (s.carried.getD t default).hi < sumTo (rowV (rows.getD t [])) s.strips.length
          · rw [decide_eq_true h2, if_pos rfl, decide_eq_false (fun h => by omega)]; rfl
          · rw [decide_eq_false h2, if_neg (by simp), decide_eq_true ⟨by omega, by omega⟩, addc_eq (by omega), Option.bind_some]; rfl
      · have hf : (List.range s.strips.length).all (fun k => okE s t k (rowV (rows.getD t []) k)) = false := by simpa using hall
        rw [if_neg hall, oc_inr, hf]; rfl
    · rw [if_neg (by omega)]
      unfold rowB
      rw [decide_eq_false hlen]; rfl
  · unfold m_l_fits_L0
    simp only
    rw [if_neg (by omega)]
theorem m_fits_eq {s : Scalps} (h : Right s) (rows : List (List Int)) : m_l_fits s rows = some (fitsB s rows) := by
  have h6 := h.net.s6; have h5 := h.net.c5
  unfold m_l_fits fitsB
  by_cases hl : rows.length = s.carried.length
  · rw [if_pos (by omega), makec_eq (by omega), Option.bind_some, decide_eq_true hl, Bool.true_and]
    have e : List.replicate (s.strips.length : Int).toNat (0 : Int) = vecS s.strips.length fun _ => 0 := by
      unfold vecS
      symm
      rw [List.eq_replicate_iff]
      exact ⟨by simp, fun b hb => by obtain ⟨t, _, rfl⟩ := List.mem_map.1 hb; rfl⟩
    rw [e, fits_L0 h6 h5 hl, Option.bind_some]
    by_cases hall : (List.range s.carried.length).all (fun t => rowB s t (rows.getD t [])) = true
    · rw [if_pos hall, oc_inl, hall, Bool.true_and]
      have key := iterM_any0 (f := m_l_fits_L2 (vecS s.strips.length fun k => sumTo (fun t => shV rows t k) s.carried.length) s) s.strips.length (fun k => !colB s rows k) false (fun k hk => ?_) ?_ (N := FU) (FU_lt (by omega))
      · rw [key, Option.bind_some]
        have e2 : (List.range s.strips.length).all (colB s rows) = !(List.range s.strips.length).any fun k => !colB s rows k := (not_any_not).symm
        rw [e2]
        cases (List.range s.strips.length).any fun k => !colB s rows k <;> rfl
      · unfold m_l_fits_L2
        have hx : s.strips.getD k default = s.strips[k] := by simp [List.getD_eq_getElem?_getD, hk]
        obtain ⟨b1, b2, b3, b4⟩ := h.net.sp _ (List.getElem_mem hk)
        rw [vecS_len, if_pos (by omega), vecS_ix hk, Option.bind_some, ix_nat default hk, Option.bind_some, hx, lawGone_eq]
        have e3 : m_s_Strip_gone (⟨s.strips[k].tenant, ⟨s.strips[k].lay.lo, s.strips[k].lay.hi⟩, ⟨s.strips[k].seeded.lo, s.strips[k].seeded.hi⟩, ⟨s.strips[k].left.lo, s.strips[k].left.hi⟩⟩ : Strip) = some (gOf s.strips k) := by
          unfold gOf; rw [hx]; exact m_gone_eq b1 b2 b3
        rw [e3, Option.bind_some]
        unfold colB
        by_cases h1 : sumTo (fun t => shV rows t k) s.carried.length < (gOf s.strips k).lo
        · rw [if_pos h1, Option.bind_some, if_pos rfl, decide_eq_false (fun h => by omega)]; rfl
        · rw [if_neg h1, Option.bind_some]
          by_cases h2 : (gOf s.strips k).hi < sumTo (fun t => shV rows t k) s.carried.length
          · rw [decide_eq_true h2, if_pos rfl, decide_eq_false (fun h => by omega)]; rfl
          · rw [decide_eq_false h2, if_neg (by simp), decide_eq_true ⟨by omega, by omega⟩, addc_eq (by omega), Option.bind_some]; rfl
      · unfold m_l_fits_L2
        rw [vecS_len, if_neg (by omega)]
    · have hf : (List.range s.carried.length).all (fun t => rowB s t (rows.getD t [])) = false := by simpa using hall
      rw [if_neg hall, oc_inr, hf]; rfl
  · rw [if_neg (by omega), decide_eq_false hl]; rfl
theorem mat_getD {T S t : Nat} {y : Nat → Nat → Int} (ht : t < T) : (mat T S y).getD t [] = vecS S (y t) := by
  unfold mat vecS
  simp [List.getD_eq_getElem?_getD, ht]
theorem vecS_get {S k : Nat} {f : Nat → Int} (hk : k < S) : rowV (vecS S f) k = f k := by
  unfold rowV vecS
  simp [List.getD_eq_getElem?_getD, hk]
theorem mat_shV {T S t k : Nat} {y : Nat → Nat → Int} (ht : t < T) (hk : k < S) : shV (mat T S y) t k = y t k := by
  unfold shV
  rw [mat_getD ht, vecS_get hk]
theorem mat_len {T S : Nat} {y : Nat → Nat → Int} : (mat T S y).length = T := by simp [mat]
theorem le60 {s : Scalps} (h : Right s) {y : Nat → Nat → Int} (hy : FitsS s y) {t k : Nat} (ht : t < s.carried.length) (hk : k < s.strips.length) : y t k ≤ 60 := by
  have a := sumTo_mem_le (f := y t) (n := s.strips.length) (j := k) (fun i hi => (hy.pos t i ht hi).1) hk
  have b := (hy.ten t ht).2
  have c := hOf_ok h.net ht
  have e : sumTo (fun k => y t k) s.strips.length = sumTo (y t) s.strips.length := rfl
  omega
theorem fitsB_mat {s : Scalps} (h : Right s) {y : Nat → Nat → Int} : fitsB s (mat s.carried.length s.strips.length y) = true ↔ FitsS s y := by
  unfold fitsB
  rw [mat_len, decide_eq_true rfl, Bool.true_and, Bool.and_eq_true, List.all_eq_true, List.all_eq_true]
  have hrowsum : ∀ t, t < s.carried.length → sumTo (rowV (vecS s.strips.length (y t))) s.strips.length = sumTo (fun k => y t k) s.strips.length := fun t ht => sumTo_congr fun k hk => vecS_get hk
  have hcolsum : ∀ k, k < s.strips.length → sumTo (fun t => shV (mat s.carried.length s.strips.length y) t k) s.carried.length = sumTo (fun t => y t k) s.carried.length := fun k hk => sumTo_congr fun t ht => mat_shV ht hk
  constructor
  · rintro ⟨h1, h2⟩
    have h1' : ∀ t, t < s.carried.length → (∀ k, k < s.strips.length → 0 ≤ y t k ∧ y t k ≤ 60 ∧ (0 < y t k → reachB s.strips t k = true)) ∧ (hOf s.carried t).lo ≤ sumTo (fun k => y t k) s.strips.length ∧ sumTo (fun k => y t k) s.strips.length ≤ (hOf s.carried t).hi := fun t ht => by
      have := h1 t (List.mem_range.2 ht)
      unfold rowB at this
      rw [mat_getD ht, Bool.and_eq_true, Bool.and_eq_true, List.all_eq_true] at this
      refine ⟨fun k hk => ?_, ?_⟩
      · have a := okE_iff.1 (this.2.1 k (List.mem_range.2 hk))
        rwa [vecS_get hk] at a
      · have a := of_decide_eq_true this.2.2
        rwa [hrowsum t ht] at a
    refine ⟨fun t k ht hk => ⟨((h1' t ht).1 k hk).1, ((h1' t ht).1 k hk).2.2⟩, fun t ht => (h1' t ht).2, fun k hk => ?_⟩
    have := of_decide_eq_true (h2 k (List.mem_range.2 hk))
    rwa [hcolsum k hk] at this
  · intro hy
    refine ⟨fun t ht => ?_, fun k hk => ?_⟩
    · have ht' := List.mem_range.1 ht
      unfold rowB
      rw [mat_getD ht', Bool.and_eq_true, Bool.and_eq_true, List.all_eq_true]
      refine ⟨decide_eq_true vecS_len, fun k hk => okE_iff.2 ?_, decide_eq_true ?_⟩
      · have hk' := List.mem_range.1 hk
        rw [vecS_get hk']
        exact ⟨(hy.pos t k ht' hk').1, le60 h hy ht' hk', (hy.pos t k ht' hk').2⟩
      · rw [hrowsum t ht']; exact hy.ten t ht'
    · have hk' := List.mem_range.1 hk
      unfold colB
      rw [hcolsum k hk']
      exact decide_eq_true (hy.str k hk')
end Go.Proofs.Ws

namespace Go.Proofs.Ws
open Go Go.Fw Go.Gx Go.Sp
set_option maxRecDepth 100000 in
theorem awake_eq : m_l_awake = some true := by decide +kernel
end Go.Proofs.Ws

namespace Go.Proofs.Ws
open Go Go.Fw Go.Gx Go.Sp
set_option linter.unusedVariables false
def AscR (l : List Int) (n : Int) : Prop := (∀ j, j + 1 < l.length → gtI l j < gtI l (j + 1)) ∧ ∀ x, x ∈ l → 0 ≤ x ∧ x < n
theorem AscR.nil {n : Int} : AscR [] n := ⟨fun j hj => by simp at hj, fun x hx => by simp at hx⟩
theorem AscR.mono {l : List Int} {n m : Int} (h : AscR l n) (hnm : n ≤ m) : AscR l m := ⟨h.1, fun x hx => by have := h.2 x hx; omega⟩
theorem AscR.inr {l : List Int} {n : Int} (h : AscR l n) : (l.all fun x => inb x 0 (n - 1)) = true := by
  rw [List.all_eq_true]
  intro x hx
  have := h.2 x hx
  exact inb_iff.2 (by omega)
end Go.Proofs.Ws

namespace Go.Proofs.Ws
open Go Go.Fw Go.Gx Go.Sp
set_option linter.unusedVariables false
def jsC (t0 k0 t k : Nat) : Int := cnt (decide (t = t0 ∧ k = k0))
def msC (s : Scalps) (k0 t k : Nat) : Int := cnt (decide (k = k0) && othB s t k)
theorem cf_stolen (s : Scalps) (t0 : Nat) : CfIs s (fun p => m_s_some_1_2 p (t0 : Int) s.strips s.carried) (stC s t0) := cf_verd s t0
theorem cf_taken (s : Scalps) (t0 k0 : Nat) : CfIs s (fun p => m_s_some_1_3 p (t0 : Int) (k0 : Int)) (jsC t0 k0) := fun t k _ _ => by
  refine ⟨?_, (cnt_range _).1, (cnt_range _).2.1⟩
  unfold m_s_some_1_3 m_s_Taken_1 jsC cnt
  simp only [Option.bind_some]
  by_cases h : t = t0 ∧ k = k0
  · obtain ⟨rfl, rfl⟩ := h
    rw [if_pos (decide_eq_true rfl), if_pos (decide_eq_true ⟨rfl, rfl⟩)]
  · rw [if_neg (fun hh => h (of_decide_eq_true hh)), if_neg]
    intro hh
    have := of_decide_eq_true hh
    simp only [Pair.mk.injEq] at this
    exact h ⟨by omega, by omega⟩
theorem cf_missed (s : Scalps) (k0 : Nat) : CfIs s (fun p => m_s_some_1_4 p (k0 : Int) s.strips s.carried) (msC s k0) := fun t k _ hk => by
  refine ⟨?_, (cnt_range _).1, (cnt_range _).2.1⟩
  unfold m_s_some_1_4 m_s_Missed_1 msC cnt
  simp only
  by_cases ht : k = k0
  · subst ht
    rw [if_pos rfl, m_other_eq hk, Option.bind_some, Option.bind_some, Option.bind_some, decide_eq_true rfl, Bool.true_and]
    split <;> rfl
  · rw [if_neg (by omega), Option.bind_some, Option.bind_some, decide_eq_false ht]; rfl
theorem inb_nat {n : Nat} {t : Nat} : inb (t : Int) 0 ((n : Int) - 1) = decide (t < n) := by
  rw [Bool.eq_iff_iff, inb_iff, decide_eq_true_iff]; omega
theorem Stolen_spec {s : Scalps} (h : Right s) {t : Nat} (ht : t < s.carried.length) : (∃ lo hi, m_s_Stolen s (t : Int) = some ⟨⟨lo, hi⟩, 0⟩ ∧ IsRange s (stC s t) lo hi) ∨ (m_s_Stolen s (t : Int) = some ⟨⟨0, 0⟩, 7⟩ ∧ NoFit s) := by
  obtain ⟨mp, hmp, hm⟩ := m_opened_right h
  have h5 := h.net.c5
  unfold m_s_Stolen m_s_some_3
  rw [hmp, Option.bind_some, oc_inr, m_tenant_eq (by omega), Option.bind_some, inb_nat, decide_eq_true ht]
  simp only [Bool.not_true, Bool.false_eq_true, if_false]
  rw [Option.bind_some]
  rcases spread_spec h hm (cf_stolen s t) with ⟨lo, hi, h1, hr⟩ | ⟨h1, hn⟩
  · rw [h1, Option.bind_some]; exact .inl ⟨lo, hi, rfl, hr⟩
  · rw [h1, Option.bind_some]; exact .inr ⟨rfl, hn⟩
theorem Taken_spec {s : Scalps} (h : Right s) {t k : Nat} (ht : t < s.carried.length) (hk : k < s.strips.length) : (∃ lo hi, m_s_Taken s (t : Int) (k : Int) = some ⟨⟨lo, hi⟩, 0⟩ ∧ IsRange s (jsC t k) lo hi) ∨ (m_s_Taken s (t : Int) (k : Int) = some ⟨⟨0, 0⟩, 7⟩ ∧ NoFit s) := by
  obtain ⟨mp, hmp, hm⟩ := m_opened_right h
  have h5 := h.net.c5; have h6 := h.net.s6
  unfold m_s_Taken m_s_some_4
  rw [hmp, Option.bind_some, oc_inr, m_tenant_eq (by omega), Option.bind_some, inb_nat, decide_eq_true ht]
  simp only [Bool.not_true, Bool.false_eq_true, if_false]
  rw [m_s_eq (by omega), Option.bind_some, Option.bind_some, inb_nat, decide_eq_true hk]
  simp only [Bool.not_true, Bool.false_eq_true, if_false]
  rw [Option.bind_some]
  rcases spread_spec h hm (cf_taken s t k) with ⟨lo, hi, h1, hr⟩ | ⟨h1, hn⟩
  · rw [h1, Option.bind_some]; exact .inl ⟨lo, hi, rfl, hr⟩
  · rw [h1, Option.bind_some]; exact .inr ⟨rfl, hn⟩
theorem Missed_spec {s : Scalps} (h : Right s) {k : Nat} (hk : k < s.strips.length) : (∃ lo hi, m_s_Missed s (k : Int) = some ⟨⟨lo, hi⟩, 0⟩ ∧ IsRange s (msC s k) lo hi) ∨ (m_s_Missed s (k : Int) = some ⟨⟨0, 0⟩, 7⟩ ∧ NoFit s) := by
  obtain ⟨mp, hmp, hm⟩ := m_opened_right h
  have h6 := h.net.s6
  unfold m_s_Missed m_s_some_5
  rw [hmp, Option.bind_some, oc_inr, m_s_eq (by omega), Option.bind_some, inb_nat, decide_eq_true hk]
  simp only [Bool.not_true, Bool.false_eq_true, if_false]
  rw [Option.bind_some]
  rcases spread_spec h hm (cf_missed s k) with ⟨lo, hi, h1, hr⟩ | ⟨h1, hn⟩
  · rw [h1, Option.bind_some]; exact .inl ⟨lo, hi, rfl, hr⟩
  · rw [h1, Option.bind_some]; exact .inr ⟨rfl, hn⟩
theorem gone_at {s : Scalps} (h : Right s) {k : Nat} (hk : k < s.strips.length) : m_s_Strip_gone (s.strips.getD k default) = some (gOf s.strips k) := by
  have hx : s.strips.getD k default = s.strips[k] := by simp [List.getD_eq_getElem?_getD, hk]
  obtain ⟨b1, b2, b3, b4⟩ := h.net.sp _ (List.getElem_mem hk)
  unfold gOf; rw [hx]; exact m_gone_eq b1 b2 b3
theorem countS_congr {s : Scalps} {c c' y y' : Nat → Nat → Int} (h : ∀ t k, t < s.carried.length → k < s.strips.length → c t k * y t k = c' t k * y' t k) : countS s c y = countS s c' y' := by
  unfold countS countY
  exact sumTo_congr fun t ht => sumTo_congr fun k hk => h t k ht hk
theorem count_just {s : Scalps} {t k : Nat} (ht : t < s.carried.length) (hk : k < s.strips.length) (y : Nat → Nat → Int) : countS s (jsC t k) y = y t k := by
  unfold countS countY
  have e1 : sumTo (fun t' => sumTo (fun k' => jsC t k t' k' * y t' k') s.strips.length) s.carried.length = sumTo (fun t' => if t' = t then sumTo (fun k' => if k' = k then y t' k' else 0) s.strips.length else 0) s.carried.length := by
    refine sumTo_congr fun t' _ => ?_
    by_cases h : t' = t
    · subst h
      rw [if_pos rfl]
      refine sumTo_congr fun k' _ => ?_
      unfold jsC cnt
      by_cases h2 : k' = k
      · subst h2; simp
      · simp [h2]
    · rw [if_neg h, sumTo_congr (g := fun _ => 0) (fun k' _ => by unfold jsC cnt; simp [h]), sumTo_zero]
  rw [e1]
  have e2 := sumTo_one (f := fun t' => sumTo (fun k' => if k' = k then y t' k' else 0) s.strips.length) ht
  rw [e2]
  exact sumTo_one (f := fun k' => y t k') hk
theorem count_missed {s : Scalps} {k : Nat} (hk : k < s.strips.length) (y : Nat → Nat → Int) : countS s (msC s k) y = sumTo (fun t => thC s t k * y t k) s.carried.length := by
  unfold countS countY
  refine sumTo_congr fun t _ => ?_
  have e1 : sumTo (fun k' => msC s k t k' * y t k') s.strips.length = sumTo (fun k' => if k' = k then thC s t k' * y t k' else 0) s.strips.length := by
    refine sumTo_congr fun k' _ => ?_
    by_cases h : k' = k
    · subst h
      rw [if_pos rfl]
      unfold msC thC
      rw [decide_eq_true rfl, Bool.true_and]
    · rw [if_neg h]
      unfold msC cnt; rw [decide_eq_false h]; simp
  rw [e1]
  exact sumTo_one (f := fun k' => thC s t k' * y t k') hk
end Go.Proofs.Ws

namespace Go.Proofs.Ws
open Go Go.Fw Go.Gx Go.Sp
set_option linter.unusedVariables false
theorem hok0 {l : List Int} : HOK l 0 := ⟨Int.le_refl _, .inr rfl⟩
end Go.Proofs.Ws

namespace Go.Proofs.Ws
open Go Go.Fw Go.Gx Go.Sp
set_option linter.unusedVariables false
theorem thC_le (s : Scalps) (t k : Nat) (v : Int) (hv : 0 ≤ v) : thC s t k * v ≤ v ∧ 0 ≤ thC s t k * v := by
  unfold thC cnt; split <;> omega
end Go.Proofs.Ws

namespace Go.Proofs.Ws
open Go Go.Fw Go.Gx Go.Sp
set_option linter.unusedVariables false
structure Alike (s s' : Scalps) : Prop where
  ca : s'.carried = s.carried
  ten : s'.strips.map (·.tenant) = s.strips.map (·.tenant)
  gone : ∀ k, k < s.strips.length → gOf s'.strips k = gOf s.strips k
theorem Alike.len {s s' : Scalps} (h : Alike s s') : s'.strips.length = s.strips.length := by have := congrArg List.length h.ten; simpa using this
theorem Alike.fits {s s' : Scalps} (h : Alike s s') {y : Nat → Nat → Int} : FitsS s' y ↔ FitsS s y := by
  have hl := h.len
  have hr : ∀ t k, reachB s'.strips t k = reachB s.strips t k := reachB_congr h.ten
  constructor
  · intro hy
    exact ⟨fun t k ht hk => by rw [← hr]; exact hy.pos t k (by rw [h.ca]; exact ht) (by omega), fun t ht => by have := hy.ten t (by rw [h.ca]; exact ht); rw [h.ca, hl] at this; exact this, fun k hk => by have := hy.str k (by omega); rw [h.gone k hk, h.ca] at this; exact this⟩
  · intro hy
    exact ⟨fun t k ht hk => by rw [hr]; exact hy.pos t k (by rw [← h.ca]; exact ht) (by omega), fun t ht => by rw [h.ca, hl]; exact hy.ten t (by rw [← h.ca]; exact ht), fun k hk => by rw [h.gone k (by omega), h.ca]; exact hy.str k (by omega)⟩
theorem Alike.count {s s' : Scalps} (h : Alike s s') {c c' : Nat → Nat → Int} (hc : ∀ t k, c' t k = c t k) (y : Nat → Nat → Int) : countS s' c' y = countS s c y := by
  unfold countS countY
  rw [h.ca, h.len]
  exact sumTo_congr fun t ht => sumTo_congr fun k hk => by rw [hc]
theorem Alike.range {s s' : Scalps} (h : Alike s s') {c c' : Nat → Nat → Int} (hc : ∀ t k, c' t k = c t k) {lo hi : Int} (hr : IsRange s' c' lo hi) : IsRange s c lo hi := by
  obtain ⟨⟨y1, f1, e1⟩, ⟨y2, f2, e2⟩, h3⟩ := hr
  exact ⟨⟨y1, h.fits.1 f1, by rw [← h.count hc]; exact e1⟩, ⟨y2, h.fits.1 f2, by rw [← h.count hc]; exact e2⟩, fun y hy => by rw [← h.count hc]; exact h3 y (h.fits.2 hy)⟩
end Go.Proofs.Ws

namespace Go.Proofs.Ws
open Go Go.Fw Go.Gx Go.Sp
set_option linter.unusedVariables false
def slack (π : Int → Int) (s : List Int) : Int := sumTo (fun v => gI 0 s (v : Int) - π (v : Int)) 12
end Go.Proofs.Ws

namespace Go.Proofs.Ws
open Go Go.Fw Go.Gx Go.Sp
set_option linter.unusedVariables false
def stoC (s : Scalps) (tenant : Int) (t k : Nat) : Int := cnt ((decide (tenant < 0) || decide ((t : Int) = tenant)) && othB s t k)
theorem stoC_one (s : Scalps) (t0 t k : Nat) : stoC s (t0 : Int) t k = stC s t0 t k := by
  unfold stoC stC
  rw [decide_eq_false (show ¬ (t0 : Int) < 0 by omega), Bool.false_or]
  congr 2
  rw [Bool.eq_iff_iff, decide_eq_true_iff, decide_eq_true_iff]; omega
theorem stoC_le (s : Scalps) (tn : Int) (t k : Nat) (v : Int) (hv : 0 ≤ v ∧ v ≤ 60) : 0 ≤ stoC s tn t k * v ∧ stoC s tn t k * v ≤ 60 := by
  unfold stoC cnt; split <;> omega
theorem m_stolen_eq {s : Scalps} (h : Right s) {y : Nat → Nat → Int} (hy : ∀ t k, t < s.carried.length → k < s.strips.length → 0 ≤ y t k ∧ y t k ≤ 60) (tenant : Int) :
    m_l_stolen s (mat s.carried.length s.strips.length y) tenant = some (countS s (stoC s tenant) y) := by
  have h6 := h.net.s6; have h5 := h.net.c5
  have hrow : ∀ t, t < s.carried.length → ∀ n, n ≤ s.strips.length → 0 ≤ sumTo (fun k => stoC s tenant t k * y t k) n ∧ sumTo (fun k => stoC s tenant t k * y t k) n ≤ 60 * (n : Int) := fun t ht n hn => sumTo_bound (fun k hk => stoC_le s tenant t k _ (hy t k ht (by omega)))
  have hrow6 : ∀ t, t < s.carried.length → 0 ≤ sumTo (fun k => stoC s tenant t k * y t k) s.strips.length ∧ sumTo (fun k => stoC s tenant t k * y t k) s.strips.length ≤ 360 := fun t ht => by have := hrow t ht _ (Nat.le_refl _); omega
  unfold m_l_stolen
  have key := iterM_run (f := m_l_stolen_L0 (mat s.carried.length s.strips.length y) tenant s) (fun t => ⟨sumTo (fun t => sumTo (fun k => stoC s tenant t k * y t k) s.strips.length) t, (t : Int)⟩) s.carried.length (b := countS s (stoC s tenant) y) (fun t ht => ?_) ?_ FU (FU_lt (by omega))
  · have e : (⟨0, 0⟩ : m_l_stolen_S0) = ⟨sumTo (fun t => sumTo (fun k => stoC s tenant t k * y t k) s.strips.length) 0, ((0 : Nat) : Int)⟩ := rfl
    rw [e, key]; rfl
  · unfold m_l_stolen_L0
    have hlt : (t : Int) < ((mat s.carried.length s.strips.length y).length : Int) := by rw [mat_len]; omega
    simp only [hlt, if_true]
    rw [mat_row ht, Option.bind_some]
    have hbs := sumTo_bound (f := fun t => sumTo (fun k => stoC s tenant t k * y t k) s.strips.length) (b := 360) (n := t) (fun i hi => hrow6 i (by omega))
    generalize hA : sumTo (fun t => sumTo (fun k => stoC s tenant t k * y t k) s.strips.length) t = A at hbs
    have k1 := iterM_run (f := m_l_stolen_L1 ((List.range s.strips.length).map (y t)) tenant s ⟨A, (t : Int)⟩) (fun k => ⟨A + sumTo (fun k => stoC s tenant t k * y t k) k, (k : Int)⟩) s.strips.length (b := A + sumTo (fun k => stoC s tenant t k * y t k) s.strips.length) (fun k hk => by
      unfold m_l_stolen_L1
      have hlt2 : (k : Int) < (((List.range s.strips.length).map (y t)).length : Int) := by simp; omega
      simp only [hlt2, if_true]
      have hb2 := hrow t ht k (by omega)
      have hyk := hy t k ht hk
      rw [range_ix hk, Option.bind_some, ix_nat default hk, Option.bind_some]
      have hc : (if tenant < 0 then (some (!decide ((s.strips.getD k default).tenant = (t : Int))) : Option Bool) else if (t : Int) = tenant then some (!decide ((s.strips.getD k default).tenant = (t : Int))) else some false) = some ((decide (tenant < 0) || decide ((t : Int) = tenant)) && othB s t k) := by
        unfold othB
        by_cases h1 : tenant < 0
        · rw [if_pos h1, decide_eq_true h1]; rfl
        · rw [if_neg h1, decide_eq_false h1]
          by_cases h2 : (t : Int) = tenant
          · rw [if_pos h2, decide_eq_true h2]; rfl
          · rw [if_neg h2, decide_eq_false h2]; rfl
      rw [hc, Option.bind_some]
      simp only [sumTo]
      unfold stoC cnt at hb2 ⊢
      split
      · rw [addc_eq (by omega), Option.bind_some, Option.bind_some, addc_eq (by omega), Option.bind_some, Int.one_mul, Int.add_assoc]; rfl
      · rw [Option.bind_some, addc_eq (by omega), Option.bind_some, Int.zero_mul, Int.add_zero]; rfl) (by
      unfold m_l_stolen_L1
      simp) FU (FU_lt (by omega))
    have e : (⟨A, 0⟩ : m_l_stolen_S1) = ⟨A + sumTo (fun k => stoC s tenant t k * y t k) 0, ((0 : Nat) : Int)⟩ := by simp [sumTo]
    rw [e, k1, Option.bind_some, addc_eq (by omega), Option.bind_some]
    simp only [sumTo]
    rw [hA]
    rfl
  · unfold m_l_stolen_L0
    simp only
    rw [mat_len, if_neg (by omega)]
    try rfl
end Go.Proofs.Ws

namespace Go.Proofs.Ws
open Go Go.Fw Go.Gx Go.Sp
set_option linter.unusedVariables false
def rowOK (s : Scalps) (row : List Int) : Bool := decide (row.length = s.strips.length) && row.all fun n => inb n 0 60
def okC (s : Scalps) (t k : Nat) (n : Int) : Bool := !decide (0 < n) || reachB s.strips t k
def rowC (s : Scalps) (t : Nat) (row : List Int) : Bool := (List.range s.strips.length).all (fun k => okC s t k (rowV row k)) && decide ((hOf s.carried t).lo ≤ sumTo (rowV row) s.strips.length ∧ sumTo (rowV row) s.strips.length ≤ (hOf s.carried t).hi)
theorem row_at {row : List Int} {p : Int → Bool} : row.all p = (List.range row.length).all fun k => p (rowV row k) := by
  rw [Bool.eq_iff_iff, List.all_eq_true, List.all_eq_true]
  constructor
  · intro h k hk
    have hk' := List.mem_range.1 hk
    have e : rowV row k = row[k] := by simp [rowV, List.getD_eq_getElem?_getD, hk']
    rw [e]; exact h _ (List.getElem_mem hk')
  · intro h x hx
    obtain ⟨k, hk, rfl⟩ := List.getElem_of_mem hx
    have := h k (List.mem_range.2 hk)
    have e : rowV row k = row[k] := by simp [rowV, List.getD_eq_getElem?_getD, hk]
    rwa [e] at this
theorem rowB_split {s : Scalps} {t : Nat} {row : List Int} : rowB s t row = (rowOK s row && rowC s t row) := by
  unfold rowB rowOK rowC
  by_cases hl : row.length = s.strips.length
  · rw [decide_eq_true hl, Bool.true_and, Bool.true_and, row_at, hl, ← Bool.and_assoc]
    congr 1
    rw [Bool.eq_iff_iff, Bool.and_eq_true, List.all_eq_true, List.all_eq_true, List.all_eq_true]
    constructor
    · intro h
      refine ⟨fun k hk => ?_, fun k hk => ?_⟩
      · have := okE_iff.1 (h k hk); exact inb_iff.2 ⟨this.1, this.2.1⟩
      · have := okE_iff.1 (h k hk)
        unfold okC
        by_cases h0 : 0 < rowV row k
        · rw [this.2.2 h0]; simp
        · simp [h0]
    · rintro ⟨h1, h2⟩ k hk
      have a := inb_iff.1 (h1 k hk)
      have b := h2 k hk
      unfold okC at b
      refine okE_iff.2 ⟨a.1, a.2, fun h0 => ?_⟩
      rw [decide_eq_true h0] at b
      simpa using b
  · rw [decide_eq_false hl]; rfl
theorem m_rowOK {s : Scalps} (h6 : s.strips.length ≤ 1000) (row : List Int) : m_s_Fits_1 row s.strips s.carried = some (rowOK s row) := by
  unfold m_s_Fits_1 rowOK
  by_cases hl : row.length = s.strips.length
  · rw [if_pos (by omega), decide_eq_true hl, Bool.true_and]
    have := any_loop row 0 m_s_every_int_1_4 (fun x => !inb x 0 60) (by omega) (fun x _ => by unfold m_s_every_int_1_4 m_s_Fits_1_1; rw [m_in_eq]; rfl) (f := m_sl_IndexFunc_intint_7_L0 row) (fun s => rfl)
    unfold m_s_every_int_5 m_sl_ContainsFunc_intint_7 m_sl_IndexFunc_intint_7
    rw [this, Option.bind_some, not_any_not]; rfl
  · rw [if_neg (by omega), decide_eq_false hl]; rfl
theorem m_rowsOK {s : Scalps} (h6 : s.strips.length ≤ 1000) {rows : List (List Int)} (hl : rows.length ≤ 1000) : m_s_every_int_4 rows s.strips s.carried = some (rows.all (rowOK s)) := by
  have := any_loop rows [] (fun x => m_s_every_int_1_3 x s.strips s.carried) (fun x => !rowOK s x) (by omega) (fun x _ => by unfold m_s_every_int_1_3; rw [m_rowOK h6]; rfl) (f := m_sl_IndexFunc_intint_6_L0 rows s.strips s.carried) (fun s => rfl)
  unfold m_s_every_int_4 m_sl_ContainsFunc_intint_6 m_sl_IndexFunc_intint_6
  rw [this, Option.bind_some, not_any_not]
theorem Fits_L1 {s : Scalps} (h6 : s.strips.length ≤ 6) {mp : List (Pair × Bool)} (hm : MapOK s.strips mp) {t : Nat} {row : List Int} (hrow : rowOK s row = true) {f : Nat → Int} (hf : ∀ k, 0 ≤ f k ∧ f k ≤ 1000) {s0 : m_s_Fits_S0} (hs0 : s0.t43 = (t : Int)) :
    iterM FU (m_s_Fits_L1 row mp s0) ⟨0, 0, vecS s.strips.length f⟩ = some (if (List.range s.strips.length).all (fun k => okC s t k (rowV row k)) = true then .inl ⟨sumTo (rowV row) s.strips.length, vecS s.strips.length fun k => f k + rowV row k⟩ else .inr ⟨false, 0⟩) := by
  unfold rowOK at hrow
  rw [Bool.and_eq_true] at hrow
  have hlen := of_decide_eq_true hrow.1
  have hall := hrow.2
  rw [row_at, hlen, List.all_eq_true] at hall
  have hval : ∀ k, k < s.strips.length → 0 ≤ rowV row k ∧ rowV row k ≤ 60 := fun k hk => inb_iff.1 (hall k (List.mem_range.2 hk))
  have key := iterM_find (f := m_s_Fits_L1 row mp s0) (fun k => ⟨sumTo (rowV row) k, (k : Int), vecS s.strips.length fun i => if i < k then f i + rowV row i else f i⟩) s.strips.length (fun k => !okC s t k (rowV row k)) (fun _ => .inr ⟨false, 0⟩) (.inl ⟨sumTo (rowV row) s.strips.length, vecS s.strips.length fun k => f k + rowV row k⟩) (fun k hk _ => ?_) ?_ (N := FU) (FU_lt (by omega))
  · have e : (⟨0, 0, vecS s.strips.length f⟩ : m_s_Fits_S1) = ⟨sumTo (rowV row) 0, ((0 : Nat) : Int), vecS s.strips.length fun i => if i < 0 then f i + rowV row i else f i⟩ := by
      have : vecS s.strips.length f = vecS s.strips.length fun i => if i < 0 then f i + rowV row i else f i := vecS_congr fun i _ => by rw [if_neg (by omega)]
      rw [← this]; rfl
    rw [e, key, all_find]
    cases (List.range s.strips.length).find? (fun k => !okC s t k (rowV row k)) with
    | none => rfl
    | some k => rfl
  · unfold m_s_Fits_L1
    have hlt : (k : Int) < (row.length : Int) := by omega
    have hb := sumTo_bound (f := rowV row) (b := 60) (n := k) (fun i hi => hval i (by omega))
    have hvk := hval k hk
    simp only
    rw [if_pos hlt, ix_nat 0 (by omega), Option.bind_some]
    have hc : (if 0 < row.getD k 0 then (some (!((aget mp (⟨s0.t43, (k : Int)⟩ : Pair)).getD false)) : Option Bool) else some false) = some (!okC s t k (rowV row k)) := by
      rw [hs0]
      have hro := rOf_reach hm hk (t := t)
      unfold rOf at hro
      rw [hro]
      unfold okC rowV
      by_cases h0 : 0 < row.getD k 0
      · rw [if_pos h0, decide_eq_true h0]; simp
      · rw [if_neg h0, decide_eq_false h0]; rfl
    rw [hc, Option.bind_some]
    cases hok : okC s t k (rowV row k) with
    | false => rfl
    | true =>
      have hfk := hf k
      simp only [Bool.not_true, Bool.false_eq_true, if_false]
      unfold rowV at hvk hb ⊢
      rw [addc_eq (by omega), Option.bind_some, vecS_ix hk, Option.bind_some, if_neg (Nat.lt_irrefl _), addc_eq (by omega), Option.bind_some, Option.bind_some, Option.bind_some, addc_eq (by omega), Option.bind_some, show Int.toNat (k : Int) = k by omega, vecS_set]
      congr 3
      refine vecS_congr fun i _ => ?_
      by_cases hik : i = k
      · subst hik; rw [if_pos rfl, if_pos (by omega)]
      · rw [if_neg hik]
        by_cases h2 : i < k
        · rw [if_pos h2, if_pos (by omega)]
        · rw [if_neg h2, if_neg (by omega)]
  · unfold m_s_Fits_L1
    simp only
    rw [if_neg (by omega)]
    congr 3
    congr 1
    refine vecS_congr fun i hi => ?_
    rw [if_pos hi]
theorem Fits_L0 {s : Scalps} (h6 : s.strips.length ≤ 6) (h5 : s.carried.length ≤ 5) {mp : List (Pair × Bool)} (hm : MapOK s.strips mp) {rows : List (List Int)} (hrows : rows.length = s.carried.length) (hok : rows.all (rowOK s) = true) :
    iterM FU (m_s_Fits_L0 rows mp s) ⟨0, vecS s.strips.length fun _ => 0⟩ = some (if (List.range s.carried.length).all (fun t => rowC s t (rows.getD t [])) = true then .inl (vecS s.strips.length fun k => sumTo (fun t => shV rows t k) s.carried.length) else .inr ⟨false, 0⟩) := by
  have hro : ∀ t, t < s.carried.length → rowOK s (rows.getD t []) = true := fun t ht => by
    have e : rows.getD t [] = rows[t] := by simp [List.getD_eq_getElem?_getD, hrows, ht]
    rw [e]
    exact List.all_eq_true.1 hok _ (List.getElem_mem _)
  have hval : ∀ t k, t < s.carried.length → k < s.strips.length → 0 ≤ shV rows t k ∧ shV rows t k ≤ 60 := fun t k ht hk => by
    have := hro t ht
    unfold rowOK at this
    rw [Bool.and_eq_true] at this
    have hle := of_decide_eq_true this.1
    have ha := this.2
    rw [row_at, hle, List.all_eq_true] at ha
    exact inb_iff.1 (ha k (List.mem_range.2 hk))
  have key := iterM_find (f := m_s_Fits_L0 rows mp s) (fun t => ⟨(t : Int), vecS s.strips.length fun k => sumTo (fun t => shV rows t k) t⟩) s.carried.length (fun t => !rowC s t (rows.getD t [])) (fun _ => .inr ⟨false, 0⟩) (.inl (vecS s.strips.length fun k => sumTo (fun t => shV rows t k) s.carried.length)) (fun t ht _ => ?_) ?_ (N := FU) (FU_lt (by omega))
  · have e : (⟨0, vecS s.strips.length fun _ => 0⟩ : m_s_Fits_S0) = ⟨((0 : Nat) : Int), vecS s.strips.length fun k => sumTo (fun t => shV rows t k) 0⟩ := rfl
    rw [e, key, all_find]
    cases (List.range s.carried.length).find? (fun t => !rowC s t (rows.getD t [])) with
    | none => rfl
    | some k => rfl
  · unfold m_s_Fits_L0
    have hlt : (t : Int) < (rows.length : Int) := by omega
    simp only
    rw [if_pos hlt, ix_nat [] (by omega), Option.bind_some]
    have hbd : ∀ k, 0 ≤ (if k < s.strips.length then sumTo (fun t => shV rows t k) t else 0) ∧ (if k < s.strips.length then sumTo (fun t => shV rows t k) t else 0) ≤ 1000 := fun k => by
      by_cases hk : k < s.strips.length
      · rw [if_pos hk]
        have := sumTo_bound (f := fun t => shV rows t k) (b := 60) (n := t) (fun i hi => hval i k (by omega) hk)
        omega
      · rw [if_neg hk]; omega
    have hL := Fits_L1 h6 hm (t := t) (hro t ht) (f := fun k => if k < s.strips.length then sumTo (fun t => shV rows t k) t else 0) hbd (s0 := ⟨(t : Int), vecS s.strips.length fun k => sumTo (fun t => shV rows t k) t⟩) rfl
    rw [vecS_congr (f := fun k => if k < s.strips.length then sumTo (fun t => shV rows t k) t else 0) (g := fun k => sumTo (fun t => shV rows t k) t) (fun i hi => if_pos hi)] at hL
    rw [vecS_congr (f := fun k => (if k < s.strips.length then sumTo (fun t => shV rows t k) t else 0) + rowV (rows.getD t []) k) (g := fun k => sumTo (fun t => shV rows t k) (t + 1)) (fun i hi => by rw [if_pos hi]; rfl)] at hL
    rw [hL, Option.bind_some]
    unfold rowC
    by_cases hall : (List.range s.strips.length).all (fun k => okC s t k (rowV (rows.getD t []) k)) = true
    · rw [if_pos hall, oc_inl, hall, Bool.true_and]
      simp only
      rw [ix_nat default ht, Option.bind_some, Option.bind_some, m_in_eq, Option.bind_some]
      unfold hOf inb
      rw [← Bool.decide_and]
      split
      · rfl
      · rw [addc_eq (by omega), Option.bind_some]; rfl
    · have hf : (List.range s.strips.length).all (fun k => okC s t k (rowV (rows.getD t []) k)) = false := by simpa using hall
      rw [if_neg hall, oc_inr, hf]; rfl
  · unfold m_s_Fits_L0
    simp only
    rw [if_neg (by omega)]
theorem Fits_spec {s : Scalps} (h : Right s) (rows : List (List Int)) : m_s_Fits s rows = some ⟨fitsB s rows, 0⟩ := by
  obtain ⟨mp, hmp, hm⟩ := m_opened_right h
  have h6 := h.net.s6; have h5 := h.net.c5
  unfold m_s_Fits fitsB
  rw [hmp, Option.bind_some, oc_inr]
  by_cases hl : rows.length = s.carried.length
  · rw [if_pos (by omega), m_rowsOK (by omega) (by omega), Option.bind_some, Option.bind_some, not_true_if, decide_eq_true hl, Bool.true_and]
    by_cases hok : rows.all (rowOK s) = true
    · rw [if_pos hok, makec_eq (by omega), Option.bind_some]
      have e : List.replicate (s.strips.length : Int).toNat (0 : Int) = vecS s.strips.length fun _ => 0 := by
        unfold vecS
        symm
        rw [List.eq_replicate_iff]
        exact ⟨by simp, fun b hb => by obtain ⟨t, _, rfl⟩ := List.mem_map.1 hb; rfl⟩
      rw [e, Fits_L0 h6 h5 hm hl hok, Option.bind_some]
      have hrc : (List.range s.carried.length).all (fun t => rowB s t (rows.getD t [])) = (List.range s.carried.length).all (fun t => rowC s t (rows.getD t [])) := by
        rw [Bool.eq_iff_iff, List.all_eq_true, List.all_eq_true]
        have hh : ∀ t, t ∈ List.range s.carried.length → rowB s t (rows.getD t []) = rowC s t (rows.getD t []) := fun t ht => by
          have ht' := List.mem_range.1 ht
          have e : rows.getD t [] = rows[t] := by simp [List.getD_eq_getElem?_getD, hl, ht']
          rw [rowB_split, e, List.all_eq_true.1 hok _ (List.getElem_mem _), Bool.true_and]
        exact ⟨fun h t ht => by rw [← hh t ht]; exact h t ht, fun h t ht => by rw [hh t ht]; exact h t ht⟩
      rw [hrc]
      by_cases hall : (List.range s.carried.length).all (fun t => rowC s t (rows.getD t [])) = true
      · rw [if_pos hall, oc_inl, hall, Bool.true_and]
        have key := iterM_any0 (f := m_s_Fits_L2 (vecS s.strips.length fun k => sumTo (fun t => shV rows t k) s.carried.length) s) s.strips.length (fun k => !colB s rows k) (⟨false, 0⟩ : m_s_Fits_R) (fun k hk => ?_) ?_ (N := FU) (FU_lt (by omega))
        · rw [key, Option.bind_some]
          have e2 : (List.range s.strips.length).all (colB s rows) = !(List.range s.strips.length).any fun k => !colB s rows k := (not_any_not).symm
          rw [e2]
          cases (List.range s.strips.length).any fun k => !colB s rows k <;> rfl
        · unfold m_s_Fits_L2
          rw [vecS_len, if_pos (by omega), vecS_ix hk, Option.bind_some, ix_nat default hk, Option.bind_some]
          have e3 : m_s_Strip_gone (⟨(s.strips.getD k default).tenant, ⟨(s.strips.getD k default).lay.lo, (s.strips.getD k default).lay.hi⟩, ⟨(s.strips.getD k default).seeded.lo, (s.strips.getD k default).seeded.hi⟩, ⟨(s.strips.getD k default).left.lo, (s.strips.getD k default).left.hi⟩⟩ : Strip) = some (gOf s.strips k) := gone_at h hk
          rw [e3, Option.bind_some, m_in_eq, Option.bind_some]
          unfold colB inb
          rw [← Bool.decide_and]
          split
          · rfl
          · rw [addc_eq (by omega), Option.bind_some]
        · unfold m_s_Fits_L2
          rw [vecS_len, if_neg (by omega)]
      · have hf : (List.range s.carried.length).all (fun t => rowC s t (rows.getD t [])) = false := by simpa using hall
        rw [if_neg hall, oc_inr, hf]; rfl
    · rw [if_neg hok]
      have hf : (List.range s.carried.length).all (fun t => rowB s t (rows.getD t [])) = false := by
        rw [← Bool.not_eq_true, List.all_eq_true]
        intro hh
        apply hok
        rw [List.all_eq_true]
        intro x hx
        obtain ⟨t, ht, rfl⟩ := List.getElem_of_mem hx
        have := hh t (List.mem_range.2 (by omega))
        rw [rowB_split, Bool.and_eq_true] at this
        have e : rows.getD t [] = rows[t] := by simp [List.getD_eq_getElem?_getD, ht]
        rw [e] at this
        exact this.1
      rw [hf]; rfl
  · rw [if_neg (by omega), decide_eq_false hl, Option.bind_some]; rfl
end Go.Proofs.Ws

namespace Go.Proofs.Ws
open Go Go.Fw Go.Gx Go.Sp
set_option linter.unusedVariables false
theorem Dup_eq {l : List Int} (h : l.length ≤ 100000) : m_k_Dup_int l = some l := by
  unfold m_k_Dup_int
  rw [makec_eq (by omega), Option.bind_some, appc_eq (by simp; omega), Option.bind_some]
  simp
theorem DupRows_eq {l : List (List Int)} (h : l.length ≤ 100000) (hr : ∀ x, x ∈ l → x.length ≤ 100000) : m_k_DupRows_int l = some l := by
  unfold m_k_DupRows_int
  rw [makec_eq (by omega), Option.bind_some]
  have key := iterM_run (f := m_k_DupRows_int_L0 l) (fun j => ⟨(j : Int), l.take j⟩) l.length (b := l) (fun j hj => ?_) ?_ FU (FU_lt (by omega))
  · have e : (⟨0, List.replicate (Int.toNat 0) []⟩ : m_k_DupRows_int_S0) = ⟨((0 : Nat) : Int), l.take 0⟩ := rfl
    rw [e, key]; rfl
  · unfold m_k_DupRows_int_L0
    have hlt : (j : Int) < (l.length : Int) := by omega
    simp only [hlt, if_true]
    have hx : l.getD j [] = l[j] := by simp [List.getD_eq_getElem?_getD, hj]
    rw [ix_nat [] hj, Option.bind_some, hx, Dup_eq (hr _ (List.getElem_mem hj)), Option.bind_some, appc_eq (by simp only [List.length_take, List.length_cons, List.length_nil]; omega), Option.bind_some, addc_eq (by omega), Option.bind_some, List.take_append_getElem]
    rfl
  · unfold m_k_DupRows_int_L0
    simp
theorem mat_rows {T S : Nat} {y : Nat → Nat → Int} : ∀ x, x ∈ mat T S y → x.length = S := fun x hx => by
  unfold mat at hx
  obtain ⟨t, _, rfl⟩ := List.mem_map.1 hx
  simp
theorem turned_ok {c : List Int} (hc : c.length ≤ 9223372036854775807) {T S : Nat} (hT : 1 ≤ T ∧ T ≤ 5) (hS : 1 ≤ S ∧ S ≤ 6) {y : Nat → Nat → Int} (hy : ∀ t k, 0 ≤ y t k ∧ y t k ≤ 4) {p r : Int} (hp : HOK c p) :
    ∃ x y', m_l_turned_1 c p r (mat T S y) = some x ∧ HOK c x.b0_1 ∧ x.r0 = mat T S y' ∧ ∀ t k, 0 ≤ y' t k ∧ y' t k ≤ 10 := by
  unfold m_l_turned_1
  rw [DupRows_eq (by rw [mat_len]; omega) (fun x hx => by rw [mat_rows x hx]; omega), Option.bind_some]
  obtain ⟨z, hz, hzb, hzk⟩ := from_ok (r := r) (lo := 1) (hi := 3) hc hp (by omega)
  rw [hz, Option.bind_some]
  have key : ∃ o, iterM FU (m_l_turned_1_L0 z c) ⟨0, z.h0_1, z.h0_2, mat T S y⟩ = some o ∧ HOK c o.b0_1 ∧ ∃ y', o.r0 = mat T S y' ∧ ∀ t k, 0 ≤ y' t k ∧ y' t k ≤ 10 := by
    refine iterM_inv (f := m_l_turned_1_L0 z c) (fun s => 0 ≤ s.t14 ∧ s.t14 ≤ z.r0 ∧ HOK c s.b0_1 ∧ ∃ y', s.r0 = mat T S y' ∧ ∀ t k, 0 ≤ y' t k ∧ y' t k ≤ 4 + s.t14) (fun s => (z.r0 - s.t14).toNat) _ (fun s hs => ?_) FU _ (FU_lt (by simp only; omega)) ⟨by simp, by simp only; omega, hzk, y, rfl, fun t k => by have := hy t k; simp only; omega⟩
    obtain ⟨h0, h1, hk, y', hr, hb⟩ := hs
    unfold m_l_turned_1_L0
    by_cases hlt : s.t14 < z.r0
    · left
      have hrow0 : ix (mat T S y') (0 : Int) = some ((List.range S).map (y' 0)) := mat_row (t := 0) (by omega)
      have hl0 : (((List.range S).map (y' 0)).length : Int) = (S : Int) := by simp
      rw [if_pos hlt, hr, mat_len, subc_eq (by omega), Option.bind_some, hrow0, Option.bind_some, hl0, subc_eq (by omega), Option.bind_some]
      obtain ⟨x1, e1, b1, k1⟩ := upto_ok (r := s.b0_2) (n := (T : Int) - 1) hc hk (by omega)
      rw [e1, Option.bind_some]
      obtain ⟨x2, e2, b2, k2⟩ := upto_ok (r := x1.h0_2) (n := (S : Int) - 1) hc k1 (by omega)
      rw [e2, Option.bind_some, Option.bind_some, Option.bind_some, hl0, subc_eq (by omega), Option.bind_some]
      obtain ⟨x3, e3, b3, k3⟩ := upto_ok (r := x2.h0_2) (n := (T : Int) - 1) hc k2 (by omega)
      rw [e3, Option.bind_some]
      obtain ⟨x4, e4, b4, k4⟩ := upto_ok (r := x3.h0_2) (n := (S : Int) - 1) hc k3 (by omega)
      rw [e4, Option.bind_some]
      obtain ⟨t1, ht1⟩ : ∃ n : Nat, x1.r0 = (n : Int) := ⟨x1.r0.toNat, by omega⟩
      obtain ⟨t2, ht2⟩ : ∃ n : Nat, x2.r0 = (n : Int) := ⟨x2.r0.toNat, by omega⟩
      obtain ⟨t3, ht3⟩ : ∃ n : Nat, x3.r0 = (n : Int) := ⟨x3.r0.toNat, by omega⟩
      obtain ⟨t4, ht4⟩ : ∃ n : Nat, x4.r0 = (n : Int) := ⟨x4.r0.toNat, by omega⟩
      rw [ht1, ht2, ht3, ht4, mat_row (show t1 < T by omega), Option.bind_some, range_ix (show t2 < S by omega), Option.bind_some]
      have hb12 := hb t1 t2
      by_cases hpos : 0 < y' t1 t2
      · rw [if_pos hpos, Option.bind_some, range_ix (show t2 < S by omega), Option.bind_some, subc_eq (by omega), Option.bind_some, Option.bind_some, Option.bind_some, Option.bind_some, show Int.toNat (t1 : Int) = t1 by omega, show Int.toNat (t2 : Int) = t2 by omega, show Int.toNat (t3 : Int) = t3 by omega, show Int.toNat (t4 : Int) = t4 by omega, mat_set]
        have hb2 : ∀ t k, 0 ≤ (if t = t1 ∧ k = t2 then y' t1 t2 - 1 else y' t k) ∧ (if t = t1 ∧ k = t2 then y' t1 t2 - 1 else y' t k) ≤ 4 + s.t14 := fun t k => by
          have := hb t k
          split <;> omega
        generalize hf : (fun t' k' => if t' = t1 ∧ k' = t2 then y' t1 t2 - 1 else y' t' k') = f
        have hfb : ∀ t k, 0 ≤ f t k ∧ f t k ≤ 4 + s.t14 := fun t k => by rw [← hf]; exact hb2 t k
        have hb34 := hfb t3 t4
        rw [mat_row (show t3 < T by omega), Option.bind_some, range_ix (show t4 < S by omega), Option.bind_some, addc_eq (by omega), Option.bind_some, Option.bind_some, Option.bind_some, Option.bind_some, Option.bind_some, addc_eq (by omega), Option.bind_some, mat_set]
        refine ⟨_, rfl, ⟨by simp only; omega, by simp only; omega, k4, _, rfl, fun t k => ?_⟩, by simp only; omega⟩
        have := hfb t k
        simp only
        split <;> omega
      · rw [if_neg hpos, Option.bind_some, addc_eq (by omega), Option.bind_some]
        refine ⟨_, rfl, ⟨by simp only; omega, by simp only; omega, k4, y', rfl, fun t k => ?_⟩, by simp only; omega⟩
        have := hb t k
        simp only
        omega
    · right
      rw [if_neg hlt]
      exact ⟨_, rfl, hk, y', hr, fun t k => by have := hb t k; omega⟩
  obtain ⟨o, ho, hko, y', hy', hb'⟩ := key
  rw [ho, Option.bind_some]
  exact ⟨_, y', rfl, hko, hy', hb'⟩
theorem verd_one {lo hi : Int} (h : lo ≤ hi) : (decide (verd lo hi = 1) == decide (hi = 0)) = true ∧ (decide (verd lo hi = 2) == decide (0 < lo)) = true := by
  unfold verd
  by_cases h1 : hi = 0
  · rw [if_pos h1]
    have : ¬ 0 < lo := by omega
    simp [h1, this]
  · rw [if_neg h1]
    by_cases h2 : 0 < lo
    · simp [h1, h2]
    · simp [h1, h2]
section told
variable {x : m_l_Made_1_R} (hR : Right x.r0) (hnf : ¬ NoFit x.r0) {y : Nat → Nat → Int} (hy : FitsS x.r0 y)
 include hR hnf hy
theorem told_taken {t k : Nat} (ht : t < x.r0.carried.length) (hk : k < x.r0.strips.length) : ∃ r, m_s_Taken x.r0 (t : Int) (k : Int) = some ⟨r, 0⟩ ∧ r.lo ≤ y t k ∧ y t k ≤ r.hi := by
  rcases Taken_spec hR ht hk with ⟨lo, hi, h1, hr⟩ | ⟨_, hn⟩
  · have := hr.2.2 y hy
    rw [count_just ht hk] at this
    exact ⟨_, h1, this.1, this.2⟩
  · exact absurd hn hnf
theorem told_L2 {t : Nat} (ht : t < x.r0.carried.length) : iterM FU (m_l_StripTold_L2 ((List.range x.r0.strips.length).map (y t)) x (t : Int)) 0 = some (.inl ()) := by
  have h6 := hR.net.s6
  have key := iterM_run (f := m_l_StripTold_L2 ((List.range x.r0.strips.length).map (y t)) x (t : Int)) (fun k => (k : Int)) x.r0.strips.length (b := .inl ()) (fun k hk => ?_) ?_ FU (FU_lt (by omega))
  · exact key
  · unfold m_l_StripTold_L2
    obtain ⟨r, h1, h2, h3⟩ := told_taken hR hnf hy ht hk
    rw [if_pos (by simp; omega), range_ix hk, Option.bind_some, h1, Option.bind_some]
    dsimp only
    rw [if_pos rfl, if_neg (by omega), decide_eq_false (by omega), Option.bind_some, if_neg (by simp), addc_eq (by omega), Option.bind_some]
    rfl
  · unfold m_l_StripTold_L2
    rw [if_neg (by simp)]
theorem told_L1 {vl vh : Nat → Int} (hv : ∀ t, t < x.r0.carried.length → IsRange x.r0 (stC x.r0 t) (vl t) (vh t)) (P R : Int) :
    iterM FU (m_l_StripTold_L1 ⟨P, R, mat x.r0.carried.length x.r0.strips.length y⟩ x ⟨0, (List.range x.r0.carried.length).map fun t => verd (vl t) (vh t)⟩) 0 = some (.inl ()) := by
  have h5 := hR.net.c5
  have key := iterM_run (f := m_l_StripTold_L1 ⟨P, R, mat x.r0.carried.length x.r0.strips.length y⟩ x ⟨0, (List.range x.r0.carried.length).map fun t => verd (vl t) (vh t)⟩) (fun k => (k : Int)) x.r0.carried.length (b := .inl ()) (fun t ht => ?_) ?_ FU (FU_lt (by omega))
  · exact key
  · unfold m_l_StripTold_L1
    dsimp only
    rw [if_pos (by rw [mat_len]; omega), mat_row ht, Option.bind_some, m_stolen_eq hR (fun t k ht hk => ⟨(hy.pos t k ht hk).1, le60 hR hy ht hk⟩), Option.bind_some]
    rcases Stolen_spec hR ht with ⟨lo, hi, h1, hr⟩ | ⟨_, hn⟩
    · obtain ⟨e1, e2⟩ := hr.uniq (hv t ht)
      have hc : countS x.r0 (stoC x.r0 (t : Int)) y = countS x.r0 (stC x.r0 t) y := countS_congr fun t' k' _ _ => by rw [stoC_one]
      have hin := hr.2.2 y hy
      have hle : lo ≤ hi := by omega
      obtain ⟨v1, v2⟩ := verd_one hle
      rw [h1, Option.bind_some, hc]
      dsimp only
      rw [if_pos rfl, if_neg (by omega), if_neg (by omega), range_ix ht, Option.bind_some, ← e1, ← e2, v1, if_neg (by simp), Option.bind_some, v2, Bool.not_true, Option.bind_some, if_neg (by simp), told_L2 hR hnf hy ht, Option.bind_some, oc_inl, addc_eq (by omega), Option.bind_some]
      rfl
    · exact absurd hn hnf
  · unfold m_l_StripTold_L1
    dsimp only
    rw [if_neg (by rw [mat_len]; omega)]
theorem told_missed {k : Nat} (hk : k < x.r0.strips.length) : ∃ r, m_s_Missed x.r0 (k : Int) = some ⟨r, 0⟩ ∧ r.lo ≤ sumTo (fun t => thC x.r0 t k * y t k) x.r0.carried.length ∧ sumTo (fun t => thC x.r0 t k * y t k) x.r0.carried.length ≤ r.hi := by
  rcases Missed_spec hR hk with ⟨lo, hi, h1, hr⟩ | ⟨_, hn⟩
  · have := hr.2.2 y hy
    rw [count_missed hk] at this
    exact ⟨_, h1, this.1, this.2⟩
  · exact absurd hn hnf
theorem told_L4 {k : Nat} (hk : k < x.r0.strips.length) (P R : Int) : iterM FU (m_l_StripTold_L4 ⟨P, R, mat x.r0.carried.length x.r0.strips.length y⟩ (x.r0.strips.getD k default) (k : Int)) ⟨0, 0⟩ = some (sumTo (fun t => thC x.r0 t k * y t k) x.r0.carried.length) := by
  have _hh := hnf
  have h5 := hR.net.c5
  have key := iterM_run (f := m_l_StripTold_L4 ⟨P, R, mat x.r0.carried.length x.r0.strips.length y⟩ (x.r0.strips.getD k default) (k : Int)) (fun t => ⟨sumTo (fun t => thC x.r0 t k * y t k) t, (t : Int)⟩) x.r0.carried.length (b := sumTo (fun t => thC x.r0 t k * y t k) x.r0.carried.length) (fun t ht => ?_) ?_ FU (FU_lt (by omega))
  · exact key
  · unfold m_l_StripTold_L4
    dsimp only
    have hb := sumTo_bound (f := fun t => thC x.r0 t k * y t k) (b := 60) (n := t) (fun i hi => by
      have h60 := le60 hR hy (t := i) (by omega) hk
      have := thC_le x.r0 i k _ (hy.pos i k (by omega) hk).1
      omega)
    have h60 := le60 hR hy ht hk
    have hp := (hy.pos t k ht hk).1
    rw [if_pos (by rw [mat_len]; omega), mat_row ht, Option.bind_some]
    simp only [sumTo]
    unfold thC othB cnt at hb ⊢
    by_cases h1 : (t : Int) = (x.r0.strips.getD k default).tenant
    · rw [if_pos h1, Option.bind_some, addc_eq (by omega), Option.bind_some, decide_eq_true h1.symm]
      simp
    · rw [if_neg h1, range_ix hk, Option.bind_some, addc_eq (by omega), Option.bind_some, Option.bind_some, addc_eq (by omega), Option.bind_some, decide_eq_false (fun e => h1 e.symm)]
      simp
  · unfold m_l_StripTold_L4
    dsimp only
    rw [if_neg (by rw [mat_len]; omega)]
theorem told_L8 (hx : x.r1 = mat x.r0.carried.length x.r0.strips.length y) {k : Nat} (hk : k < x.r0.strips.length) : iterM FU (m_l_StripTold_L8 x (x.r0.strips.getD k default) (k : Int)) ⟨0, 0⟩ = some (sumTo (fun t => thC x.r0 t k * y t k) x.r0.carried.length) := by
  have _hh := hnf
  have h5 := hR.net.c5
  have key := iterM_run (f := m_l_StripTold_L8 x (x.r0.strips.getD k default) (k : Int)) (fun t => ⟨sumTo (fun t => thC x.r0 t k * y t k) t, (t : Int)⟩) x.r0.carried.length (b := sumTo (fun t => thC x.r0 t k * y t k) x.r0.carried.length) (fun t ht => ?_) ?_ FU (FU_lt (by omega))
  · exact key
  · unfold m_l_StripTold_L8
    dsimp only
    have hb := sumTo_bound (f := fun t => thC x.r0 t k * y t k) (b := 60) (n := t) (fun i hi => by
      have h60 := le60 hR hy (t := i) (by omega) hk
      have := thC_le x.r0 i k _ (hy.pos i k (by omega) hk).1
      omega)
    have h60 := le60 hR hy ht hk
    have hp := (hy.pos t k ht hk).1
    rw [hx, if_pos (by rw [mat_len]; omega), mat_row ht, Option.bind_some]
    simp only [sumTo]
    unfold thC othB cnt at hb ⊢
    by_cases h1 : (t : Int) = (x.r0.strips.getD k default).tenant
    · rw [if_pos h1, Option.bind_some, addc_eq (by omega), Option.bind_some, decide_eq_true h1.symm]
      simp
    · rw [if_neg h1, range_ix hk, Option.bind_some, addc_eq (by omega), Option.bind_some, Option.bind_some, addc_eq (by omega), Option.bind_some, decide_eq_false (fun e => h1 e.symm)]
      simp
  · unfold m_l_StripTold_L8
    dsimp only
    rw [hx, if_neg (by rw [mat_len]; omega)]
theorem told_L3 (P R : Int) : iterM FU (m_l_StripTold_L3 x ⟨P, R, mat x.r0.carried.length x.r0.strips.length y⟩) 0 = some (.inl ()) := by
  have h6 := hR.net.s6
  have key := iterM_run (f := m_l_StripTold_L3 x ⟨P, R, mat x.r0.carried.length x.r0.strips.length y⟩) (fun k => (k : Int)) x.r0.strips.length (b := .inl ()) (fun k hk => ?_) ?_ FU (FU_lt (by omega))
  · exact key
  · unfold m_l_StripTold_L3
    obtain ⟨r, h1, h2, h3⟩ := told_missed hR hnf hy hk
    rw [if_pos (by omega), ix_nat default hk, Option.bind_some, told_L4 hR hnf hy hk, Option.bind_some, h1, Option.bind_some]
    dsimp only
    rw [if_pos rfl, if_neg (by omega), decide_eq_false (by omega), Option.bind_some, if_neg (by simp), addc_eq (by omega), Option.bind_some]
    rfl
  · unfold m_l_StripTold_L3
    rw [if_neg (by omega)]
theorem told_L7 (hx : x.r1 = mat x.r0.carried.length x.r0.strips.length y) : iterM FU (m_l_StripTold_L7 x) 0 = some (.inl ()) := by
  have h6 := hR.net.s6
  have key := iterM_run (f := m_l_StripTold_L7 x) (fun k => (k : Int)) x.r0.strips.length (b := .inl ()) (fun k hk => ?_) ?_ FU (FU_lt (by omega))
  · exact key
  · unfold m_l_StripTold_L7
    obtain ⟨r, h1, h2, h3⟩ := told_missed hR hnf hy hk
    rw [if_pos (by omega), ix_nat default hk, Option.bind_some, told_L8 hR hnf hy hx hk, Option.bind_some, h1, Option.bind_some]
    dsimp only
    rw [if_pos rfl, if_neg (by omega), decide_eq_false (by omega), Option.bind_some, if_neg (by simp), addc_eq (by omega), Option.bind_some]
    rfl
  · unfold m_l_StripTold_L7
    rw [if_neg (by omega)]
theorem told_L5 (hx : x.r1 = mat x.r0.carried.length x.r0.strips.length y) {vl vh : Nat → Int} (hv : ∀ t, t < x.r0.carried.length → IsRange x.r0 (stC x.r0 t) (vl t) (vh t)) :
    iterM FU (m_l_StripTold_L5 x ⟨0, (List.range x.r0.carried.length).map fun t => verd (vl t) (vh t)⟩) 0 = some (.inl ()) := by
  have e : m_l_StripTold_L5 x ⟨0, (List.range x.r0.carried.length).map fun t => verd (vl t) (vh t)⟩ = m_l_StripTold_L1 ⟨0, 0, mat x.r0.carried.length x.r0.strips.length y⟩ x ⟨0, (List.range x.r0.carried.length).map fun t => verd (vl t) (vh t)⟩ := by
    rw [← hx]; rfl
  rw [e]
  exact told_L1 hR hnf hy hv 0 0
end told
theorem StripTold_true {l c : List Int} (hl : l.length ≤ 9223372036854775807) (hc : c.length ≤ 9223372036854775807) : m_l_StripTold l c = some true := by
  unfold m_l_StripTold m_k_Pile
  rw [Option.bind_some]
  obtain ⟨x, y0, hx, _, hR, hreal, hf0, hyok, _, _⟩ := Made_spec hl (p := 0) (r := 0) (S0 := 5) (T0 := 4) hok0 (by omega) (by omega)
  dsimp only
  rw [hx, Option.bind_some, m_Check_eq, of_right hR, Option.bind_some, if_pos rfl]
  have hnf : ¬ NoFit x.r0 := fun h => h y0 hf0
  have h5 := hR.net.c5; have h6 := hR.net.s6; have h1c := hR.c1; have h1s := hR.s1
  rcases Verdicts_spec hR with ⟨vl, vh, hv, hvr⟩ | ⟨_, hn⟩
  · rw [hv, Option.bind_some]
    dsimp only
    rw [if_pos rfl, decide_eq_true (by simp), Bool.not_true, Option.bind_some, if_neg (by simp), Option.bind_some]
    dsimp only
    have key : ∃ b, iterM FU (m_l_StripTold_L0 c x ⟨0, (List.range x.r0.carried.length).map fun t => verd (vl t) (vh t)⟩) ⟨0, 0, 0⟩ = some b ∧ ∃ o, b = .inl o := by
      refine iterM_inv (f := m_l_StripTold_L0 c x ⟨0, (List.range x.r0.carried.length).map fun t => verd (vl t) (vh t)⟩) (fun s => 0 ≤ s.t58 ∧ s.t58 ≤ 8 ∧ HOK c s.t5_1) (fun s => (8 - s.t58).toNat) _ (fun s hs => ?_) FU _ (FU_lt (by simp)) ⟨by simp, by simp, hok0⟩
      obtain ⟨h0, h1, hk⟩ := hs
      unfold m_l_StripTold_L0
      by_cases hlt : s.t58 < 8
      · left
        rw [if_pos hlt]
        have hfin : ∀ (o : Option (m_l_StripTold_C2 ⊕ Bool)) (z : m_l_StripTold_C2), o = some (.inl z) → HOK c z.t5_1 → ∃ s', (o.bind fun o_2 => oc o_2 (fun j_1 => (addc s.t58 1).bind fun t222 => (some (.inl (⟨t222, j_1.t5_1, j_1.t5_2⟩ : m_l_StripTold_S0)) : Option (m_l_StripTold_S0 ⊕ (m_l_StripTold_C1 ⊕ Bool)))) (fun r_15 => some (.inr (.inr r_15)))) = some (.inl s') ∧ (0 ≤ s'.t58 ∧ s'.t58 ≤ 8 ∧ HOK c s'.t5_1) ∧ (8 - s'.t58).toNat < (8 - s.t58).toNat := fun o z ho hz => by
          rw [ho, Option.bind_some, oc_inl, addc_eq (by omega), Option.bind_some]
          exact ⟨_, rfl, ⟨by simp only; omega, by simp only; omega, hz⟩, by simp only; omega⟩
        by_cases hpos : 0 < s.t58
        · rw [if_pos hpos]
          obtain ⟨z, y', hz, hzk, hzr, hzb⟩ := turned_ok hc (T := x.r0.carried.length) (S := x.r0.strips.length) ⟨h1c, h5⟩ ⟨h1s, h6⟩ (y := y0) (fun t k => ⟨(hyok t k).1, (hyok t k).2.1⟩) (r := s.t5_2) hk
          rw [← hreal] at hz
          obtain ⟨zp, zr, zm⟩ := z
          simp only at hzr hzk
          subst hzr
          refine hfin _ ⟨zp, zr⟩ ?_ hzk
          rw [hz, Option.bind_some]
          dsimp only
          rw [Fits_spec hR, Option.bind_some]
          dsimp only
          rw [if_pos rfl, m_fits_eq hR, Option.bind_some, beq_self_eq_true, if_neg (by simp), if_neg (by omega), Option.bind_some, if_neg (by simp)]
          by_cases hfit : fitsB x.r0 (mat x.r0.carried.length x.r0.strips.length y') = true
          · have hy' := (fitsB_mat hR).1 hfit
            rw [hfit, if_neg (by simp), told_L1 hR hnf hy' hvr zp zr, Option.bind_some, oc_inl, told_L3 hR hnf hy' zp zr, Option.bind_some, oc_inl]
          · have hff : fitsB x.r0 (mat x.r0.carried.length x.r0.strips.length y') = false := by simpa using hfit
            rw [hff, if_pos (show (!false) = true from rfl)]
        · rw [if_neg hpos]
          refine hfin _ ⟨s.t5_1, s.t5_2⟩ ?_ hk
          have hfit : fitsB x.r0 x.r1 = true := by rw [hreal]; exact (fitsB_mat hR).2 hf0
          rw [Fits_spec hR, Option.bind_some]
          dsimp only
          rw [if_pos rfl, m_fits_eq hR, Option.bind_some, hfit, beq_self_eq_true, if_neg (by simp), if_pos (by omega), Bool.not_true, Option.bind_some, if_neg (by simp), told_L5 hR hnf hf0 hreal hvr, Option.bind_some, oc_inl, told_L7 hR hnf hf0 hreal, Option.bind_some, oc_inl]
          rfl
      · right
        rw [if_neg hlt]
        exact ⟨_, rfl, _, rfl⟩
    obtain ⟨b, hb, o, rfl⟩ := key
    rw [hb, Option.bind_some, oc_inl, awake_eq]; rfl
  · exact absurd hn hnf
end Go.Proofs.Ws

namespace Go.Gx
open Go Go.Fw Go.RowKit
section
variable {H : Type} {enc : TypeId × Value → H} {P : Program} {w : World} {base : Nat} {sp : Nat → Bool} {held : Bool}
def Opens (enc : TypeId × Value → H) (P : Program) (w : World) (base : Nat) (sp : Nat → Bool) (held : Bool) {α : Type} (R : Row α) (wf : α → Prop) (t : TypeId) : Prop :=
  ∀ fuel cs x, DataW.trod enc P w base sp held fuel t cs = some x → ∃ a, cs = R.cells a ∧ wf a
def u8P (n : Int) : Prop := 0 ≤ n ∧ n ≤ 255
theorem wf_u8P {n : Int} (h : (Lit.int .u8 n).wf = true) : u8P n := by
  simp [Lit.wf, IntKind.min, IntKind.max, IntKind.signed, IntKind.bits] at h
  unfold u8P; omega
theorem opens_u8 {t : TypeId} (ht : P.underlying t = some (.int .u8)) : Opens enc P w base sp held RU8 u8P t := fun fuel cs x h => by
  obtain ⟨n, rfl, _, hw⟩ := DataW.trod_int ht h
  exact ⟨n, rfl, wf_u8P hw⟩
theorem fieldAt {fs : Array Field} {t : TypeId} {fuel : Nat} {cs : List Value} {x : DataW H × List MemPlace} (ht : P.underlying t = some (.struct fs)) (h : DataW.trod enc P w base sp held fuel t cs = some x) {α : Type} {R : Row α} {wf : α → Prop} (i : Nat) {T o k : Nat}
    (hf : (fs[i]?).map (fun fd => (fd.type, fd.offset)) = some (T, o)) (hk : P.cellsOf T = k) (hR : Opens enc P w base sp held R wf T) : ∃ a, (cs.drop o).take k = R.cells a ∧ wf a := by
  obtain ⟨xs, n, rfl, _, hlen, hxl, hx⟩ := DataW.trod_struct ht h
  obtain ⟨fd, hfd, he⟩ : ∃ fd, fs[i]? = some fd ∧ (fd.type, fd.offset) = (T, o) := by
    cases hh : fs[i]? with
    | none => simp [hh] at hf
    | some fd => exact ⟨fd, rfl, by simpa [hh] using hf⟩
  simp only [Prod.mk.injEq] at he
  obtain ⟨rfl, rfl⟩ := he
  have h1 := hx i fd hfd
  rw [hk] at h1
  have hi : i < xs.length := by rw [hxl]; exact (Array.getElem?_eq_some_iff.1 hfd).1
  rw [List.getElem?_eq_getElem hi] at h1
  exact hR _ _ _ h1
structure SlIn {α : Type} (R : Row α) (wf : α → Prop) (w : World) (v : Value) (A : Option Addr) (n c : Nat) (l : List α) : Prop where
  val : v = .slice A n c
  len : l.length = n
  ok : AOK n A
  le : n ≤ c
  max : c ≤ maxLen
  seg : segOK w (aB A, aO A, R.enc l)
  wf : ∀ x, x ∈ l → wf x
theorem choose_list {α : Type} {p : Nat → α → Prop} : ∀ (n : Nat), (∀ i, i < n → ∃ a, p i a) → ∃ l : List α, l.length = n ∧ ∀ i (h : i < l.length), p i l[i]
  | 0, _ => ⟨[], rfl, fun i h => by simp at h⟩
  | n + 1, h => by
    obtain ⟨l, hl, hp⟩ := choose_list n (fun i hi => h i (by omega))
    obtain ⟨a, ha⟩ := h n (by omega)
    refine ⟨l ++ [a], by simp [hl], fun i hi => ?_⟩
    by_cases hil : i < l.length
    · rw [List.getElem_append_left hil]; exact hp i hil
    · have : i = l.length := by simp at hi; omega
      subst this
      rw [List.getElem_append_right (by omega)]
      simp only [Nat.sub_self, List.getElem_cons_zero]
      rw [hl]; exact ha
theorem openSl {α : Type} {R : Row α} {wf : α → Prop} {t e : TypeId} (ht : P.underlying t = some (.slice e)) (hc : P.cellsOf e = R.sz) (hR : Opens enc P w base sp held R wf e) (h0 : Nat.blt 0 R.sz = true)
    {fuel : Nat} {cs : List Value} {x : DataW H × List MemPlace} (h : DataW.trod enc P w base sp held fuel t cs = some x) : ∃ (v : Value) (A : Option Addr) (n c : Nat) (l : List α), cs = [v] ∧ SlIn R wf w v A n c l := by
  have hsz : 0 < R.sz := by simpa using h0
  rcases Go.Deep.open_slice ht h with ⟨rfl, _⟩ | ⟨a, len, cap, m, n, D, Pl, rfl, hb, hl, hm, hmm, _, hi⟩
  · exact ⟨_, none, 0, 0, [], rfl, rfl, rfl, AOK.nil, Nat.le_refl _, Nat.zero_le _, segOK.nil, by simp⟩
  · have hlm : len ≤ m := by rw [hmm]; split <;> omega
    have hcell : ∀ i, i < len → ∃ x : α, (∀ f (hf : f < (R.cells x).length), w.cell? (a.add (i * R.sz + f)) = some (R.cells x)[f]) ∧ wf x := fun i hil => by
      obtain ⟨cs', h1, h2⟩ := hi i (by omega)
      obtain ⟨x, rfl, hw⟩ := hR _ _ _ h2
      obtain ⟨_, _, hat⟩ := World.cells?_some h1
      refine ⟨x, fun f hf => ?_, hw⟩
      have := hat f (by rw [hc, ← R.len x]; exact hf)
      rw [hc] at this
      rw [List.getElem?_eq_getElem hf] at this
      have e : (a.add (i * R.sz)).add f = a.add (i * R.sz + f) := by
        unfold Addr.add
        by_cases h1 : i * R.sz = 0
        · simp [h1]
        · by_cases h2 : f = 0
          · simp [h2]
          · simp [h1, h2, Nat.add_assoc]
      rw [e] at this
      exact this
    obtain ⟨l, hll, hlp⟩ := choose_list len hcell
    have hspot : 0 < len → a.spot = none := fun h0 => by
      obtain ⟨x, hx, _⟩ := hcell 0 h0
      have := World.cell?_spot (hx 0 (by rw [R.len]; exact hsz))
      simpa [Addr.add] using this
    refine ⟨_, some a, len, cap, l, rfl, rfl, hll, fun h0 => ?_, hl, hm, fun j hj => ?_, fun x hx => ?_⟩
    · obtain ⟨b, o, s⟩ := a
      have := hspot h0
      simp only at this
      subst this
      exact ⟨b, o, rfl⟩
    · have hj' : j < l.length * R.sz := by rw [← R.enc_len]; exact hj
      have hpos : 0 < len := by
        rcases Nat.eq_zero_or_pos len with h | h
        · rw [hll, h, Nat.zero_mul] at hj'; omega
        · exact h
      obtain ⟨b, o, s⟩ := a
      have hs := hspot hpos
      simp only at hs
      subst hs
      have hq : j / R.sz < l.length := Nat.div_lt_of_lt_mul (by rw [Nat.mul_comm]; exact hj')
      have hr : j % R.sz < R.sz := Nat.mod_lt _ hsz
      have hd : j / R.sz * R.sz + j % R.sz = j := by rw [Nat.mul_comm]; exact Nat.div_add_mod j R.sz
      have h1 := (hlp (j / R.sz) hq).1 (j % R.sz) (by rw [R.len]; exact hr)
      rw [hd] at h1
      have h2 := R.enc_get l (j / R.sz) (j % R.sz) l[j / R.sz] (List.getElem?_eq_getElem hq) hr
      rw [hd] at h2
      have h3 : (⟨b, o, none⟩ : Addr).add j = ⟨b, o + j, none⟩ := addr_add b o j
      rw [h3] at h1
      simp only [aB, aO, Option.map_some, Option.getD_some]
      rw [h1, ← List.getElem?_eq_getElem, ← h2, List.getElem?_eq_getElem hj]
    · obtain ⟨i, hi', rfl⟩ := List.getElem_of_mem hx
      exact (hlp i hi').2
theorem HV.begin {ro : List Sg} (h : ∀ s, s ∈ ro → segOK w s) : HV w (keys [] []) [] [] ro w :=
  ⟨rfl, rfl, rfl, Nat.le_refl _, fun _ _ _ => rfl, by simp [vbl], by simp [vbl], by simp [vbl], h, by simp [vbl]⟩
theorem segCons {s : Sg} {ro : List Sg} (h : segOK w s) (hr : ∀ t, t ∈ ro → segOK w t) : ∀ t, t ∈ s :: ro → segOK w t := fun t ht => by
  rcases List.mem_cons.1 ht with rfl | ht
  · exact h
  · exact hr t ht
theorem segNil : ∀ t, t ∈ ([] : List Sg) → segOK w t := fun t ht => by cases ht
theorem HV.below {w' : World} (h : HV w (keys [] []) [] [] [] w') : Below w.heap.size w w' := by
  have : Ext [] w w' := HS.toExt h
  exact this.below
end
end Go.Gx

namespace Go.Proofs.Ws
open Go Go.Fw Go.Gx Go.RowKit
section
variable {H : Type} {enc : TypeId × Value → H} {w : World} {base : Nat} {sp : Nat → Bool} {held : Bool}
theorem opU8 : Opens enc Try.prog w base sp held RU8 u8P 5 := opens_u8 Try.underlying5
end
end Go.Proofs.Ws

