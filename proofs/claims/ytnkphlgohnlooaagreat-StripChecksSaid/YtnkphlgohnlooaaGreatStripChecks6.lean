/- What the functions that the law StripChecks reaches come to, and why it holds: part 6. -/
import Derived.Test.YtnkphlgohnlooaaGreatStripChecks5
import Derived.Deep.Slices
import Derived.ChangeArms
namespace Go.Proofs.Ws
set_option maxHeartbeats 4000000
set_option maxRecDepth 100000
open Go Go.Fw Go.Gx Go.Sp
set_option linter.unusedVariables false

structure m_laurelkit_DupRows_int_S0 where
  t11 : Int
  out3 : (List (List Int))
def m_laurelkit_DupRows_int_L0 (l0 : (List (List Int))) (s : m_laurelkit_DupRows_int_S0) : Option (m_laurelkit_DupRows_int_S0 ⊕ (List (List Int))) :=
 if s.t11 < (l0.length : Int) then
 ((ix l0 s.t11).bind fun t13 =>
 (m_laurelkit_Dup_int t13).bind fun t17 =>
 (appc 24 s.out3 [t17]).bind fun t19 =>
 (addc s.t11 1).bind fun t20 =>
 some (.inl (⟨t20, t19⟩ : m_laurelkit_DupRows_int_S0))) else
 (some (.inr s.out3))
def m_laurelkit_DupRows_int (l0 : (List (List Int))) : Option (List (List Int)) :=
 (makec 24 ([] : (List Int)) 0 (l0.length : Int)).bind fun t8 =>
 (iterM FU (m_laurelkit_DupRows_int_L0 l0) (⟨0, t8⟩ : m_laurelkit_DupRows_int_S0)).bind fun o =>
 some o
theorem c_laurelkit_DupRows_int (l0 : (List (List Int))) (qa0 : Option Addr) (na0 ca0 : Nat) (ar0 : List AL) (w : World) (hw : HV w (keys [] []) [] [] [(aB qa0, aO qa0, RwA.enc ar0)] w) (hna0 : l0.length = na0) (hqa0 : AOK na0 qa0) (hla0 : na0 ≤ ca0) (hda0 : DRO l0 ar0) (hTa0 : ∀ t, t ∈ rsg RI l0 ar0 → segOK w t ∧ (t.2.2 ≠ [] → t.1 ∉ keys [] [])) {res : (List (List Int))} (hm : m_laurelkit_DupRows_int l0 = some res) :
    Calls Tryz.prog 31 #[.slice qa0 na0 ca0] w (fun en w' => ∃ l : DL, en = .returned (slv l.v.q l.v.n l.v.cap) ∧ (VOK 1 l.v.n l.v.cap (RwH.enc l.rs) l.v.sp l.v.q ∧ DOK RI res l.rs) ∧ HV w (keys [] []) [] [⟨26, RwH.enc l.rs, l.v.sp, l.v.q, dbl 3 RI res l.rs⟩] [] w') := by
  unfold m_laurelkit_DupRows_int at hm
  refine g_en Tryz.func31 rfl Tryz.ntmps31 rfl (e := [(0, _)]) rfl hw (g_sr (g_val rfl rfl rfl (fun _ _ => v_nilS rfl) (g_nx (g_mv rfl rfl (g_val rfl rfl rfl (fun w _ => v_lenR hna0 (Tryz.runUnderlying70 w) rfl) ?_)))))
  obtain ⟨t8, h3, hm⟩ := bindO hm
  refine g_vmake RwH vl0 (makecL vl0 h3) Tryz.underlying70 gxinf26 rfl rfl rfl rfl rfl (fun L h4 => ?_)
  refine g_drep (E2 := 3) RI (Int.toNat 0) (makecO h3).1.symm (fun h5 => ?_)
  refine g_as rfl rfl (g_nt (g_seq (g_sr (g_mv rfl rfl (g_val rfl rfl rfl (fun w _ => v_lenR hna0 (Tryz.runUnderlying70 w) rfl) (g_mv rfl rfl (g_nt ?_)))))))
  obtain ⟨o, h6, h7⟩ := bindO hm
  refine g_cut (ι := DL) (fun l => VOK 1 l.v.n l.v.cap (RwH.enc l.rs) l.v.sp l.v.q ∧ DOK RI o l.rs) (fun l => [(3, slv l.v.q l.v.n l.v.cap)]) (fun l => []) (fun l => [⟨26, RwH.enc l.rs, l.v.sp, l.v.q, dbl 3 RI o l.rs⟩]) ?_ ?_
  ·replace hm := h6
   refine g_block ?_
   refine g_loopF (ι := DL) hm (fun s l_1 => VOK 1 l_1.v.n l_1.v.cap (RwH.enc l_1.rs) l_1.v.sp l_1.v.q ∧ DOK RI s.out3 l_1.rs) (fun s l_1 => [(3, slv l_1.v.q l_1.v.n l_1.v.cap), (9, .slice qa0 na0 ca0), (10, .int .i64 (l0.length : Int)), (11, .int .i64 s.t11)]) (fun s l_1 => []) (fun s l_1 => [⟨26, RwH.enc l_1.rs, l_1.v.sp, l_1.v.q, dbl 3 RI s.out3 l_1.rs⟩]) (⟨⟨L.q, L.n, L.cap, L.sp⟩, (List.replicate (Int.toNat 0) vl0)⟩) (⟨h4, h5⟩) (sE rfl) (fun w hh => hh) (fun s l_1 r hpl hm h12 => ?_)
   obtain ⟨h10, h11⟩ := hpl
   unfold m_laurelkit_DupRows_int_L0 at hm
   refine g_sr (g_ls rfl rfl rfl (g_nt (g_seq ?_)))
   refine g_cond rfl (fun h13 => ?_) (fun h13 => ?_)
   ·replace hm := ifD h13 hm
    refine g_skip (g_n_then (g_seq (g_block (g_sr ?_))))
    obtain ⟨t13, h14, hm⟩ := bindO hm
    obtain ⟨A, h15, h16, h17, h18⟩ := (hda0).row h14
    refine g_val rfl rfl rfl (fun w _ => v_ixR h15 (Tryz.runUnderlying70 w) (Tryz.sizeOf26 w) rfl rfl (Eq.trans (hda0).len.symm hna0) hqa0) (g_val rfl rfl rfl (fun w hh => v_ldE RwA 0 h15 (Tryz.isAgg26 w) rfl (hh.seg 0 rfl) rfl (Nat.add_zero _).symm) (g_as rfl rfl (g_nt (g_region (g_mv rfl rfl (g_mv rfl rfl ?_))))))
    obtain ⟨t17, h19, hm⟩ := bindO hm
    refine g_callH [] [] rfl rfl rfl rfl rfl rfl rfl Tryz.call11 (fun w hh => c_laurelkit_Dup_int t13 A.a A.n A.cap w (HV.callee (S0 := []) (vs0 := []) hh (roC (hh.oldsep (S0 := []) (vs0 := []) (hTa0 _ (rsg_ix h14 h15))) roN)) h16 h17 h18 h19) (fun l_2 h20 => ?_)
    have h21 := h20
    refine g_se (S' := []) (vs' := [_, _]) [] [0, 1] 0 rfl rfl rfl rfl ?_
    refine g_vlit RwH [(⟨l_2.q, l_2.n, l_2.cap, l_2.sp⟩ : VL)] (ps := [(0, _)]) (cells := [_]) (fun w => Tryz.runUnderlying70 w) (fun w => Tryz.sizeOf26 w) (fun w => Tryz.zeroValue26 w) rfl rfl rfl rfl rfl rfl rfl rfl (fun L_1 h22 => ?_)
    refine g_drep (E2 := 3) RI 1 (rfl : _ = ([[]] : List (List Int))) (fun h23 => ?_)
    refine g_se (S' := []) (vs' := [_, _, _]) [] [0, 1, 2] 0 rfl rfl rfl rfl ?_
    refine g_dput RI (l' := [t17]) 0 l_2.n l_2.cap h23 h21 rfl rfl (fun h24 => ?_)
    have h25 : DOK RI [t17] [(⟨l_2.q, l_2.n, l_2.cap, l_2.sp⟩ : VL)] := h24
    refine g_sel (S' := []) (vs' := [⟨26, RwH.enc [(⟨l_2.q, l_2.n, l_2.cap, l_2.sp⟩ : VL)], L_1.sp, L_1.q, dbl 3 RI [t17] [(⟨l_2.q, l_2.n, l_2.cap, l_2.sp⟩ : VL)]⟩, ⟨26, RwH.enc l_1.rs, l_1.v.sp, l_1.v.q, dbl 3 RI s.out3 l_1.rs⟩]) [] [0, 1] 0 (by decide) (by decide) rfl rfl rfl ?_
    obtain ⟨t19, h26, hm⟩ := bindO hm
    refine g_vapp RwH 1 (appcL h26 (h11).len (h25).len) Tryz.underlying70 gxinf26 rfl rfl rfl rfl rfl h10 rfl rfl (vlen RwH h22 rfl) (AOK.q (vne h22)) (fun w hh => (hh.vsegA 0 rfl h22)) rfl (fun L_2 h27 _ => ?_)
    refine g_se (S' := []) (vs' := [_, _]) [] [0, 1] 0 rfl rfl rfl rfl (g_se (S' := []) (vs' := [_, _]) [] [1, 0] 0 rfl rfl rfl rfl ?_)
    refine g_djoin RI h11 h25 (appcO h26).1.symm (fun h28 => ?_)
    refine g_as rfl rfl (g_nil (g_n_blk (g_n_then (g_region ?_))))
    obtain ⟨t20, h29, hm⟩ := bindO hm
    refine g_ac h29 rfl rfl rfl (g_mv rfl rfl (g_nil ?_))
    obtain rfl := sj hm
    refine g_n_then ?_
    exact g_again' _ (⟨⟨L_2.q, L_2.n, L_2.cap, L_2.sp⟩, (l_1.rs ++ [(⟨l_2.q, l_2.n, l_2.cap, l_2.sp⟩ : VL)])⟩) rfl (⟨h27, h28⟩) (sE rfl) (fun w hh => hh)
   ·replace hm := ifE h13 hm
    refine g_exit (g_x_then (g_x_then (g_x_blk ?_)))
    obtain rfl := sj hm
    have hbo := h12 _ rfl
    subst hbo
    exact g_leaf l_1 (⟨h10, h11⟩) (sE rfl) (fun w hh => hh)
  ·intro l hj
   obtain ⟨h8, h9⟩ := hj
   replace hm := h7
   refine g_n_then (g_sr (g_mv rfl rfl (g_as rfl rfl (g_nt (g_ret ?_)))))
   obtain rfl := sj hm
   refine g_done rfl (fun w hh => (.tmp rfl .nil)) (fun w hh => ⟨l, rfl, ⟨h8, h9⟩, hh.se [] [0] 1 rfl rfl rfl rfl⟩)
def m_slices_AppendSeq_intint_2_F0  (x : Int) (s : (List Int)) : Option (List Int) :=
 (appc 8 s [x]).bind fun t11 =>
 some t11
def m_slices_AppendSeq_intint_2 (seq1_c00 : (List Strip)) (seq1_c01 : (List Span)) (seq1_c02 : (List (Pair × Bool))) (seq1_c1 : Int) : Option (List Int) :=
 if (seq1_c00.length : Int) ≤ 1000000 then ((iterL (m_slices_AppendSeq_intint_2_F0) (reachL seq1_c00.length seq1_c02 seq1_c1) []).bind fun o =>
 some o) else none
theorem c_slices_AppendSeq_intint_2 (seq1_c00 : (List Strip)) (seq1_c01 : (List Span)) (seq1_c02 : (List (Pair × Bool))) (seq1_c1 : Int) (rb : Nat) (rb_1 : Nat) (qa2 : Option Addr) (na2 ca2 : Nat) (qa3 : Option Addr) (na3 ca3 : Nat) (pb : Nat) (rb_2 : Nat) (w : World) (hw : HV w (keys [(pb, gobj (kR RPr) kB seq1_c02)] []) [(pb, gobj (kR RPr) kB seq1_c02)] [] [(rb, 0, [ptr rb_1 0]), (rb_1, 0, [.slice qa2 na2 ca2, .slice qa3 na3 ca3, .map (some pb)]), (aB qa2, aO qa2, RSt.enc seq1_c00), (aB qa3, aO qa3, RSp.enc seq1_c01), (rb_2, 0, [.int .i64 seq1_c1])] w)   (hna2 : seq1_c00.length = na2) (hqa2 : AOK na2 qa2) (hla2 : na2 ≤ ca2) (hna3 : seq1_c01.length = na3) (hqa3 : AOK na3 qa3) (hla3 : na3 ≤ ca3)  {res : (List Int)} (hm : m_slices_AppendSeq_intint_2 seq1_c00 seq1_c01 seq1_c02 seq1_c1 = some res) :
    Calls Tryz.prog 126 #[slv none 0 0, .func (.func 112) #[] #[ptr rb 0, ptr rb_2 0]] w (fun en w' => ∃ l : VL, en = .returned (slv l.q l.n l.cap) ∧ (VOK 1 l.n l.cap (RI.enc res) l.sp l.q) ∧ HV w (keys [(pb, gobj (kR RPr) kB seq1_c02)] []) [(pb, gobj (kR RPr) kB seq1_c02)] [⟨3, RI.enc res, l.sp, l.q, []⟩] [] w') := by
  unfold m_slices_AppendSeq_intint_2 at hm
  refine g_enterM (args := [slv none 0 0, .func (.func 112) #[] #[ptr rb 0, ptr rb_2 0]]) Tryz.func126 rfl Tryz.ntmps126 rfl (e := [(0, _), (1, _)]) rfl (H := HV w (keys [(pb, gobj (kR RPr) kB seq1_c02)] []) [(pb, gobj (kR RPr) kB seq1_c02)] [] [(rb, 0, [ptr rb_1 0]), (rb_1, 0, [.slice qa2 na2 ca2, .slice qa3 na3 ca3, .map (some pb)]), (aB qa2, aO qa2, RSt.enc seq1_c00), (aB qa3, aO qa3, RSp.enc seq1_c01), (rb_2, 0, [.int .i64 seq1_c1])]) hw ?_
  refine g_noMarks (g_sr ?_)
  refine g_boxV rfl rfl (fun b h2 => ?_)
  refine g_val rfl rfl rfl (fun _ _ => v_nilS rfl) (g_nt (g_seq (g_sr (g_mv rfl rfl (g_nt (g_block ?_))))))
  obtain ⟨h3, hm⟩ := ifO hm
  refine g_vnil 3 (g_sub (e' := [(2, ptr b 0), (6, .func (.func 112) #[] #[ptr rb 0, ptr rb_2 0])]) (sE rfl) ?_)
  obtain ⟨o, h4, hm⟩ := bindO hm
  refine g_rangeLX (ι := VL) (reachL seq1_c00.length seq1_c02 seq1_c1) (fun x => .int .i64 x) h4 (fun s l => VOK 1 l.n l.cap (RI.enc s) l.sp l.q) (fun s l => [(b, .cells #[slv l.q l.n l.cap] 26 (0, 0)), (pb, gobj (kR RPr) kB seq1_c02)]) (fun s l => [⟨3, RI.enc s, l.sp, l.q, []⟩, mkV []]) ⟨none, 0, 0, []⟩ (VOK.nil) (fun w hh => hh) (RdReach rb rb_2 rb_1 pb seq1_c1 qa2 na2 ca2 seq1_c02) (fun s l w h5 hh => ⟨segCell (hh.seg 0 rfl) 0 rfl, segCell (hh.seg 4 rfl) 0 rfl, segCell (hh.seg 1 rfl) 0 rfl, segCell (hh.seg 1 rfl) 2 rfl, hh.get 1 rfl⟩) (it_reach _ _ _ rb rb_2 rb_1 pb seq1_c1 qa2 na2 ca2 seq1_c00 seq1_c02 hna2 h3) rfl Tryz.call112 rfl (e1 := fun x => (5, .int .i64 x) :: (7, .int .i64 x) :: [(2, ptr b 0), (6, .func (.func 112) #[] #[ptr rb 0, ptr rb_2 0])]) (fun x lr H X hX => ?_) (fun x s r l lr w1 h5 hm => ?_) (fun l D h5 => ?_)
  ·refine g_region ?_
   refine g_as rfl rfl (g_nt ?_)
   exact hX
  ·have h6 := h5
   unfold m_slices_AppendSeq_intint_2_F0 at hm
   refine g_block (g_region (g_lc 0 Tryz.isAgg26 rfl rfl rfl rfl (g_mv rfl rfl ?_)))
   refine g_vlit RI [x] (ps := [(0, _)]) (cells := [_]) (fun w => Tryz.runUnderlying26 w) (fun w => Tryz.sizeOf3 w) (fun w => Tryz.zeroValue3 w) rfl rfl rfl rfl rfl rfl rfl rfl (fun L h9 => ?_)
   obtain ⟨t11, h10, hm⟩ := bindO hm
   refine g_vapp RI 1 h10 Tryz.underlying26 gxinf3 rfl rfl rfl rfl rfl h6 rfl rfl (vlen RI h9 rfl) (AOK.q (vne h9)) (fun w hh => (hh.vsegA 0 rfl h9)) rfl (fun L_1 h11 h11n => ?_)
   refine g_se (S' := [_, _]) (vs' := [_, _, _]) [0, 1] [0, 1, 2] 0 rfl rfl rfl rfl (g_stS (cs' := #[_]) (S' := [_, _]) 0 (fun w => Tryz.sizeOf26 w) rfl rfl rfl rfl rfl rfl rfl (g_nil (g_n_blk ?_)))
   obtain rfl := sj hm
   exact g_bodyL t11 L_1 rfl (h11) (hsE [0, 1] [1, 2] 5 rfl rfl rfl rfl)
  ·have h12 := h5
   refine g_markIn 1 rfl rfl (g_n_blk (g_n_then (g_sr (g_lc 0 Tryz.isAgg26 rfl rfl rfl rfl (g_as rfl rfl (g_nt (g_ret ?_)))))))
   obtain rfl := sj hm
   refine g_doneMC rfl rfl rfl (fun w hh => (.tmp rfl .nil)) (fun w hh => ⟨l, rfl, h12, hh.se [1] [0] 5 rfl rfl rfl rfl⟩)
def m_slices_Collect_int_1 (seq0_c00 : (List Strip)) (seq0_c01 : (List Span)) (seq0_c02 : (List (Pair × Bool))) (seq0_c1 : Int) : Option (List Int) :=
 (m_slices_AppendSeq_intint_2 seq0_c00 seq0_c01 seq0_c02 seq0_c1).bind fun t4 =>
 some t4
theorem c_slices_Collect_int_1 (seq0_c00 : (List Strip)) (seq0_c01 : (List Span)) (seq0_c02 : (List (Pair × Bool))) (seq0_c1 : Int) (rb : Nat) (rb_1 : Nat) (qa2 : Option Addr) (na2 ca2 : Nat) (qa3 : Option Addr) (na3 ca3 : Nat) (pb : Nat) (rb_2 : Nat) (w : World) (hw : HV w (keys [(pb, gobj (kR RPr) kB seq0_c02)] []) [(pb, gobj (kR RPr) kB seq0_c02)] [] [(rb, 0, [ptr rb_1 0]), (rb_1, 0, [.slice qa2 na2 ca2, .slice qa3 na3 ca3, .map (some pb)]), (aB qa2, aO qa2, RSt.enc seq0_c00), (aB qa3, aO qa3, RSp.enc seq0_c01), (rb_2, 0, [.int .i64 seq0_c1])] w)   (hna2 : seq0_c00.length = na2) (hqa2 : AOK na2 qa2) (hla2 : na2 ≤ ca2) (hna3 : seq0_c01.length = na3) (hqa3 : AOK na3 qa3) (hla3 : na3 ≤ ca3)  {res : (List Int)} (hm : m_slices_Collect_int_1 seq0_c00 seq0_c01 seq0_c02 seq0_c1 = some res) :
    Calls Tryz.prog 93 #[.func (.func 112) #[] #[ptr rb 0, ptr rb_2 0]] w (fun en w' => ∃ l : VL, en = .returned (slv l.q l.n l.cap) ∧ (VOK 1 l.n l.cap (RI.enc res) l.sp l.q) ∧ HV w (keys [(pb, gobj (kR RPr) kB seq0_c02)] []) [(pb, gobj (kR RPr) kB seq0_c02)] [⟨3, RI.enc res, l.sp, l.q, []⟩] [] w') := by
  unfold m_slices_Collect_int_1 at hm
  refine g_en Tryz.func93 rfl Tryz.ntmps93 rfl (e := [(0, _)]) rfl hw (g_sr (g_val rfl rfl rfl (fun _ _ => v_nilS rfl) (g_nx (g_mv rfl rfl ?_))))
  obtain ⟨t4, h2, hm⟩ := bindO hm
  refine g_callH [_] [] rfl rfl rfl rfl rfl rfl rfl Tryz.call126 (fun w hh => c_slices_AppendSeq_intint_2 seq0_c00 seq0_c01 seq0_c02 seq0_c1 rb rb_1 qa2 na2 ca2 qa3 na3 ca3 pb rb_2 w (HV.callee (S0 := [_]) (vs0 := []) hh (roR hh 0 rfl (roR hh 1 rfl (roR hh 2 rfl (roR hh 3 rfl (roR hh 4 rfl roN)))))) hna2 hqa2 hla2 hna3 hqa3 hla3 h2) (fun l h3 => ?_)
  have h4 := h3
  refine g_se (S' := [_]) (vs' := [_]) [0] [0] 0 rfl rfl rfl rfl (g_as rfl rfl (g_nt (g_ret ?_)))
  obtain rfl := sj hm
  refine g_done rfl (fun w hh => (.tmp rfl .nil)) (fun w hh => ⟨l, rfl, h4, hh.se [0] [0] 5 rfl rfl rfl rfl⟩)
structure m_strip_Reach_R where
  r1 : Int
  r0 : (List Int)
def m_strip_Reach (s0 : Scalps) (tenant1 : Int) : Option m_strip_Reach_R :=
 (m_strip_opened s0).bind fun t10 =>
 oc t10 (fun t10a => some (⟨t10a, []⟩ : m_strip_Reach_R)) (fun t10b => (m_strip_Scalps_tenant s0 tenant1).bind fun t20 =>
 if (!t20) = true then
 (some (⟨1, []⟩ : m_strip_Reach_R)) else
 ((m_strip_desk_reach s0.strips s0.carried tenant1).bind fun t24 =>
 (m_slices_Collect_int_1 s0.strips s0.carried t10b t24).bind fun t25 =>
 some (⟨0, t25⟩ : m_strip_Reach_R)))
theorem c_strip_Reach (s0 : Scalps) (tenant1 : Int) (qa0 : Option Addr) (na0 ca0 : Nat) (qa1 : Option Addr) (na1 ca1 : Nat) (w : World) (hw : HV w (keys [] []) [] [] [(aB qa0, aO qa0, RSt.enc s0.strips), (aB qa1, aO qa1, RSp.enc s0.carried)] w) (hna0 : s0.strips.length = na0) (hqa0 : AOK na0 qa0) (hla0 : na0 ≤ ca0) (hna1 : s0.carried.length = na1) (hqa1 : AOK na1 qa1) (hla1 : na1 ≤ ca1) {res : m_strip_Reach_R} (hm : m_strip_Reach s0 tenant1 = some res) :
    Calls Tryz.prog 36 #[.agg #[.slice qa0 na0 ca0, .slice qa1 na1 ca1], .int .i64 tenant1] w (fun en w' => ∃ l : VL, en = .returned (.tuple #[slv l.q l.n l.cap, .int .i64 res.r1]) ∧ (VOK 1 l.n l.cap (RI.enc res.r0) l.sp l.q) ∧ HV w (keys [] []) [] [⟨3, RI.enc res.r0, l.sp, l.q, []⟩] [] w') := by
  unfold m_strip_Reach at hm
  refine g_en Tryz.func36 rfl Tryz.ntmps36 rfl (e := [(0, _), (1, _)]) rfl hw (g_sr ?_)
  refine g_boxV rfl rfl (fun b h2 => ?_)
  refine g_val rfl rfl rfl (fun _ _ => v_nilS rfl) (g_as rfl rfl (g_nx (g_la [_, _] 0 Tryz.isAgg25 Tryz.sizeOf25 rfl rfl rfl rfl ?_)))
  obtain ⟨t10, h3, hm⟩ := bindO hm
  rcases t10 with t10a | t10b
  ·replace hm := ocL hm
   refine g_callH [] [] rfl rfl rfl rfl rfl rfl rfl Tryz.call57 (fun w hh => c_strip_opened s0 qa0 na0 ca0 qa1 na1 ca1 w (HV.callee (S0 := []) (vs0 := []) hh (roR hh 0 rfl (roR hh 1 rfl roN))) hna0 hqa0 hla0 hna1 hqa1 hla1 h3) (fun l h4 => ?_)
   have h5 := h4
   refine g_mv rfl rfl (g_xt rfl rfl rfl (g_xt rfl rfl rfl (g_as rfl rfl (g_as rfl rfl (g_nt (g_seq (g_block ?_)))))))
   refine g_sr (g_mv rfl rfl (g_val rfl rfl rfl (fun _ _ => v_neqT h5 rfl rfl) (g_as rfl rfl (g_nt (g_condT rfl rfl (g_sr (g_mv rfl rfl ?_)))))))
   refine g_val rfl rfl rfl (fun _ _ => v_nilS rfl) (g_as rfl rfl (g_nt (g_ret (g_r_blk (g_r_then (g_vnil 3 ?_))))))
   obtain rfl := sj hm
   refine g_done rfl (fun w hh => (.tmp rfl (.tmp rfl .nil))) (fun w hh => ⟨⟨none, 0, 0, []⟩, rfl, VOK.nil, hh.se [] [0] 2 rfl rfl rfl rfl⟩)
  ·replace hm := ocR hm
   refine g_callH [] [] rfl rfl rfl rfl rfl rfl rfl Tryz.call57 (fun w hh => c_strip_opened s0 qa0 na0 ca0 qa1 na1 ca1 w (HV.callee (S0 := []) (vs0 := []) hh (roR hh 0 rfl (roR hh 1 rfl roN))) hna0 hqa0 hla0 hna1 hqa1 hla1 h3) (fun l_1 h6 => ?_)
   refine g_se (S' := [_, _, _]) (vs' := []) [0, 1, 2] [] 0 rfl rfl rfl rfl (g_mv rfl rfl (g_xt rfl rfl rfl (g_xt rfl rfl rfl (g_as rfl rfl (g_as rfl rfl (g_nt (g_seq ?_)))))))
   refine g_block (g_sr (g_mv rfl rfl (g_val rfl rfl rfl (fun _ _ => v_neq rfl rfl) (g_as rfl rfl (g_nt (g_condF rfl rfl (g_sr ?_)))))))
   refine g_la [_, _] 2 Tryz.isAgg25 Tryz.sizeOf25 rfl rfl rfl rfl (g_mv rfl rfl ?_)
   obtain ⟨t20, h7, hm⟩ := bindO hm
   refine g_callH [] [] rfl rfl rfl rfl rfl rfl rfl Tryz.call68 (fun w hh => c_strip_Scalps_tenant s0 tenant1 qa0 na0 ca0 qa1 na1 ca1 w (HV.callee (S0 := []) (vs0 := []) hh (roR hh 0 rfl (roR hh 1 rfl roN))) hna0 hqa0 hla0 hna1 hqa1 hla1 h7) (fun l_2 h8 => ?_)
   refine g_val rfl rfl rfl (fun _ _ => v_not rfl) (g_as rfl rfl (g_nt ?_))
   refine g_cond rfl (fun h9 => ?_) (fun h9 => ?_)
   ·replace hm := ifT (h9) hm
    refine g_sr (g_val rfl rfl rfl (fun _ _ => v_nilS rfl) (g_as rfl rfl (g_nt (g_ret (g_r_blk (g_r_then (g_vnil 3 ?_)))))))
    obtain rfl := sj hm
    refine g_done rfl (fun w hh => (.tmp rfl (.tmp rfl .nil))) (fun w hh => ⟨⟨none, 0, 0, []⟩, rfl, VOK.nil, hh.se [] [0] 2 rfl rfl rfl rfl⟩)
   ·replace hm := ifN h9 hm
    refine g_skip (g_n_blk (g_n_then (g_sr (g_mv rfl rfl (g_mv rfl rfl ?_)))))
    obtain ⟨t24, h10, hm⟩ := bindO hm
    refine g_callH [] [] rfl rfl rfl rfl rfl rfl rfl Tryz.call64 (fun w hh => c_strip_desk_reach s0.strips s0.carried tenant1 l_1.1 qa0 na0 ca0 qa1 na1 ca1 (.map (some l_1.2)) w (HV.callee (S0 := []) (vs0 := []) hh (roC (bsep (hh.bseg 0 rfl)) (roR hh 0 rfl (roR hh 1 rfl roN)))) hna0 hqa0 hla0 hna1 hqa1 hla1 h10) (fun l_3 h11 => ?_)
    refine g_se (S' := [_, _, _, _, _]) (vs' := []) [0, 1, 2, 3, 4] [] 0 rfl rfl rfl rfl ?_
    obtain ⟨t25, h12, hm⟩ := bindO hm
    refine g_se (S' := [_, _, _, _, _]) (vs' := []) [3, 0, 1, 2, 4] [] 0 rfl rfl rfl rfl ?_
    refine g_callH [_] [] rfl rfl rfl rfl rfl rfl rfl Tryz.call93 (fun w hh => c_slices_Collect_int_1 s0.strips s0.carried t10b t24 l_3.1 l_1.1 qa0 na0 ca0 qa1 na1 ca1 l_1.2 l_3.2 w (HV.callee (S0 := [_]) (vs0 := []) hh (roC (hh.bsepH 0 rfl) (roC (hh.bsepH 2 rfl) (roR hh 0 rfl (roR hh 1 rfl (roC (hh.bsepH 1 rfl) roN)))))) hna0 hqa0 hla0 hna1 hqa1 hla1 h12) (fun l_4 h13 => ?_)
    have h14 := h13
    refine g_se (S' := [_, _, _, _, _]) (vs' := [_]) [0, 1, 2, 3, 4] [0] 0 rfl rfl rfl rfl (g_as rfl rfl (g_as rfl rfl (g_nt (g_ret ?_))))
    obtain rfl := sj hm
    refine g_done rfl (fun w hh => (.tmp rfl (.tmp rfl .nil))) (fun w hh => ⟨l_4, rfl, h14, hh.se [] [0] 2 rfl rfl rfl rfl⟩)
structure m_strip_Gone_R where
  r0 : Span
  r1 : Int
def m_strip_Gone (s0 : Scalps) (strip1 : Int) : Option m_strip_Gone_R :=
 (m_strip_opened s0).bind fun t10 =>
 oc t10 (fun t10a => some (⟨(⟨0, 0⟩ : Span), t10a⟩ : m_strip_Gone_R)) (fun t10b => (m_strip_Scalps_strip s0 strip1).bind fun t21 =>
 if (!t21) = true then
 (some (⟨(⟨0, 0⟩ : Span), 1⟩ : m_strip_Gone_R)) else
 ((ix s0.strips strip1).bind fun t27 =>
 (m_strip_Strip_gone (⟨t27.tenant, (⟨t27.lay.lo, t27.lay.hi⟩ : Span), (⟨t27.seeded.lo, t27.seeded.hi⟩ : Span), (⟨t27.left.lo, t27.left.hi⟩ : Span)⟩ : Strip)).bind fun t29 =>
 some (⟨t29, 0⟩ : m_strip_Gone_R)))
theorem c_strip_Gone (s0 : Scalps) (strip1 : Int) (qa0 : Option Addr) (na0 ca0 : Nat) (qa1 : Option Addr) (na1 ca1 : Nat) (w : World) (hw : HV w (keys [] []) [] [] [(aB qa0, aO qa0, RSt.enc s0.strips), (aB qa1, aO qa1, RSp.enc s0.carried)] w) (hna0 : s0.strips.length = na0) (hqa0 : AOK na0 qa0) (hla0 : na0 ≤ ca0) (hna1 : s0.carried.length = na1) (hqa1 : AOK na1 qa1) (hla1 : na1 ≤ ca1) {res : m_strip_Gone_R} (hm : m_strip_Gone s0 strip1 = some res) :
    Calls Tryz.prog 37 #[.agg #[.slice qa0 na0 ca0, .slice qa1 na1 ca1], .int .i64 strip1] w (fun en w' => ∃ l : Unit, en = .returned (.tuple #[.agg #[.int .i64 res.r0.lo, .int .i64 res.r0.hi], .int .i64 res.r1]) ∧ (True) ∧ HV w (keys [] []) [] [] [] w') := by
  unfold m_strip_Gone at hm
  refine g_en Tryz.func37 rfl Tryz.ntmps37 rfl (e := [(0, _), (1, _)]) rfl hw (g_sr ?_)
  refine g_boxV rfl rfl (fun b h1 => ?_)
  refine g_allocV (fun w => Tryz.zeroValue32 w) rfl (fun b_1 h2 => ?_)
  refine g_as rfl rfl (g_nx (g_la [_, _] 1 Tryz.isAgg25 Tryz.sizeOf25 rfl rfl rfl rfl ?_))
  obtain ⟨t10, h3, hm⟩ := bindO hm
  rcases t10 with t10a | t10b
  ·replace hm := ocL hm
   refine g_callH [] [] rfl rfl rfl rfl rfl rfl rfl Tryz.call57 (fun w hh => c_strip_opened s0 qa0 na0 ca0 qa1 na1 ca1 w (HV.callee (S0 := []) (vs0 := []) hh (roR hh 0 rfl (roR hh 1 rfl roN))) hna0 hqa0 hla0 hna1 hqa1 hla1 h3) (fun l h4 => ?_)
   have h5 := h4
   refine g_mv rfl rfl (g_xt rfl rfl rfl (g_xt rfl rfl rfl (g_as rfl rfl (g_as rfl rfl (g_nt (g_seq (g_block ?_)))))))
   refine g_sr (g_mv rfl rfl (g_val rfl rfl rfl (fun _ _ => v_neqT h5 rfl rfl) (g_as rfl rfl (g_nt (g_condT rfl rfl (g_sr (g_val rfl rfl rfl (fun _ _ => v_build (vs := []) (cells := [_, _]) rfl rfl) ?_)))))))
   refine g_mv rfl rfl (g_stSA (us := #[_, _]) (cs' := [_, _]) (S' := [_, _]) 0 (fun w => Tryz.sizeOf32 w) rfl rfl rfl rfl rfl rfl rfl (g_as rfl rfl (g_nt (g_ret (g_r_blk (g_r_then ?_))))))
   obtain rfl := sj hm
   refine g_done rfl (fun w hh => (.cell rfl (loadVar_agg (vs := [_, _]) (Tryz.isAgg32 _) (Tryz.sizeOf32 _) (hh.cells 0 rfl rfl)) (.tmp rfl .nil))) (fun w hh => ⟨(), rfl, trivial, hh.se [] [] 2 rfl rfl rfl rfl⟩)
  ·replace hm := ocR hm
   refine g_callH [] [] rfl rfl rfl rfl rfl rfl rfl Tryz.call57 (fun w hh => c_strip_opened s0 qa0 na0 ca0 qa1 na1 ca1 w (HV.callee (S0 := []) (vs0 := []) hh (roR hh 0 rfl (roR hh 1 rfl roN))) hna0 hqa0 hla0 hna1 hqa1 hla1 h3) (fun l_1 h6 => ?_)
   refine g_se (S' := [_, _, _, _]) (vs' := []) [0, 1, 2, 3] [] 0 rfl rfl rfl rfl (g_mv rfl rfl (g_xt rfl rfl rfl (g_xt rfl rfl rfl (g_as rfl rfl (g_as rfl rfl (g_nt (g_seq ?_)))))))
   refine g_block (g_sr (g_mv rfl rfl (g_val rfl rfl rfl (fun _ _ => v_neq rfl rfl) (g_as rfl rfl (g_nt (g_condF rfl rfl (g_sr ?_)))))))
   refine g_la [_, _] 3 Tryz.isAgg25 Tryz.sizeOf25 rfl rfl rfl rfl (g_mv rfl rfl ?_)
   obtain ⟨t21, h7, hm⟩ := bindO hm
   refine g_callH [] [] rfl rfl rfl rfl rfl rfl rfl Tryz.call67 (fun w hh => c_strip_Scalps_strip s0 strip1 qa0 na0 ca0 qa1 na1 ca1 w (HV.callee (S0 := []) (vs0 := []) hh (roR hh 0 rfl (roR hh 1 rfl roN))) hna0 hqa0 hla0 hna1 hqa1 hla1 h7) (fun l_2 h8 => ?_)
   refine g_val rfl rfl rfl (fun _ _ => v_not rfl) (g_as rfl rfl (g_nt ?_))
   refine g_cond rfl (fun h9 => ?_) (fun h9 => ?_)
   ·replace hm := ifT (h9) hm
    refine g_sr (g_val rfl rfl rfl (fun _ _ => v_build (vs := []) (cells := [_, _]) rfl rfl) (g_stSA (us := #[_, _]) (cs' := [_, _]) (S' := [_, _, _, _]) 2 (fun w => Tryz.sizeOf32 w) rfl rfl rfl rfl rfl rfl rfl (g_as rfl rfl (g_nt (g_ret (g_r_blk (g_r_then ?_)))))))
    obtain rfl := sj hm
    refine g_done rfl (fun w hh => (.cell rfl (loadVar_agg (vs := [_, _]) (Tryz.isAgg32 _) (Tryz.sizeOf32 _) (hh.cells 2 rfl rfl)) (.tmp rfl .nil))) (fun w hh => ⟨(), rfl, trivial, hh.se [] [] 2 rfl rfl rfl rfl⟩)
   ·replace hm := ifN h9 hm
    refine g_skip (g_n_blk (g_n_then (g_sr (g_fa 0 Tryz.runUnderlying25 rfl Tryz.sizeOf22 rfl rfl (g_lc 3 Tryz.isAgg22 rfl rfl rfl rfl (g_mv rfl rfl ?_))))))
    obtain ⟨t27, h10, hm⟩ := bindO hm
    refine g_val rfl rfl rfl (fun w _ => v_ixR h10 (Tryz.runUnderlying22 w) (Tryz.sizeOf85 w) rfl rfl hna0 hqa0) ?_
    refine g_val rfl rfl rfl (fun w hh => v_ldEA RSt 0 [.int .i64 t27.tenant, .int .i64 t27.lay.lo, .int .i64 t27.lay.hi, .int .i64 t27.seeded.lo, .int .i64 t27.seeded.hi, .int .i64 t27.left.lo, .int .i64 t27.left.hi] h10 (Tryz.isAgg85 w) (Tryz.sizeOf85 w) rfl (hh.seg 0 rfl) rfl (Nat.add_zero _).symm) ?_
    obtain ⟨t29, h11, hm⟩ := bindO hm
    refine g_callH [] [] rfl rfl rfl rfl rfl rfl rfl Tryz.call66 (fun w hh => c_strip_Strip_gone (⟨t27.tenant, (⟨t27.lay.lo, t27.lay.hi⟩ : Span), (⟨t27.seeded.lo, t27.seeded.hi⟩ : Span), (⟨t27.left.lo, t27.left.hi⟩ : Span)⟩ : Strip) w (HV.callee (S0 := []) (vs0 := []) hh roN)  h11) (fun l_3 h12 => ?_)
    refine g_stSA (us := #[_, _]) (cs' := [_, _]) (S' := [_, _, _, _]) 2 (fun w => Tryz.sizeOf32 w) rfl rfl rfl rfl rfl rfl rfl (g_as rfl rfl (g_nt (g_ret ?_)))
    obtain rfl := sj hm
    refine g_done rfl (fun w hh => (.cell rfl (loadVar_agg (vs := [_, _]) (Tryz.isAgg32 _) (Tryz.sizeOf32 _) (hh.cells 2 rfl rfl)) (.tmp rfl .nil))) (fun w hh => ⟨(), rfl, trivial, hh.se [] [] 2 rfl rfl rfl rfl⟩)
def m_strip_Fits_1_1 (n0 : Int) : Option Bool :=
 (m_strip_in n0 0 60).bind fun t4 =>
 some t4
theorem c_strip_Fits_1_1 (n0 : Int)  (w : World) (hw : HV w (keys [] []) [] [] [] w)  {res : Bool} (hm : m_strip_Fits_1_1 n0 = some res) :
    Calls Tryz.prog 96 #[.int .i64 n0] w (fun en w' => ∃ l : Unit, en = .returned (.bool res) ∧ (True) ∧ HV w (keys [] []) [] [] [] w') := by
  unfold m_strip_Fits_1_1 at hm
  refine g_en Tryz.func96 rfl Tryz.ntmps96 rfl (e := [(0, _)]) rfl hw (g_sr (g_as rfl rfl (g_nx (g_mv rfl rfl ?_))))
  obtain ⟨t4, h1, hm⟩ := bindO hm
  refine g_callH [] [] rfl rfl rfl rfl rfl rfl rfl Tryz.call62 (fun w hh => c_strip_in n0 0 60 w (HV.callee (S0 := []) (vs0 := []) hh roN)  h1) (fun l h2 => ?_)
  refine g_as rfl rfl (g_nt (g_ret ?_))
  obtain rfl := sj hm
  refine g_done rfl (fun w hh => (.tmp rfl .nil)) (fun w hh => ⟨(), rfl, trivial, hh⟩)
def m_strip_every_int_1_4 (x0 : Int) : Option Bool :=
 (m_strip_Fits_1_1 x0).bind fun t6 =>
 some (!t6)
theorem c_strip_every_int_1_4 (x0 : Int) (rb : Nat) (w : World) (hw : HV w (keys [] []) [] [] [(rb, 0, [.func (.func 96) #[] #[]])] w)  {res : Bool} (hm : m_strip_every_int_1_4 x0 = some res) :
    Calls Tryz.prog 111 #[.int .i64 x0, ptr rb 0] w (fun en w' => ∃ l : Unit, en = .returned (.bool res) ∧ (True) ∧ HV w (keys [] []) [] [] [] w') := by
  unfold m_strip_every_int_1_4 at hm
  refine g_en Tryz.func111 rfl Tryz.ntmps111 rfl (e := [(0, _), (1, _)]) rfl hw (g_sr (g_as rfl rfl (g_nx (g_val rfl rfl rfl (fun w hh => v_load (Tryz.isAgg120 w) rfl (segCell (hh.seg 0 rfl) 0 rfl)) (g_mv rfl rfl ?_)))))
  obtain ⟨t6, h1, hm⟩ := bindO hm
  refine g_callH [] [] rfl rfl rfl rfl rfl rfl rfl Tryz.call96 (fun w hh => c_strip_Fits_1_1 x0 w (HV.callee (S0 := []) (vs0 := []) hh roN)  h1) (fun l h2 => ?_)
  refine g_val rfl rfl rfl (fun _ _ => v_not rfl) (g_as rfl rfl (g_nt (g_ret ?_)))
  obtain rfl := sj hm
  refine g_done rfl (fun w hh => (.tmp rfl .nil)) (fun w hh => ⟨(), rfl, trivial, hh.se [] [] 1 rfl rfl rfl rfl⟩)
def m_slices_IndexFunc_intint_7_L0 (s0 : (List Int)) (s : Int) : Option (Int ⊕ (Unit ⊕ Int)) :=
 if s < (s0.length : Int) then
 ((ix s0 s).bind fun t14 =>
 (m_strip_every_int_1_4 t14).bind fun t16 =>
 if t16 = true then
 (some (.inr (.inr s))) else
 ((addc s 1).bind fun t18 =>
 some (.inl t18))) else
 (some (.inr (.inl ())))
def m_slices_IndexFunc_intint_7 (s0 : (List Int)) : Option Int :=
 (iterM FU (m_slices_IndexFunc_intint_7_L0 s0) 0).bind fun o =>
 oc o (fun j => some (-1)) (fun r_1 => some r_1)
theorem c_slices_IndexFunc_intint_7 (s0 : (List Int)) (qa0 : Option Addr) (na0 ca0 : Nat) (rb : Nat) (w : World) (hw : HV w (keys [] []) [] [] [(aB qa0, aO qa0, RI.enc s0), (rb, 0, [.func (.func 96) #[] #[]])] w) (hna0 : s0.length = na0) (hqa0 : AOK na0 qa0) (hla0 : na0 ≤ ca0)  {res : Int} (hm : m_slices_IndexFunc_intint_7 s0 = some res) :
    Calls Tryz.prog 132 #[.slice qa0 na0 ca0, .func (.func 111) #[] #[ptr rb 0]] w (fun en w' => ∃ l : Unit, en = .returned (.int .i64 res) ∧ (True) ∧ HV w (keys [] []) [] [] [] w') := by
  unfold m_slices_IndexFunc_intint_7 at hm
  refine g_en Tryz.func132 rfl Tryz.ntmps132 rfl (e := [(0, _), (1, _)]) rfl hw (g_sr (g_as rfl rfl (g_nt (g_seq (g_sr (g_mv rfl rfl (g_val rfl rfl rfl (fun w _ => v_lenR hna0 (Tryz.runUnderlying26 w) rfl) ?_)))))))
  refine g_mv rfl rfl (g_nt ?_)
  obtain ⟨o, h1, h2⟩ := bindO hm
  refine g_cut (ι := Unit) (fun j => o = .inl j) (fun j => []) (fun j => []) (fun j => []) ?_ ?_
  ·replace hm := h1
   refine g_block ?_
   refine g_loopF (ι := Unit) hm (fun s l => True) (fun s l => [(0, .slice qa0 na0 ca0), (1, .func (.func 111) #[] #[ptr rb 0]), (7, .int .i64 (s0.length : Int)), (8, .int .i64 s)]) (fun s l => []) (fun s l => []) () (trivial) (sE rfl) (fun w hh => hh) (fun s l r hpl hm h3 => ?_)
   unfold m_slices_IndexFunc_intint_7_L0 at hm
   refine g_sr (g_ls rfl rfl rfl (g_nt (g_seq ?_)))
   refine g_cond rfl (fun h4 => ?_) (fun h4 => ?_)
   ·replace hm := ifD h4 hm
    refine g_skip (g_n_then (g_seq (g_block (g_sr (g_mv rfl rfl (g_as rfl rfl (g_nx ?_)))))))
    refine g_mv rfl rfl (g_mv rfl rfl (g_mv rfl rfl ?_))
    obtain ⟨t14, h5, hm⟩ := bindO hm
    refine g_val rfl rfl rfl (fun w _ => v_ixR h5 (Tryz.runUnderlying26 w) (Tryz.sizeOf3 w) rfl rfl hna0 hqa0) (g_val rfl rfl rfl (fun w hh => v_ldE RI 0 h5 (Tryz.isAgg3 w) rfl (hh.seg 0 rfl) rfl (Nat.add_zero _).symm) ?_)
    obtain ⟨t16, h6, hm⟩ := bindO hm
    refine g_callH [] [] rfl rfl rfl rfl rfl rfl rfl Tryz.call111 (fun w hh => c_strip_every_int_1_4 t14 rb w (HV.callee (S0 := []) (vs0 := []) hh (roR hh 1 rfl roN))  h6) (fun l_1 h7 => ?_)
    refine g_nt ?_
    refine g_cond rfl (fun h8 => ?_) (fun h8 => ?_)
    ·replace hm := ifT (h8) hm
     refine g_sr (g_mv rfl rfl (g_as rfl rfl (g_nt (g_ret (g_r_blk (g_r_then (g_r_then ?_)))))))
     refine g_r_blk ?_
     obtain rfl := sj hm
     have hbo := h3 _ rfl
     subst hbo
     refine g_r_then ?_
     replace hm := ocR h2
     refine g_r_then ?_
     obtain rfl := sj hm
     refine g_done rfl (fun w hh => (.tmp rfl .nil)) (fun w hh => ⟨(), rfl, trivial, hh.se [] [] 2 rfl rfl rfl rfl⟩)
    ·replace hm := ifN h8 hm
     refine g_skip (g_n_blk (g_n_then (g_region ?_)))
     obtain ⟨t18, h9, hm⟩ := bindO hm
     refine g_ac h9 rfl rfl rfl (g_mv rfl rfl (g_nil ?_))
     obtain rfl := sj hm
     refine g_n_then ?_
     exact g_again' _ () rfl (trivial) (sE rfl) (fun w hh => hh)
   ·replace hm := ifE h4 hm
    refine g_exit (g_x_then (g_x_then (g_x_blk ?_)))
    obtain rfl := sj hm
    have hbo := h3 _ rfl
    subst hbo
    exact g_leaf () (rfl) (.nil) (fun w hh => hh)
  ·intro j hj
   have h10 := hj
   subst h10
   replace hm := ocL h2
   refine g_n_then (g_sr (g_as rfl rfl (g_nt (g_ret ?_))))
   obtain rfl := sj hm
   refine g_done rfl (fun w hh => (.tmp rfl .nil)) (fun w hh => ⟨(), rfl, trivial, hh.se [] [] 2 rfl rfl rfl rfl⟩)
def m_slices_ContainsFunc_intint_7 (s0 : (List Int)) : Option Bool :=
 (m_slices_IndexFunc_intint_7 s0).bind fun t7 =>
 some (decide (0 ≤ t7))
theorem c_slices_ContainsFunc_intint_7 (s0 : (List Int)) (qa0 : Option Addr) (na0 ca0 : Nat) (rb : Nat) (w : World) (hw : HV w (keys [] []) [] [] [(aB qa0, aO qa0, RI.enc s0), (rb, 0, [.func (.func 96) #[] #[]])] w) (hna0 : s0.length = na0) (hqa0 : AOK na0 qa0) (hla0 : na0 ≤ ca0)  {res : Bool} (hm : m_slices_ContainsFunc_intint_7 s0 = some res) :
    Calls Tryz.prog 110 #[.slice qa0 na0 ca0, .func (.func 111) #[] #[ptr rb 0]] w (fun en w' => ∃ l : Unit, en = .returned (.bool res) ∧ (True) ∧ HV w (keys [] []) [] [] [] w') := by
  unfold m_slices_ContainsFunc_intint_7 at hm
  refine g_en Tryz.func110 rfl Tryz.ntmps110 rfl (e := [(0, _), (1, _)]) rfl hw (g_sr (g_as rfl rfl (g_nx (g_mv rfl rfl (g_mv rfl rfl ?_)))))
  obtain ⟨t7, h1, hm⟩ := bindO hm
  refine g_callH [] [] rfl rfl rfl rfl rfl rfl rfl Tryz.call132 (fun w hh => c_slices_IndexFunc_intint_7 s0 qa0 na0 ca0 rb w (HV.callee (S0 := []) (vs0 := []) hh (roR hh 0 rfl (roR hh 1 rfl roN))) hna0 hqa0 hla0 h1) (fun l h2 => ?_)
  refine g_val rfl rfl rfl (fun _ _ => v_geq rfl rfl) (g_as rfl rfl (g_nt (g_ret ?_)))
  obtain rfl := sj hm
  refine g_done rfl (fun w hh => (.tmp rfl .nil)) (fun w hh => ⟨(), rfl, trivial, hh.se [] [] 2 rfl rfl rfl rfl⟩)
def m_strip_every_int_5 (l0 : (List Int)) : Option Bool :=
 (m_slices_ContainsFunc_intint_7 l0).bind fun t7 =>
 some (!t7)
theorem c_strip_every_int_5 (l0 : (List Int)) (qa0 : Option Addr) (na0 ca0 : Nat) (w : World) (hw : HV w (keys [] []) [] [] [(aB qa0, aO qa0, RI.enc l0)] w) (hna0 : l0.length = na0) (hqa0 : AOK na0 qa0) (hla0 : na0 ≤ ca0) {res : Bool} (hm : m_strip_every_int_5 l0 = some res) :
    Calls Tryz.prog 63 #[.slice qa0 na0 ca0, .func (.func 96) #[] #[]] w (fun en w' => ∃ l : Unit, en = .returned (.bool res) ∧ (True) ∧ HV w (keys [] []) [] [] [] w') := by
  unfold m_strip_every_int_5 at hm
  refine g_en Tryz.func63 rfl Tryz.ntmps63 rfl (e := [(0, _), (1, _)]) rfl hw (g_sr ?_)
  refine g_boxV rfl rfl (fun b h1 => ?_)
  refine g_as rfl rfl (g_nx (g_mv rfl rfl (g_val rfl rfl rfl (fun _ _ => v_makeFunc (u := #[]) (u' := #[_]) rfl rfl) ?_)))
  obtain ⟨t7, h2, hm⟩ := bindO hm
  refine g_callH [] [] rfl rfl rfl rfl rfl rfl rfl Tryz.call110 (fun w hh => c_slices_ContainsFunc_intint_7 l0 qa0 na0 ca0 b w (HV.callee (S0 := []) (vs0 := []) hh (roR hh 0 rfl (roC (bsep (hh.bseg 0 rfl)) roN))) hna0 hqa0 hla0 h2) (fun l h3 => ?_)
  refine g_val rfl rfl rfl (fun _ _ => v_not rfl) (g_as rfl rfl (g_nt (g_ret ?_)))
  obtain rfl := sj hm
  refine g_done rfl (fun w hh => (.tmp rfl .nil)) (fun w hh => ⟨(), rfl, trivial, hh.se [] [] 1 rfl rfl rfl rfl⟩)
def m_strip_Fits_1 (l0 : (List Int)) (a11_strips : (List Strip)) (a11_carried : (List Span)) : Option Bool :=
 (if (l0.length : Int) = (a11_strips.length : Int) then
 ((m_strip_every_int_5 l0).bind fun t12 =>
 some t12) else
 (some false)).bind fun o =>
 some o
theorem c_strip_Fits_1 (l0 : (List Int)) (a11_strips : (List Strip)) (a11_carried : (List Span)) (qa0 : Option Addr) (na0 ca0 : Nat) (rb : Nat) (qa2 : Option Addr) (na2 ca2 : Nat) (qa3 : Option Addr) (na3 ca3 : Nat) (w : World) (hw : HV w (keys [] []) [] [] [(aB qa0, aO qa0, RI.enc l0), (rb, 0, [.slice qa2 na2 ca2, .slice qa3 na3 ca3]), (aB qa2, aO qa2, RSt.enc a11_strips), (aB qa3, aO qa3, RSp.enc a11_carried)] w) (hna0 : l0.length = na0) (hqa0 : AOK na0 qa0) (hla0 : na0 ≤ ca0)  (hna2 : a11_strips.length = na2) (hqa2 : AOK na2 qa2) (hla2 : na2 ≤ ca2) (hna3 : a11_carried.length = na3) (hqa3 : AOK na3 qa3) (hla3 : na3 ≤ ca3) {res : Bool} (hm : m_strip_Fits_1 l0 a11_strips a11_carried = some res) :
    Calls Tryz.prog 95 #[.slice qa0 na0 ca0, ptr rb 0] w (fun en w' => ∃ l : Unit, en = .returned (.bool res) ∧ (True) ∧ HV w (keys [] []) [] [] [] w') := by
  unfold m_strip_Fits_1 at hm
  refine g_en Tryz.func95 rfl Tryz.ntmps95 rfl (e := [(0, _), (1, _)]) rfl hw (g_sr (g_as rfl rfl (g_nt (g_seq ?_))))
  obtain ⟨o, h1, h2⟩ := bindO hm
  refine g_cut (ι := Unit) (fun l => True) (fun l => [(3, .bool o)]) (fun l => []) (fun l => []) ?_ ?_
  ·replace hm := h1
   refine g_region (g_mv rfl rfl (g_val rfl rfl rfl (fun w _ => v_lenR hna0 (Tryz.runUnderlying26 w) rfl) (g_fa 0 Tryz.runUnderlying25 rfl Tryz.sizeOf22 rfl rfl (g_val rfl rfl rfl (fun w hh => v_load (Tryz.isAgg22 w) rfl (segCell (hh.seg 1 rfl) 0 rfl)) (g_val rfl rfl rfl (fun w _ => v_lenR hna2 (Tryz.runUnderlying22 w) rfl) (g_val rfl rfl rfl (fun _ _ => v_eql rfl rfl) (g_mv rfl rfl ?_)))))))
   refine g_case 10 rfl (fun h3 => ?_) (fun h3 => ?_)
   ·replace hm := ifD h3 hm
    refine v_unguard rfl rfl (g_mv rfl rfl (v_unguard rfl rfl ?_))
    obtain ⟨t12, h4, hm⟩ := bindO hm
    refine g_callH [] [] rfl rfl rfl rfl rfl rfl rfl Tryz.call63 (fun w hh => c_strip_every_int_5 l0 qa0 na0 ca0 w (HV.callee (S0 := []) (vs0 := []) hh (roR hh 0 rfl roN)) hna0 hqa0 hla0 h4) (fun l_1 h5 => ?_)
    refine g_pt rfl rfl rfl (g_as rfl rfl (g_nil ?_))
    obtain rfl := sj hm
    exact g_leaf () (trivial) (sE rfl) (fun w hh => hh)
   ·replace hm := ifE h3 hm
    refine g_k rfl rfl rfl rfl (g_k rfl rfl rfl rfl (g_pf rfl rfl rfl (g_as rfl rfl (g_nil ?_))))
    obtain rfl := sj hm
    exact g_leaf () (trivial) (sE rfl) (fun w hh => hh)
  ·intro l hj
   replace hm := h2
   refine g_n_then (g_ret ?_)
   obtain rfl := sj hm
   refine g_done rfl (fun w hh => (.tmp rfl .nil)) (fun w hh => ⟨(), rfl, trivial, hh.se [] [] 4 rfl rfl rfl rfl⟩)
def m_strip_every_int_1_3 (x0 : (List Int)) (a11_c0_strips : (List Strip)) (a11_c0_carried : (List Span)) : Option Bool :=
 (m_strip_Fits_1 x0 a11_c0_strips a11_c0_carried).bind fun t6 =>
 some (!t6)
theorem c_strip_every_int_1_3 (x0 : (List Int)) (a11_c0_strips : (List Strip)) (a11_c0_carried : (List Span)) (qa0 : Option Addr) (na0 ca0 : Nat) (rb : Nat) (rb_1 : Nat) (qa3 : Option Addr) (na3 ca3 : Nat) (qa4 : Option Addr) (na4 ca4 : Nat) (w : World) (hw : HV w (keys [] []) [] [] [(aB qa0, aO qa0, RI.enc x0), (rb, 0, [.func (.func 95) #[] #[ptr rb_1 0]]), (rb_1, 0, [.slice qa3 na3 ca3, .slice qa4 na4 ca4]), (aB qa3, aO qa3, RSt.enc a11_c0_strips), (aB qa4, aO qa4, RSp.enc a11_c0_carried)] w) (hna0 : x0.length = na0) (hqa0 : AOK na0 qa0) (hla0 : na0 ≤ ca0)   (hna3 : a11_c0_strips.length = na3) (hqa3 : AOK na3 qa3) (hla3 : na3 ≤ ca3) (hna4 : a11_c0_carried.length = na4) (hqa4 : AOK na4 qa4) (hla4 : na4 ≤ ca4) {res : Bool} (hm : m_strip_every_int_1_3 x0 a11_c0_strips a11_c0_carried = some res) :
    Calls Tryz.prog 128 #[.slice qa0 na0 ca0, ptr rb 0] w (fun en w' => ∃ l : Unit, en = .returned (.bool res) ∧ (True) ∧ HV w (keys [] []) [] [] [] w') := by
  unfold m_strip_every_int_1_3 at hm
  refine g_en Tryz.func128 rfl Tryz.ntmps128 rfl (e := [(0, _), (1, _)]) rfl hw (g_sr (g_as rfl rfl (g_nx (g_val rfl rfl rfl (fun w hh => v_load (Tryz.isAgg128 w) rfl (segCell (hh.seg 1 rfl) 0 rfl)) (g_mv rfl rfl ?_)))))
  obtain ⟨t6, h1, hm⟩ := bindO hm
  refine g_callH [] [] rfl rfl rfl rfl rfl rfl rfl Tryz.call95 (fun w hh => c_strip_Fits_1 x0 a11_c0_strips a11_c0_carried qa0 na0 ca0 rb_1 qa3 na3 ca3 qa4 na4 ca4 w (HV.callee (S0 := []) (vs0 := []) hh (roR hh 0 rfl (roR hh 2 rfl (roR hh 3 rfl (roR hh 4 rfl roN))))) hna0 hqa0 hla0 hna3 hqa3 hla3 hna4 hqa4 hla4 h1) (fun l h2 => ?_)
  refine g_val rfl rfl rfl (fun _ _ => v_not rfl) (g_as rfl rfl (g_nt (g_ret ?_)))
  obtain rfl := sj hm
  refine g_done rfl (fun w hh => (.tmp rfl .nil)) (fun w hh => ⟨(), rfl, trivial, hh.se [] [] 5 rfl rfl rfl rfl⟩)
def m_slices_IndexFunc_intint_6_L0 (s0 : (List (List Int))) (f1_c0_c0_strips : (List Strip)) (f1_c0_c0_carried : (List Span)) (s : Int) : Option (Int ⊕ (Unit ⊕ Int)) :=
 if s < (s0.length : Int) then
 ((ix s0 s).bind fun t14 =>
 (m_strip_every_int_1_3 t14 f1_c0_c0_strips f1_c0_c0_carried).bind fun t16 =>
 if t16 = true then
 (some (.inr (.inr s))) else
 ((addc s 1).bind fun t18 =>
 some (.inl t18))) else
 (some (.inr (.inl ())))
def m_slices_IndexFunc_intint_6 (s0 : (List (List Int))) (f1_c0_c0_strips : (List Strip)) (f1_c0_c0_carried : (List Span)) : Option Int :=
 (iterM FU (m_slices_IndexFunc_intint_6_L0 s0 f1_c0_c0_strips f1_c0_c0_carried) 0).bind fun o =>
 oc o (fun j => some (-1)) (fun r_1 => some r_1)
theorem c_slices_IndexFunc_intint_6 (s0 : (List (List Int))) (f1_c0_c0_strips : (List Strip)) (f1_c0_c0_carried : (List Span)) (qa0 : Option Addr) (na0 ca0 : Nat) (ar0 : List AL) (rb : Nat) (rb_1 : Nat) (qa3 : Option Addr) (na3 ca3 : Nat) (qa4 : Option Addr) (na4 ca4 : Nat) (w : World) (hw : HV w (keys [] []) [] [] [(aB qa0, aO qa0, RwA.enc ar0), (rb, 0, [.func (.func 95) #[] #[ptr rb_1 0]]), (rb_1, 0, [.slice qa3 na3 ca3, .slice qa4 na4 ca4]), (aB qa3, aO qa3, RSt.enc f1_c0_c0_strips), (aB qa4, aO qa4, RSp.enc f1_c0_c0_carried)] w) (hna0 : s0.length = na0) (hqa0 : AOK na0 qa0) (hla0 : na0 ≤ ca0) (hda0 : DRO s0 ar0) (hTa0 : ∀ t, t ∈ rsg RI s0 ar0 → segOK w t ∧ (t.2.2 ≠ [] → t.1 ∉ keys [] []))   (hna3 : f1_c0_c0_strips.length = na3) (hqa3 : AOK na3 qa3) (hla3 : na3 ≤ ca3) (hna4 : f1_c0_c0_carried.length = na4) (hqa4 : AOK na4 qa4) (hla4 : na4 ≤ ca4) {res : Int} (hm : m_slices_IndexFunc_intint_6 s0 f1_c0_c0_strips f1_c0_c0_carried = some res) :
    Calls Tryz.prog 137 #[.slice qa0 na0 ca0, .func (.func 128) #[] #[ptr rb 0]] w (fun en w' => ∃ l : Unit, en = .returned (.int .i64 res) ∧ (True) ∧ HV w (keys [] []) [] [] [] w') := by
  unfold m_slices_IndexFunc_intint_6 at hm
  refine g_en Tryz.func137 rfl Tryz.ntmps137 rfl (e := [(0, _), (1, _)]) rfl hw (g_sr (g_as rfl rfl (g_nt (g_seq (g_sr (g_mv rfl rfl (g_val rfl rfl rfl (fun w _ => v_lenR hna0 (Tryz.runUnderlying70 w) rfl) ?_)))))))
  refine g_mv rfl rfl (g_nt ?_)
  obtain ⟨o, h1, h2⟩ := bindO hm
  refine g_cut (ι := Unit) (fun j => o = .inl j) (fun j => []) (fun j => []) (fun j => []) ?_ ?_
  ·replace hm := h1
   refine g_block ?_
   refine g_loopF (ι := Unit) hm (fun s l => True) (fun s l => [(0, .slice qa0 na0 ca0), (1, .func (.func 128) #[] #[ptr rb 0]), (7, .int .i64 (s0.length : Int)), (8, .int .i64 s)]) (fun s l => []) (fun s l => []) () (trivial) (sE rfl) (fun w hh => hh) (fun s l r hpl hm h3 => ?_)
   unfold m_slices_IndexFunc_intint_6_L0 at hm
   refine g_sr (g_ls rfl rfl rfl (g_nt (g_seq ?_)))
   refine g_cond rfl (fun h4 => ?_) (fun h4 => ?_)
   ·replace hm := ifD h4 hm
    refine g_skip (g_n_then (g_seq (g_block (g_sr (g_mv rfl rfl (g_as rfl rfl (g_nx ?_)))))))
    refine g_mv rfl rfl (g_mv rfl rfl (g_mv rfl rfl ?_))
    obtain ⟨t14, h5, hm⟩ := bindO hm
    obtain ⟨A, h6, h7, h8, h9⟩ := (hda0).row h5
    refine g_val rfl rfl rfl (fun w _ => v_ixR h6 (Tryz.runUnderlying70 w) (Tryz.sizeOf26 w) rfl rfl (Eq.trans (hda0).len.symm hna0) hqa0) (g_val rfl rfl rfl (fun w hh => v_ldE RwA 0 h6 (Tryz.isAgg26 w) rfl (hh.seg 0 rfl) rfl (Nat.add_zero _).symm) ?_)
    obtain ⟨t16, h10, hm⟩ := bindO hm
    refine g_callH [] [] rfl rfl rfl rfl rfl rfl rfl Tryz.call128 (fun w hh => c_strip_every_int_1_3 t14 f1_c0_c0_strips f1_c0_c0_carried A.a A.n A.cap rb rb_1 qa3 na3 ca3 qa4 na4 ca4 w (HV.callee (S0 := []) (vs0 := []) hh (roC (hh.oldsep (S0 := []) (vs0 := []) (hTa0 _ (rsg_ix h5 h6))) (roR hh 1 rfl (roR hh 2 rfl (roR hh 3 rfl (roR hh 4 rfl roN)))))) h7 h8 h9 hna3 hqa3 hla3 hna4 hqa4 hla4 h10) (fun l_1 h11 => ?_)
    refine g_nt ?_
    refine g_cond rfl (fun h12 => ?_) (fun h12 => ?_)
    ·replace hm := ifT (h12) hm
     refine g_sr (g_mv rfl rfl (g_as rfl rfl (g_nt (g_ret (g_r_blk (g_r_then (g_r_then ?_)))))))
     refine g_r_blk ?_
     obtain rfl := sj hm
     have hbo := h3 _ rfl
     subst hbo
     refine g_r_then ?_
     replace hm := ocR h2
     refine g_r_then ?_
     obtain rfl := sj hm
     refine g_done rfl (fun w hh => (.tmp rfl .nil)) (fun w hh => ⟨(), rfl, trivial, hh.se [] [] 5 rfl rfl rfl rfl⟩)
    ·replace hm := ifN h12 hm
     refine g_skip (g_n_blk (g_n_then (g_region ?_)))
     obtain ⟨t18, h13, hm⟩ := bindO hm
     refine g_ac h13 rfl rfl rfl (g_mv rfl rfl (g_nil ?_))
     obtain rfl := sj hm
     refine g_n_then ?_
     exact g_again' _ () rfl (trivial) (sE rfl) (fun w hh => hh)
   ·replace hm := ifE h4 hm
    refine g_exit (g_x_then (g_x_then (g_x_blk ?_)))
    obtain rfl := sj hm
    have hbo := h3 _ rfl
    subst hbo
    exact g_leaf () (rfl) (.nil) (fun w hh => hh)
  ·intro j hj
   have h14 := hj
   subst h14
   replace hm := ocL h2
   refine g_n_then (g_sr (g_as rfl rfl (g_nt (g_ret ?_))))
   obtain rfl := sj hm
   refine g_done rfl (fun w hh => (.tmp rfl .nil)) (fun w hh => ⟨(), rfl, trivial, hh.se [] [] 5 rfl rfl rfl rfl⟩)
def m_slices_ContainsFunc_intint_6 (s0 : (List (List Int))) (f1_c0_c0_strips : (List Strip)) (f1_c0_c0_carried : (List Span)) : Option Bool :=
 (m_slices_IndexFunc_intint_6 s0 f1_c0_c0_strips f1_c0_c0_carried).bind fun t7 =>
 some (decide (0 ≤ t7))
theorem c_slices_ContainsFunc_intint_6 (s0 : (List (List Int))) (f1_c0_c0_strips : (List Strip)) (f1_c0_c0_carried : (List Span)) (qa0 : Option Addr) (na0 ca0 : Nat) (ar0 : List AL) (rb : Nat) (rb_1 : Nat) (qa3 : Option Addr) (na3 ca3 : Nat) (qa4 : Option Addr) (na4 ca4 : Nat) (w : World) (hw : HV w (keys [] []) [] [] [(aB qa0, aO qa0, RwA.enc ar0), (rb, 0, [.func (.func 95) #[] #[ptr rb_1 0]]), (rb_1, 0, [.slice qa3 na3 ca3, .slice qa4 na4 ca4]), (aB qa3, aO qa3, RSt.enc f1_c0_c0_strips), (aB qa4, aO qa4, RSp.enc f1_c0_c0_carried)] w) (hna0 : s0.length = na0) (hqa0 : AOK na0 qa0) (hla0 : na0 ≤ ca0) (hda0 : DRO s0 ar0) (hTa0 : ∀ t, t ∈ rsg RI s0 ar0 → segOK w t ∧ (t.2.2 ≠ [] → t.1 ∉ keys [] []))   (hna3 : f1_c0_c0_strips.length = na3) (hqa3 : AOK na3 qa3) (hla3 : na3 ≤ ca3) (hna4 : f1_c0_c0_carried.length = na4) (hqa4 : AOK na4 qa4) (hla4 : na4 ≤ ca4) {res : Bool} (hm : m_slices_ContainsFunc_intint_6 s0 f1_c0_c0_strips f1_c0_c0_carried = some res) :
    Calls Tryz.prog 127 #[.slice qa0 na0 ca0, .func (.func 128) #[] #[ptr rb 0]] w (fun en w' => ∃ l : Unit, en = .returned (.bool res) ∧ (True) ∧ HV w (keys [] []) [] [] [] w') := by
  unfold m_slices_ContainsFunc_intint_6 at hm
  refine g_en Tryz.func127 rfl Tryz.ntmps127 rfl (e := [(0, _), (1, _)]) rfl hw (g_sr (g_as rfl rfl (g_nx (g_mv rfl rfl (g_mv rfl rfl ?_)))))
  obtain ⟨t7, h1, hm⟩ := bindO hm
  refine g_callH [] [] rfl rfl rfl rfl rfl rfl rfl Tryz.call137 (fun w hh => c_slices_IndexFunc_intint_6 s0 f1_c0_c0_strips f1_c0_c0_carried qa0 na0 ca0 ar0 rb rb_1 qa3 na3 ca3 qa4 na4 ca4 w (HV.callee (S0 := []) (vs0 := []) hh (roR hh 0 rfl (roR hh 1 rfl (roR hh 2 rfl (roR hh 3 rfl (roR hh 4 rfl roN)))))) hna0 hqa0 hla0 hda0 (hh.oldT (S0 := []) (vs0 := []) hTa0) hna3 hqa3 hla3 hna4 hqa4 hla4 h1) (fun l h2 => ?_)
  refine g_val rfl rfl rfl (fun _ _ => v_geq rfl rfl) (g_as rfl rfl (g_nt (g_ret ?_)))
  obtain rfl := sj hm
  refine g_done rfl (fun w hh => (.tmp rfl .nil)) (fun w hh => ⟨(), rfl, trivial, hh.se [] [] 5 rfl rfl rfl rfl⟩)
def m_strip_every_int_4 (l0 : (List (List Int))) (holds1_c0_strips : (List Strip)) (holds1_c0_carried : (List Span)) : Option Bool :=
 (m_slices_ContainsFunc_intint_6 l0 holds1_c0_strips holds1_c0_carried).bind fun t7 =>
 some (!t7)
theorem c_strip_every_int_4 (l0 : (List (List Int))) (holds1_c0_strips : (List Strip)) (holds1_c0_carried : (List Span)) (qa0 : Option Addr) (na0 ca0 : Nat) (ar0 : List AL) (rb : Nat) (qa2 : Option Addr) (na2 ca2 : Nat) (qa3 : Option Addr) (na3 ca3 : Nat) (w : World) (hw : HV w (keys [] []) [] [] [(aB qa0, aO qa0, RwA.enc ar0), (rb, 0, [.slice qa2 na2 ca2, .slice qa3 na3 ca3]), (aB qa2, aO qa2, RSt.enc holds1_c0_strips), (aB qa3, aO qa3, RSp.enc holds1_c0_carried)] w) (hna0 : l0.length = na0) (hqa0 : AOK na0 qa0) (hla0 : na0 ≤ ca0) (hda0 : DRO l0 ar0) (hTa0 : ∀ t, t ∈ rsg RI l0 ar0 → segOK w t ∧ (t.2.2 ≠ [] → t.1 ∉ keys [] []))  (hna2 : holds1_c0_strips.length = na2) (hqa2 : AOK na2 qa2) (hla2 : na2 ≤ ca2) (hna3 : holds1_c0_carried.length = na3) (hqa3 : AOK na3 qa3) (hla3 : na3 ≤ ca3) {res : Bool} (hm : m_strip_every_int_4 l0 holds1_c0_strips holds1_c0_carried = some res) :
    Calls Tryz.prog 94 #[.slice qa0 na0 ca0, .func (.func 95) #[] #[ptr rb 0]] w (fun en w' => ∃ l : Unit, en = .returned (.bool res) ∧ (True) ∧ HV w (keys [] []) [] [] [] w') := by
  unfold m_strip_every_int_4 at hm
  refine g_en Tryz.func94 rfl Tryz.ntmps94 rfl (e := [(0, _), (1, _)]) rfl hw (g_sr ?_)
  refine g_boxV rfl rfl (fun b h1 => ?_)
  refine g_as rfl rfl (g_nx (g_mv rfl rfl (g_val rfl rfl rfl (fun _ _ => v_makeFunc (u := #[]) (u' := #[_]) rfl rfl) ?_)))
  obtain ⟨t7, h2, hm⟩ := bindO hm
  refine g_callH [] [] rfl rfl rfl rfl rfl rfl rfl Tryz.call127 (fun w hh => c_slices_ContainsFunc_intint_6 l0 holds1_c0_strips holds1_c0_carried qa0 na0 ca0 ar0 b rb qa2 na2 ca2 qa3 na3 ca3 w (HV.callee (S0 := []) (vs0 := []) hh (roR hh 0 rfl (roC (bsep (hh.bseg 0 rfl)) (roR hh 1 rfl (roR hh 2 rfl (roR hh 3 rfl roN)))))) hna0 hqa0 hla0 hda0 (hh.oldT (S0 := []) (vs0 := []) hTa0) hna2 hqa2 hla2 hna3 hqa3 hla3 h2) (fun l h3 => ?_)
  refine g_val rfl rfl rfl (fun _ _ => v_not rfl) (g_as rfl rfl (g_nt (g_ret ?_)))
  obtain rfl := sj hm
  refine g_done rfl (fun w hh => (.tmp rfl .nil)) (fun w hh => ⟨(), rfl, trivial, hh.se [] [] 4 rfl rfl rfl rfl⟩)
structure m_strip_Fits_R where
  r0 : Bool
  r1 : Int
structure m_strip_Fits_S0 where
  t43 : Int
  t40 : (List Int)
structure m_strip_Fits_C2 where
  sum11 : Int
  t40 : (List Int)
structure m_strip_Fits_S1 where
  sum11 : Int
  t50 : Int
  t40 : (List Int)
def m_strip_Fits_L1 (t46 : (List Int)) (t19b : (List (Pair × Bool))) (s : m_strip_Fits_S0) (s_1 : m_strip_Fits_S1) : Option (m_strip_Fits_S1 ⊕ (m_strip_Fits_C2 ⊕ m_strip_Fits_R)) :=
 if s_1.t50 < (t46.length : Int) then
 ((ix t46 s_1.t50).bind fun t53 =>
 (if 0 < t53 then
 (some (!((aget t19b (⟨s.t43, s_1.t50⟩ : Pair)).getD false))) else
 (some false)).bind fun o_3 =>
 if o_3 = true then
 (some (.inr (.inr (⟨false, 0⟩ : m_strip_Fits_R)))) else
 ((addc s_1.sum11 t53).bind fun t72 =>
 (ix s_1.t40 s_1.t50).bind fun t75 =>
 (addc t75 t53).bind fun t78 =>
 (ix s_1.t40 s_1.t50).bind fun t79 =>
 (some (s_1.t40.set (Int.toNat s_1.t50) t78)).bind fun t40_1 =>
 (addc s_1.t50 1).bind fun t80 =>
 some (.inl (⟨t72, t80, t40_1⟩ : m_strip_Fits_S1)))) else
 (some (.inr (.inl (⟨s_1.sum11, s_1.t40⟩ : m_strip_Fits_C2))))
def m_strip_Fits_L0 (shares1 : (List (List Int))) (t19b : (List (Pair × Bool))) (s0 : Scalps) (s : m_strip_Fits_S0) : Option (m_strip_Fits_S0 ⊕ ((List Int) ⊕ m_strip_Fits_R)) :=
 if s.t43 < (shares1.length : Int) then
 ((ix shares1 s.t43).bind fun t46 =>
 (iterM FU (m_strip_Fits_L1 t46 t19b s) (⟨0, 0, s.t40⟩ : m_strip_Fits_S1)).bind fun o_2 =>
 oc o_2 (fun j_1 => (ix s0.carried s.t43).bind fun t85 =>
 (ix s0.carried s.t43).bind fun t91 =>
 (m_strip_in j_1.sum11 t85.lo t91.hi).bind fun t94 =>
 if (!t94) = true then
 (some (.inr (.inr (⟨false, 0⟩ : m_strip_Fits_R)))) else
 ((addc s.t43 1).bind fun t96 =>
 some (.inl (⟨t96, j_1.t40⟩ : m_strip_Fits_S0)))) (fun r_2 => some (.inr (.inr r_2)))) else
 (some (.inr (.inl s.t40)))
def m_strip_Fits_L2 (j : (List Int)) (s0 : Scalps) (s_2 : Int) : Option (Int ⊕ (Unit ⊕ m_strip_Fits_R)) :=
 if s_2 < (j.length : Int) then
 ((ix j s_2).bind fun t102 =>
 (ix s0.strips s_2).bind fun t107 =>
 (m_strip_Strip_gone (⟨t107.tenant, (⟨t107.lay.lo, t107.lay.hi⟩ : Span), (⟨t107.seeded.lo, t107.seeded.hi⟩ : Span), (⟨t107.left.lo, t107.left.hi⟩ : Span)⟩ : Strip)).bind fun t109 =>
 (m_strip_in t102 t109.lo t109.hi).bind fun t115 =>
 if (!t115) = true then
 (some (.inr (.inr (⟨false, 0⟩ : m_strip_Fits_R)))) else
 ((addc s_2 1).bind fun t117 =>
 some (.inl t117))) else
 (some (.inr (.inl ())))
def m_strip_Fits (s0 : Scalps) (shares1 : (List (List Int))) : Option m_strip_Fits_R :=
 (m_strip_opened s0).bind fun t19 =>
 oc t19 (fun t19a => some (⟨false, t19a⟩ : m_strip_Fits_R)) (fun t19b => (if (shares1.length : Int) = (s0.carried.length : Int) then
 ((m_strip_every_int_4 shares1 s0.strips s0.carried).bind fun t34 =>
 some (!t34)) else
 (some true)).bind fun o =>
 if o = true then
 (some (⟨false, 0⟩ : m_strip_Fits_R)) else
 ((makec 8 0 (s0.strips.length : Int) (s0.strips.length : Int)).bind fun t40 =>
 (iterM FU (m_strip_Fits_L0 shares1 t19b s0) (⟨0, t40⟩ : m_strip_Fits_S0)).bind fun o_1 =>
 oc o_1 (fun j => (iterM FU (m_strip_Fits_L2 j s0) 0).bind fun o_4 =>
 oc o_4 (fun j_2 => some (⟨true, 0⟩ : m_strip_Fits_R)) (fun r_4 => some r_4)) (fun r_5 => some r_5)))
theorem c_strip_Fits (s0 : Scalps) (shares1 : (List (List Int))) (qa0 : Option Addr) (na0 ca0 : Nat) (qa1 : Option Addr) (na1 ca1 : Nat) (qa2 : Option Addr) (na2 ca2 : Nat) (ar2 : List AL) (w : World) (hw : HV w (keys [] []) [] [] [(aB qa0, aO qa0, RSt.enc s0.strips), (aB qa1, aO qa1, RSp.enc s0.carried), (aB qa2, aO qa2, RwA.enc ar2)] w) (hna0 : s0.strips.length = na0) (hqa0 : AOK na0 qa0) (hla0 : na0 ≤ ca0) (hna1 : s0.carried.length = na1) (hqa1 : AOK na1 qa1) (hla1 : na1 ≤ ca1) (hna2 : shares1.length = na2) (hqa2 : AOK na2 qa2) (hla2 : na2 ≤ ca2) (hda2 : DRO shares1 ar2) (hTa2 : ∀ t, t ∈ rsg RI shares1 ar2 → segOK w t ∧ (t.2.2 ≠ [] → t.1 ∉ keys [] [])) {res : m_strip_Fits_R} (hm : m_strip_Fits s0 shares1 = some res) :
    Calls Tryz.prog 38 #[.agg #[.slice qa0 na0 ca0, .slice qa1 na1 ca1], .slice qa2 na2 ca2] w (fun en w' => ∃ l : Unit, en = .returned (.tuple #[.bool res.r0, .int .i64 res.r1]) ∧ (True) ∧ HV w (keys [] []) [] [] [] w') := by
  unfold m_strip_Fits at hm
  refine g_en Tryz.func38 rfl Tryz.ntmps38 rfl (e := [(0, _), (1, _)]) rfl hw (g_sr ?_)
  refine g_boxV rfl rfl (fun b h1 => ?_)
  refine g_as rfl rfl (g_as rfl rfl (g_nx (g_la [_, _] 0 Tryz.isAgg25 Tryz.sizeOf25 rfl rfl rfl rfl ?_)))
  obtain ⟨t19, h2, hm⟩ := bindO hm
  rcases t19 with t19a | t19b
  ·replace hm := ocL hm
   refine g_callH [] [] rfl rfl rfl rfl rfl rfl rfl Tryz.call57 (fun w hh => c_strip_opened s0 qa0 na0 ca0 qa1 na1 ca1 w (HV.callee (S0 := []) (vs0 := []) hh (roR hh 0 rfl (roR hh 1 rfl roN))) hna0 hqa0 hla0 hna1 hqa1 hla1 h2) (fun l h3 => ?_)
   have h4 := h3
   refine g_mv rfl rfl (g_xt rfl rfl rfl (g_xt rfl rfl rfl (g_as rfl rfl (g_as rfl rfl (g_nt (g_seq (g_sr ?_)))))))
   refine g_mv rfl rfl (g_val rfl rfl rfl (fun _ _ => v_neqT h4 rfl rfl) (g_nt (g_condT rfl rfl (g_sr (g_mv rfl rfl (g_as rfl rfl (g_as rfl rfl ?_)))))))
   refine g_nt (g_ret (g_r_then ?_))
   obtain rfl := sj hm
   refine g_done rfl (fun w hh => (.tmp rfl (.tmp rfl .nil))) (fun w hh => ⟨(), rfl, trivial, hh.se [] [] 3 rfl rfl rfl rfl⟩)
  ·replace hm := ocR hm
   refine g_callH [] [] rfl rfl rfl rfl rfl rfl rfl Tryz.call57 (fun w hh => c_strip_opened s0 qa0 na0 ca0 qa1 na1 ca1 w (HV.callee (S0 := []) (vs0 := []) hh (roR hh 0 rfl (roR hh 1 rfl roN))) hna0 hqa0 hla0 hna1 hqa1 hla1 h2) (fun l_1 h5 => ?_)
   refine g_se (S' := [_, _, _]) (vs' := []) [0, 1, 2] [] 0 rfl rfl rfl rfl (g_mv rfl rfl (g_xt rfl rfl rfl (g_xt rfl rfl rfl (g_as rfl rfl (g_as rfl rfl (g_nt (g_seq ?_)))))))
   refine g_sr (g_mv rfl rfl (g_val rfl rfl rfl (fun _ _ => v_neq rfl rfl) (g_nt (g_condF rfl rfl (g_skip (g_n_then (g_seq ?_)))))))
   refine g_seq ?_
   obtain ⟨o, h6, h7⟩ := bindO hm
   refine g_cut (ι := Unit) (fun l_2 => True) (fun l_2 => [(1, .slice qa2 na2 ca2), (2, ptr b 0), (6, ptr l_1.1 0), (36, .bool o)]) (fun l_2 => [(l_1.1, .cells #[.slice qa0 na0 ca0, .slice qa1 na1 ca1, .map (some l_1.2)] 144 (0, 0)), (l_1.2, gobj (kR RPr) kB t19b), (b, .cells #[.slice qa0 na0 ca0, .slice qa1 na1 ca1] 25 (0, 0))]) (fun l_2 => []) ?_ ?_
   ·replace hm := h6
    refine g_region (g_mv rfl rfl (g_val rfl rfl rfl (fun w _ => v_lenR hna2 (Tryz.runUnderlying70 w) rfl) (g_fa 1 Tryz.runUnderlying25 rfl Tryz.sizeOf23 rfl rfl (g_lc 2 Tryz.isAgg23 rfl rfl rfl rfl (g_val rfl rfl rfl (fun w _ => v_lenR hna1 (Tryz.runUnderlying23 w) rfl) (g_val rfl rfl rfl (fun _ _ => v_neq rfl rfl) (g_mv rfl rfl ?_)))))))
    refine g_case 31 rfl (fun h8 => ?_) (fun h8 => ?_)
    ·replace hm := ifF (of_ndec_true h8) hm
     refine g_k rfl rfl rfl rfl (g_k rfl rfl rfl rfl (g_k rfl rfl rfl rfl (g_k rfl rfl rfl rfl (g_pt rfl rfl rfl (g_nil ?_)))))
     obtain rfl := sj hm
     exact g_leaf () (trivial) (sE rfl) (fun w hh => hh)
    ·replace hm := ifT (of_ndec_false h8) hm
     refine v_unguard rfl rfl (g_mv rfl rfl (v_unguard rfl rfl (g_val rfl rfl rfl (fun _ _ => v_makeFunc (u := #[]) (u' := #[_]) rfl rfl) (v_unguard rfl rfl ?_))))
     obtain ⟨t34, h9, hm⟩ := bindO hm
     refine g_callH [] [] rfl rfl rfl rfl rfl rfl rfl Tryz.call94 (fun w hh => c_strip_every_int_4 shares1 s0.strips s0.carried qa2 na2 ca2 ar2 b qa0 na0 ca0 qa1 na1 ca1 w (HV.callee (S0 := []) (vs0 := []) hh (roR hh 2 rfl (roC (bsep (hh.bseg 2 rfl)) (roR hh 0 rfl (roR hh 1 rfl roN))))) hna2 hqa2 hla2 hda2 (hh.oldT (S0 := []) (vs0 := []) hTa2) hna0 hqa0 hla0 hna1 hqa1 hla1 h9) (fun l_3 h10 => ?_)
     refine v_unguard rfl rfl (g_val rfl rfl rfl (fun _ _ => v_not rfl) (g_pf rfl rfl rfl (g_nil ?_)))
     obtain rfl := sj hm
     exact g_leaf () (trivial) (sE rfl) (fun w hh => hh)
   ·intro l_2 hj
    replace hm := h7
    refine g_n_then ?_
    refine g_cond rfl (fun h11 => ?_) (fun h11 => ?_)
    ·replace hm := ifT (h11) hm
     refine g_sr (g_as rfl rfl (g_as rfl rfl (g_nt (g_ret (g_r_then ?_)))))
     obtain rfl := sj hm
     refine g_done rfl (fun w hh => (.tmp rfl (.tmp rfl .nil))) (fun w hh => ⟨(), rfl, trivial, hh.se [] [] 3 rfl rfl rfl rfl⟩)
    ·replace hm := ifN h11 hm
     refine g_skip (g_n_then (g_sr (g_fa 0 Tryz.runUnderlying25 rfl Tryz.sizeOf22 rfl rfl (g_lc 2 Tryz.isAgg22 rfl rfl rfl rfl (g_val rfl rfl rfl (fun w _ => v_lenR hna0 (Tryz.runUnderlying22 w) rfl) ?_)))))
     obtain ⟨t40, h12, hm⟩ := bindO hm
     refine g_vmake RI 0 h12 Tryz.underlying26 gxinf3 rfl rfl rfl rfl rfl (fun L h13 => ?_)
     refine g_as rfl rfl (g_nt (g_seq (g_sr (g_mv rfl rfl (g_val rfl rfl rfl (fun w _ => v_lenR hna2 (Tryz.runUnderlying70 w) rfl) (g_mv rfl rfl (g_nt ?_)))))))
     obtain ⟨o_1, h14, h15⟩ := bindO hm
     refine g_cut (ι := (List Int)) (fun j => o_1 = .inl j ∧ VOK 1 L.n L.cap (RI.enc j) L.sp L.q) (fun j => [(2, ptr b 0), (8, slv L.q L.n L.cap)]) (fun j => [(l_1.1, .cells #[.slice qa0 na0 ca0, .slice qa1 na1 ca1, .map (some l_1.2)] 144 (0, 0)), (l_1.2, gobj (kR RPr) kB t19b), (b, .cells #[.slice qa0 na0 ca0, .slice qa1 na1 ca1] 25 (0, 0))]) (fun j => [⟨3, RI.enc j, L.sp, L.q, []⟩]) ?_ ?_
     ·replace hm := h14
      refine g_block ?_
      refine g_loopF (ι := Unit) hm (fun s l_4 => VOK 1 L.n L.cap (RI.enc s.t40) L.sp L.q) (fun s l_4 => [(2, ptr b 0), (6, ptr l_1.1 0), (8, slv L.q L.n L.cap), (41, .slice qa2 na2 ca2), (42, .int .i64 (shares1.length : Int)), (43, .int .i64 s.t43)]) (fun s l_4 => [(l_1.1, .cells #[.slice qa0 na0 ca0, .slice qa1 na1 ca1, .map (some l_1.2)] 144 (0, 0)), (l_1.2, gobj (kR RPr) kB t19b), (b, .cells #[.slice qa0 na0 ca0, .slice qa1 na1 ca1] 25 (0, 0))]) (fun s l_4 => [⟨3, RI.enc s.t40, L.sp, L.q, []⟩]) () (h13) (sE rfl) (fun w hh => hh) (fun s l_4 r hpl hm h18 => ?_)
      have h17 := hpl
      unfold m_strip_Fits_L0 at hm
      refine g_sr (g_ls rfl rfl rfl (g_nt (g_seq ?_)))
      refine g_cond rfl (fun h19 => ?_) (fun h19 => ?_)
      ·replace hm := ifD h19 hm
       refine g_skip (g_n_then (g_seq (g_block (g_sr (g_mv rfl rfl ?_)))))
       obtain ⟨t46, h20, hm⟩ := bindO hm
       obtain ⟨A, h21, h22, h23, h24⟩ := (hda2).row h20
       refine g_val rfl rfl rfl (fun w _ => v_ixR h21 (Tryz.runUnderlying70 w) (Tryz.sizeOf26 w) rfl rfl (Eq.trans (hda2).len.symm hna2) hqa2) (g_val rfl rfl rfl (fun w hh => v_ldE RwA 0 h21 (Tryz.isAgg26 w) rfl (hh.seg 2 rfl) rfl (Nat.add_zero _).symm) (g_as rfl rfl (g_as rfl rfl (g_nx (g_as rfl rfl (g_nt (g_seq ?_)))))))
       refine g_sr (g_mv rfl rfl (g_val rfl rfl rfl (fun w _ => v_lenR h22 (Tryz.runUnderlying26 w) rfl) (g_mv rfl rfl (g_nt ?_))))
       obtain ⟨o_2, h25, h26⟩ := bindO hm
       refine g_cut (ι := m_strip_Fits_C2) (fun j_1 => o_2 = .inl j_1 ∧ VOK 1 L.n L.cap (RI.enc j_1.t40) L.sp L.q) (fun j_1 => [(2, ptr b 0), (6, ptr l_1.1 0), (8, slv L.q L.n L.cap), (9, .int .i64 s.t43), (11, .int .i64 j_1.sum11), (41, .slice qa2 na2 ca2), (42, .int .i64 (shares1.length : Int)), (43, .int .i64 s.t43)]) (fun j_1 => [(l_1.1, .cells #[.slice qa0 na0 ca0, .slice qa1 na1 ca1, .map (some l_1.2)] 144 (0, 0)), (l_1.2, gobj (kR RPr) kB t19b), (b, .cells #[.slice qa0 na0 ca0, .slice qa1 na1 ca1] 25 (0, 0))]) (fun j_1 => [⟨3, RI.enc j_1.t40, L.sp, L.q, []⟩]) ?_ ?_
       ·replace hm := h25
        refine g_block ?_
        refine g_loopF (ι := Unit) hm (fun s_1 l_5 => VOK 1 L.n L.cap (RI.enc s_1.t40) L.sp L.q) (fun s_1 l_5 => [(2, ptr b 0), (6, ptr l_1.1 0), (8, slv L.q L.n L.cap), (9, .int .i64 s.t43), (11, .int .i64 s_1.sum11), (41, .slice qa2 na2 ca2), (42, .int .i64 (shares1.length : Int)), (43, .int .i64 s.t43), (48, .slice A.a A.n A.cap), (49, .int .i64 (t46.length : Int)), (50, .int .i64 s_1.t50)]) (fun s_1 l_5 => [(l_1.1, .cells #[.slice qa0 na0 ca0, .slice qa1 na1 ca1, .map (some l_1.2)] 144 (0, 0)), (l_1.2, gobj (kR RPr) kB t19b), (b, .cells #[.slice qa0 na0 ca0, .slice qa1 na1 ca1] 25 (0, 0))]) (fun s_1 l_5 => [⟨3, RI.enc s_1.t40, L.sp, L.q, []⟩]) () (h17) (sE rfl) (fun w hh => hh) (fun s_1 l_5 r_1 hpl hm h29 => ?_)
        have h28 := hpl
        unfold m_strip_Fits_L1 at hm
        refine g_sr (g_ls rfl rfl rfl (g_nt (g_seq ?_)))
        refine g_cond rfl (fun h30 => ?_) (fun h30 => ?_)
        ·replace hm := ifD h30 hm
         refine g_skip (g_n_then (g_seq (g_block (g_sr (g_mv rfl rfl ?_)))))
         obtain ⟨t53, h31, hm⟩ := bindO hm
         refine g_val rfl rfl rfl (fun w _ => v_ixR h31 (Tryz.runUnderlying26 w) (Tryz.sizeOf3 w) rfl rfl h22 h23) (g_val rfl rfl rfl (fun w hh => v_ldE RI 0 h31 (Tryz.isAgg3 w) rfl (hh.oldseg (hTa2 _ (rsg_ix h20 h21))) rfl (Nat.add_zero _).symm) (g_as rfl rfl (g_as rfl rfl (g_nt (g_seq (g_seq ?_))))))
         obtain ⟨o_3, h32, h33⟩ := bindO hm
         refine g_cut (ι := Unit) (fun l_6 => True) (fun l_6 => [(2, ptr b 0), (6, ptr l_1.1 0), (8, slv L.q L.n L.cap), (9, .int .i64 s.t43), (11, .int .i64 s_1.sum11), (12, .int .i64 s_1.t50), (13, .int .i64 t53), (41, .slice qa2 na2 ca2), (42, .int .i64 (shares1.length : Int)), (43, .int .i64 s.t43), (48, .slice A.a A.n A.cap), (49, .int .i64 (t46.length : Int)), (50, .int .i64 s_1.t50), (67, .bool o_3)]) (fun l_6 => [(l_1.1, .cells #[.slice qa0 na0 ca0, .slice qa1 na1 ca1, .map (some l_1.2)] 144 (0, 0)), (l_1.2, gobj (kR RPr) kB t19b), (b, .cells #[.slice qa0 na0 ca0, .slice qa1 na1 ca1] 25 (0, 0))]) (fun l_6 => [⟨3, RI.enc s_1.t40, L.sp, L.q, []⟩]) ?_ ?_
         ·replace hm := h32
          refine g_region (g_mv rfl rfl (g_val rfl rfl rfl (fun _ _ => v_gtr rfl rfl) (g_mv rfl rfl ?_)))
          refine g_case 57 rfl (fun h34 => ?_) (fun h34 => ?_)
          ·replace hm := ifD h34 hm
           refine v_unguard rfl rfl (g_mv rfl rfl (v_unguard rfl rfl (g_val rfl rfl rfl (fun _ _ => v_nilCheck rfl) (v_unguard rfl rfl (g_fa 2 Tryz.runUnderlying144 rfl Tryz.sizeOf142 rfl rfl (v_unguard rfl rfl (g_lc 0 Tryz.isAgg142 rfl rfl rfl rfl ?_)))))))
           refine v_unguard rfl rfl (g_mv rfl rfl (v_unguard rfl rfl (g_mv rfl rfl (v_unguard rfl rfl (g_val rfl rfl rfl (fun _ _ => v_build (vs := [(0, _), (1, _)]) (cells := [_, _]) rfl rfl) (v_unguard rfl rfl ?_))))))
           refine g_val rfl rfl rfl (fun w hh => v_lookG (k := (⟨s.t43, s_1.t50⟩ : Pair)) (z := false) (Tryz.runUnderlying142 w) gxkey126 (Tryz.zeroValue4 w) rfl rfl (hh.mget 1 rfl)) ?_
           refine v_unguard rfl rfl (g_val rfl rfl rfl (fun _ _ => v_not rfl) (g_pt rfl rfl rfl (g_nil ?_)))
           obtain rfl := sj hm
           exact g_leaf () (trivial) (sE rfl) (fun w hh => hh)
          ·replace hm := ifE h34 hm
           refine g_k rfl rfl rfl rfl (g_k rfl rfl rfl rfl (g_k rfl rfl rfl rfl (g_k rfl rfl rfl rfl (g_k rfl rfl rfl rfl (g_k rfl rfl rfl rfl (g_k rfl rfl rfl rfl (g_k rfl rfl rfl rfl ?_)))))))
           refine g_k rfl rfl rfl rfl (g_pf rfl rfl rfl (g_nil ?_))
           obtain rfl := sj hm
           exact g_leaf () (trivial) (sE rfl) (fun w hh => hh)
         ·intro l_6 hj
          replace hm := h33
          refine g_n_then ?_
          refine g_cond rfl (fun h35 => ?_) (fun h35 => ?_)
          ·replace hm := ifT (h35) hm
           refine g_sr (g_as rfl rfl (g_as rfl rfl (g_nt (g_ret (g_r_then (g_r_blk (g_r_then ?_)))))))
           refine g_r_then (g_r_blk ?_)
           obtain rfl := sj hm
           have hbo := h29 _ rfl
           subst hbo
           refine g_r_then ?_
           replace hm := ocR h26
           refine g_r_then (g_r_blk (g_r_then (g_r_then (g_r_blk ?_))))
           obtain rfl := sj hm
           have hbo := h18 _ rfl
           subst hbo
           refine g_r_then ?_
           replace hm := ocR h15
           refine g_r_then ?_
           obtain rfl := sj hm
           refine g_done rfl (fun w hh => (.tmp rfl (.tmp rfl .nil))) (fun w hh => ⟨(), rfl, trivial, hh.se [] [] 3 rfl rfl rfl rfl⟩)
          ·replace hm := ifN h35 hm
           refine g_skip (g_n_then ?_)
           refine g_draw (some 13) (.free 0 (.free 1 (.free 2 (.free 3 (.free 4 (.free 5 (.free 6 (.free 7 (.hoist 8 (.free 9 (.free 10 (.free 11 (.free 12 (.last 13 .done)))))))))))))) _ rfl (by decide +kernel) (fun w k hh => hh.draw k) (fun w hh => hh) ?_
           refine p_mv rfl rfl rfl (p_mv rfl rfl rfl (p_mv rfl rfl rfl (p_mv rfl rfl rfl ?_)))
           obtain ⟨t72, h36, hm⟩ := bindO hm
           refine p_free rfl rfl rfl rfl (fun _ _ => v_addc h36 rfl rfl) (p_mv rfl rfl rfl (p_mv rfl rfl rfl ?_))
           obtain ⟨t75, h37, hm⟩ := bindO hm
           refine p_free rfl rfl rfl rfl (fun w _ => v_ixA h37 (Tryz.runUnderlying26 w) (Tryz.sizeOf3 w) rfl rfl (vlen RI h28 rfl) (vne h28)) (p_hoist rfl rfl rfl rfl (fun w hh => v_ldE RI 0 h37 (Tryz.isAgg3 w) rfl (hh.vseg 0 rfl h28) rfl (Nat.add_zero _).symm) (p_mv rfl rfl rfl ?_))
           obtain ⟨t78, h38, hm⟩ := bindO hm
           refine p_free rfl rfl rfl rfl (fun _ _ => v_addc h38 rfl rfl) (p_free rfl rfl rfl rfl (fun _ _ => v_assign rfl) ?_)
           obtain ⟨t79, h39, hm⟩ := bindO hm
           refine p_free rfl rfl rfl rfl (fun w _ => v_ixA h39 (Tryz.runUnderlying26 w) (Tryz.sizeOf3 w) rfl rfl (vlen RI h28 rfl) (vne h28)) (p_last rfl ?_)
           obtain ⟨t40_1, ht40_1, hm⟩ := bindO hm
           refine g_vst RI 0 0 t78 (fun w => Tryz.sizeOf3 w) rfl rfl rfl rfl h28 rfl (Nat.add_zero _).symm rfl h39 rfl rfl (Option.some.inj ht40_1) (fun h40 => ?_)
           refine g_se (S' := [_, _, _]) (vs' := [_]) [0, 1, 2] [0] 0 rfl rfl rfl rfl (p_nextL (p_done (g_n_blk (g_n_then (g_region ?_)))))
           obtain ⟨t80, h41, hm⟩ := bindO hm
           refine g_ac h41 rfl rfl rfl (g_mv rfl rfl (g_nil ?_))
           obtain rfl := sj hm
           refine g_n_then ?_
           exact g_again' _ () rfl (h40) (sE rfl) (fun w hh => hh)
        ·replace hm := ifE h30 hm
         refine g_exit (g_x_then (g_x_then (g_x_blk ?_)))
         obtain rfl := sj hm
         have hbo := h29 _ rfl
         subst hbo
         exact g_leaf (⟨s_1.sum11, s_1.t40⟩ : m_strip_Fits_C2) (⟨rfl, h28⟩) (sE rfl) (fun w hh => hh)
       ·intro j_1 hj
        obtain ⟨h42, h27⟩ := hj
        subst h42
        replace hm := ocL h26
        refine g_n_then (g_seq ?_)
        refine g_draw none (.free 0 (.free 1 (.hoist 2 (.free 3 (.free 4 (.free 5 (.hoist 6 (.free 7 (.hoist 8 (.free 9 (.free 10 (.free 11 (.hoist 12 (.one 13 (.free 14 .done))))))))))))))) _ rfl (by decide +kernel) (fun w k hh => hh.draw k) (fun w hh => hh) ?_
        refine p_mv rfl rfl rfl (p_fa 1 Tryz.runUnderlying25 Tryz.sizeOf23 rfl rfl rfl rfl (p_lc 2 Tryz.isAgg23 rfl rfl rfl rfl rfl (p_mv rfl rfl rfl ?_)))
        obtain ⟨t85, h43, hm⟩ := bindO hm
        refine p_free rfl rfl rfl rfl (fun w _ => v_ixR h43 (Tryz.runUnderlying23 w) (Tryz.sizeOf32 w) rfl rfl hna1 hqa1) (p_fa 0 Tryz.runUnderlying32 Tryz.sizeOf3 rfl rfl rfl rfl (p_hoist rfl rfl rfl rfl (fun w hh => v_ldE RSp 0 h43 (Tryz.isAgg3 w) rfl (hh.seg 1 rfl) rfl rfl) (p_fa 1 Tryz.runUnderlying25 Tryz.sizeOf23 rfl rfl rfl rfl (p_lc 2 Tryz.isAgg23 rfl rfl rfl rfl rfl (p_mv rfl rfl rfl ?_)))))
        obtain ⟨t91, h44, hm⟩ := bindO hm
        refine p_free rfl rfl rfl rfl (fun w _ => v_ixR h44 (Tryz.runUnderlying23 w) (Tryz.sizeOf32 w) rfl rfl hna1 hqa1) (p_fa 1 Tryz.runUnderlying32 Tryz.sizeOf3 rfl rfl rfl rfl (p_hoist rfl rfl rfl rfl (fun w hh => v_ldE RSp 1 h44 (Tryz.isAgg3 w) rfl (hh.seg 1 rfl) rfl rfl) (p_one rfl ?_)))
        obtain ⟨t94, h45, hm⟩ := bindO hm
        refine g_callH [] [] rfl rfl rfl rfl rfl rfl rfl Tryz.call62 (fun w hh => c_strip_in j_1.sum11 t85.lo t91.hi w (HV.callee (S0 := []) (vs0 := []) hh roN)  h45) (fun l_7 h46 => ?_)
        refine p_next (fun w hh => hh) (p_free rfl rfl rfl rfl (fun _ _ => v_not rfl) (p_done (g_n_then ?_)))
        refine g_cond rfl (fun h47 => ?_) (fun h47 => ?_)
        ·replace hm := ifT (h47) hm
         refine g_sr (g_as rfl rfl (g_as rfl rfl (g_nt (g_ret (g_r_blk (g_r_then (g_r_then ?_)))))))
         refine g_r_blk ?_
         obtain rfl := sj hm
         have hbo := h18 _ rfl
         subst hbo
         refine g_r_then ?_
         replace hm := ocR h15
         refine g_r_then ?_
         obtain rfl := sj hm
         refine g_done rfl (fun w hh => (.tmp rfl (.tmp rfl .nil))) (fun w hh => ⟨(), rfl, trivial, hh.se [] [] 3 rfl rfl rfl rfl⟩)
        ·replace hm := ifN h47 hm
         refine g_skip (g_n_blk (g_n_then (g_region ?_)))
         obtain ⟨t96, h48, hm⟩ := bindO hm
         refine g_ac h48 rfl rfl rfl (g_mv rfl rfl (g_nil ?_))
         obtain rfl := sj hm
         refine g_n_then ?_
         exact g_again' _ () rfl (h27) (sE rfl) (fun w hh => hh)
      ·replace hm := ifE h19 hm
       refine g_exit (g_x_then (g_x_then (g_x_blk ?_)))
       obtain rfl := sj hm
       have hbo := h18 _ rfl
       subst hbo
       exact g_leaf s.t40 (⟨rfl, h17⟩) (sE rfl) (fun w hh => hh)
     ·intro j hj
      obtain ⟨h49, h16⟩ := hj
      subst h49
      replace hm := ocL h15
      refine g_n_then (g_seq (g_sr (g_mv rfl rfl (g_val rfl rfl rfl (fun w _ => v_lenN (vlen RI h16 rfl) (Tryz.runUnderlying26 w) rfl) (g_mv rfl rfl (g_nt ?_))))))
      obtain ⟨o_4, h50, h51⟩ := bindO hm
      refine g_cut (ι := Unit) (fun j_2 => o_4 = .inl j_2) (fun j_2 => []) (fun j_2 => [(l_1.1, .cells #[.slice qa0 na0 ca0, .slice qa1 na1 ca1, .map (some l_1.2)] 144 (0, 0)), (l_1.2, gobj (kR RPr) kB t19b), (b, .cells #[.slice qa0 na0 ca0, .slice qa1 na1 ca1] 25 (0, 0))]) (fun j_2 => []) ?_ ?_
      ·replace hm := h50
       refine g_block ?_
       refine g_loopF (ι := Unit) hm (fun s_2 l_8 => True) (fun s_2 l_8 => [(2, ptr b 0), (97, slv L.q L.n L.cap), (98, .int .i64 (j.length : Int)), (99, .int .i64 s_2)]) (fun s_2 l_8 => [(l_1.1, .cells #[.slice qa0 na0 ca0, .slice qa1 na1 ca1, .map (some l_1.2)] 144 (0, 0)), (l_1.2, gobj (kR RPr) kB t19b), (b, .cells #[.slice qa0 na0 ca0, .slice qa1 na1 ca1] 25 (0, 0))]) (fun s_2 l_8 => [⟨3, RI.enc j, L.sp, L.q, []⟩]) () (trivial) (sE rfl) (fun w hh => hh) (fun s_2 l_8 r_3 hpl hm h52 => ?_)
       unfold m_strip_Fits_L2 at hm
       refine g_sr (g_ls rfl rfl rfl (g_nt (g_seq ?_)))
       refine g_cond rfl (fun h53 => ?_) (fun h53 => ?_)
       ·replace hm := ifD h53 hm
        refine g_skip (g_n_then (g_seq (g_block (g_sr (g_mv rfl rfl ?_)))))
        obtain ⟨t102, h54, hm⟩ := bindO hm
        refine g_val rfl rfl rfl (fun w _ => v_ixA h54 (Tryz.runUnderlying26 w) (Tryz.sizeOf3 w) rfl rfl (vlen RI h16 rfl) (vne h16)) (g_val rfl rfl rfl (fun w hh => v_ldE RI 0 h54 (Tryz.isAgg3 w) rfl (hh.vseg 0 rfl h16) rfl (Nat.add_zero _).symm) (g_as rfl rfl (g_as rfl rfl (g_nx (g_fa 0 Tryz.runUnderlying25 rfl Tryz.sizeOf22 rfl rfl (g_lc 2 Tryz.isAgg22 rfl rfl rfl rfl (g_mv rfl rfl ?_)))))))
        obtain ⟨t107, h55, hm⟩ := bindO hm
        refine g_val rfl rfl rfl (fun w _ => v_ixR h55 (Tryz.runUnderlying22 w) (Tryz.sizeOf85 w) rfl rfl hna0 hqa0) ?_
        refine g_val rfl rfl rfl (fun w hh => v_ldEA RSt 0 [.int .i64 t107.tenant, .int .i64 t107.lay.lo, .int .i64 t107.lay.hi, .int .i64 t107.seeded.lo, .int .i64 t107.seeded.hi, .int .i64 t107.left.lo, .int .i64 t107.left.hi] h55 (Tryz.isAgg85 w) (Tryz.sizeOf85 w) rfl (hh.seg 0 rfl) rfl (Nat.add_zero _).symm) ?_
        obtain ⟨t109, h56, hm⟩ := bindO hm
        refine g_callH [] [] rfl rfl rfl rfl rfl rfl rfl Tryz.call66 (fun w hh => c_strip_Strip_gone (⟨t107.tenant, (⟨t107.lay.lo, t107.lay.hi⟩ : Span), (⟨t107.seeded.lo, t107.seeded.hi⟩ : Span), (⟨t107.left.lo, t107.left.hi⟩ : Span)⟩ : Strip) w (HV.callee (S0 := []) (vs0 := []) hh roN)  h56) (fun l_9 h57 => ?_)
        refine g_allocV (fun w => Tryz.zeroValue32 w) rfl (fun b_1 h58 => ?_)
        refine g_stSA (us := #[_, _]) (cs' := [_, _]) (S' := [_, _, _, _]) 0 (fun w => Tryz.sizeOf32 w) rfl rfl rfl rfl rfl rfl rfl (g_nx (g_mv rfl rfl (g_fa 0 Tryz.runUnderlying32 rfl Tryz.sizeOf3 rfl rfl (g_lc 0 Tryz.isAgg3 rfl rfl rfl rfl (g_fa 1 Tryz.runUnderlying32 rfl Tryz.sizeOf3 rfl rfl (g_lc 0 Tryz.isAgg3 rfl rfl rfl rfl ?_))))))
        obtain ⟨t115, h59, hm⟩ := bindO hm
        refine g_callH [] [] rfl rfl rfl rfl rfl rfl rfl Tryz.call62 (fun w hh => c_strip_in t102 t109.lo t109.hi w (HV.callee (S0 := []) (vs0 := []) hh roN)  h59) (fun l_10 h60 => ?_)
        refine g_val rfl rfl rfl (fun _ _ => v_not rfl) (g_nt ?_)
        refine g_cond rfl (fun h61 => ?_) (fun h61 => ?_)
        ·replace hm := ifT (h61) hm
         refine g_sr (g_as rfl rfl (g_as rfl rfl (g_nt (g_ret (g_r_blk (g_r_then (g_r_then ?_)))))))
         refine g_r_blk ?_
         obtain rfl := sj hm
         have hbo := h52 _ rfl
         subst hbo
         refine g_r_then ?_
         replace hm := ocR h51
         refine g_r_then ?_
         obtain rfl := sj hm
         refine g_done rfl (fun w hh => (.tmp rfl (.tmp rfl .nil))) (fun w hh => ⟨(), rfl, trivial, hh.se [] [] 3 rfl rfl rfl rfl⟩)
        ·replace hm := ifN h61 hm
         refine g_skip (g_n_blk (g_n_then (g_region ?_)))
         obtain ⟨t117, h62, hm⟩ := bindO hm
         refine g_ac h62 rfl rfl rfl (g_mv rfl rfl (g_nil ?_))
         obtain rfl := sj hm
         refine g_n_then ?_
         exact g_again' _ () rfl (trivial) (sE rfl) (hsE [1, 2, 3] [0] 0 rfl rfl rfl rfl)
       ·replace hm := ifE h53 hm
        refine g_exit (g_x_then (g_x_then (g_x_blk ?_)))
        obtain rfl := sj hm
        have hbo := h52 _ rfl
        subst hbo
        exact g_leaf () (rfl) (.nil) (hsE [0, 1, 2] [] 0 rfl rfl rfl rfl)
      ·intro j_2 hj
       have h63 := hj
       subst h63
       replace hm := ocL h51
       refine g_n_then (g_sr (g_as rfl rfl (g_as rfl rfl (g_nt (g_ret ?_)))))
       obtain rfl := sj hm
       refine g_done rfl (fun w hh => (.tmp rfl (.tmp rfl .nil))) (fun w hh => ⟨(), rfl, trivial, hh.se [] [] 3 rfl rfl rfl rfl⟩)
def m_slices_EqualFunc_intintintint_L0 (s10 : (List (List Int))) (s21 : (List (List Int))) (s : Int) : Option (Int ⊕ (Unit ⊕ Bool)) :=
 if s < (s10.length : Int) then
 ((ix s10 s).bind fun t20 =>
 (ix s21 s).bind fun t24 =>
 (m_slices_Equal_intint t20 t24).bind fun t29 =>
 if (!t29) = true then
 (some (.inr (.inr false))) else
 ((addc s 1).bind fun t31 =>
 some (.inl t31))) else
 (some (.inr (.inl ())))
def m_slices_EqualFunc_intintintint (s10 : (List (List Int))) (s21 : (List (List Int))) : Option Bool :=
 if (s10.length : Int) = (s21.length : Int) then
 ((iterM FU (m_slices_EqualFunc_intintintint_L0 s10 s21) 0).bind fun o =>
 oc o (fun j => some true) (fun r_1 => some r_1)) else
 (some false)
theorem c_slices_EqualFunc_intintintint (s10 : (List (List Int))) (s21 : (List (List Int))) (qa0 : Option Addr) (na0 ca0 : Nat) (ar0 : List AL) (qa1 : Option Addr) (na1 ca1 : Nat) (ar1 : List AL) (w : World) (hw : HV w (keys [] []) [] [] [(aB qa0, aO qa0, RwA.enc ar0), (aB qa1, aO qa1, RwA.enc ar1)] w) (hna0 : s10.length = na0) (hqa0 : AOK na0 qa0) (hla0 : na0 ≤ ca0) (hda0 : DRO s10 ar0) (hTa0 : ∀ t, t ∈ rsg RI s10 ar0 → segOK w t ∧ (t.2.2 ≠ [] → t.1 ∉ keys [] [])) (hna1 : s21.length = na1) (hqa1 : AOK na1 qa1) (hla1 : na1 ≤ ca1) (hda1 : DRO s21 ar1) (hTa1 : ∀ t, t ∈ rsg RI s21 ar1 → segOK w t ∧ (t.2.2 ≠ [] → t.1 ∉ keys [] [])) {res : Bool} (hm : m_slices_EqualFunc_intintintint s10 s21 = some res) :
    Calls Tryz.prog 97 #[.slice qa0 na0 ca0, .slice qa1 na1 ca1, .func (.func 78) #[] #[]] w (fun en w' => ∃ l : Unit, en = .returned (.bool res) ∧ (True) ∧ HV w (keys [] []) [] [] [] w') := by
  unfold m_slices_EqualFunc_intintintint at hm
  refine g_en Tryz.func97 rfl Tryz.ntmps97 rfl (e := [(0, _), (1, _), (2, _)]) rfl hw (g_sr (g_as rfl rfl (g_nt (g_seq (g_sr (g_mv rfl rfl (g_val rfl rfl rfl (fun w _ => v_lenR hna0 (Tryz.runUnderlying70 w) rfl) ?_)))))))
  refine g_mv rfl rfl (g_val rfl rfl rfl (fun w _ => v_lenR hna1 (Tryz.runUnderlying70 w) rfl) (g_val rfl rfl rfl (fun _ _ => v_neq rfl rfl) (g_nt ?_)))
  refine g_cond rfl (fun h1 => ?_) (fun h1 => ?_)
  ·replace hm := ifF (of_ndec_true h1) hm
   refine g_sr (g_as rfl rfl (g_nt (g_ret (g_r_then ?_))))
   obtain rfl := sj hm
   refine g_done rfl (fun w hh => (.tmp rfl .nil)) (fun w hh => ⟨(), rfl, trivial, hh.se [] [] 2 rfl rfl rfl rfl⟩)
  ·replace hm := ifT (of_ndec_false h1) hm
   refine g_skip (g_n_then (g_seq (g_sr (g_mv rfl rfl (g_val rfl rfl rfl (fun w _ => v_lenR hna0 (Tryz.runUnderlying70 w) rfl) (g_mv rfl rfl (g_nt ?_)))))))
   obtain ⟨o, h2, h3⟩ := bindO hm
   refine g_cut (ι := Unit) (fun j => o = .inl j) (fun j => []) (fun j => []) (fun j => []) ?_ ?_
   ·replace hm := h2
    refine g_block ?_
    refine g_loopF (ι := Unit) hm (fun s l => True) (fun s l => [(1, .slice qa1 na1 ca1), (2, .func (.func 78) #[] #[]), (15, .slice qa0 na0 ca0), (16, .int .i64 (s10.length : Int)), (17, .int .i64 s)]) (fun s l => []) (fun s l => []) () (trivial) (sE rfl) (fun w hh => hh) (fun s l r hpl hm h4 => ?_)
    unfold m_slices_EqualFunc_intintintint_L0 at hm
    refine g_sr (g_ls rfl rfl rfl (g_nt (g_seq ?_)))
    refine g_cond rfl (fun h5 => ?_) (fun h5 => ?_)
    ·replace hm := ifD h5 hm
     refine g_skip (g_n_then (g_seq (g_block (g_sr (g_mv rfl rfl ?_)))))
     obtain ⟨t20, h6, hm⟩ := bindO hm
     obtain ⟨A, h7, h8, h9, h10⟩ := (hda0).row h6
     refine g_val rfl rfl rfl (fun w _ => v_ixR h7 (Tryz.runUnderlying70 w) (Tryz.sizeOf26 w) rfl rfl (Eq.trans (hda0).len.symm hna0) hqa0) (g_val rfl rfl rfl (fun w hh => v_ldE RwA 0 h7 (Tryz.isAgg26 w) rfl (hh.seg 0 rfl) rfl (Nat.add_zero _).symm) (g_as rfl rfl (g_as rfl rfl (g_nx (g_mv rfl rfl (g_mv rfl rfl ?_))))))
     obtain ⟨t24, h11, hm⟩ := bindO hm
     obtain ⟨A_1, h12, h13, h14, h15⟩ := (hda1).row h11
     refine g_val rfl rfl rfl (fun w _ => v_ixR h12 (Tryz.runUnderlying70 w) (Tryz.sizeOf26 w) rfl rfl (Eq.trans (hda1).len.symm hna1) hqa1) (g_val rfl rfl rfl (fun w hh => v_ldE RwA 0 h12 (Tryz.isAgg26 w) rfl (hh.seg 1 rfl) rfl (Nat.add_zero _).symm) (g_as rfl rfl (g_nx (g_mv rfl rfl (g_mv rfl rfl (g_mv rfl rfl ?_))))))
     obtain ⟨t29, h16, hm⟩ := bindO hm
     refine g_callH [] [] rfl rfl rfl rfl rfl rfl rfl Tryz.call78 (fun w hh => c_slices_Equal_intint t20 t24 A.a A.n A.cap A_1.a A_1.n A_1.cap w (HV.callee (S0 := []) (vs0 := []) hh (roC (hh.oldsep (S0 := []) (vs0 := []) (hTa0 _ (rsg_ix h6 h7))) (roC (hh.oldsep (S0 := []) (vs0 := []) (hTa1 _ (rsg_ix h11 h12))) roN))) h8 h9 h10 h13 h14 h15 h16) (fun l_1 h17 => ?_)
     refine g_val rfl rfl rfl (fun _ _ => v_not rfl) (g_nt ?_)
     refine g_cond rfl (fun h18 => ?_) (fun h18 => ?_)
     ·replace hm := ifT (h18) hm
      refine g_sr (g_as rfl rfl (g_nt (g_ret (g_r_blk (g_r_then (g_r_then (g_r_blk ?_)))))))
      obtain rfl := sj hm
      have hbo := h4 _ rfl
      subst hbo
      refine g_r_then ?_
      replace hm := ocR h3
      refine g_r_then ?_
      obtain rfl := sj hm
      refine g_done rfl (fun w hh => (.tmp rfl .nil)) (fun w hh => ⟨(), rfl, trivial, hh.se [] [] 2 rfl rfl rfl rfl⟩)
     ·replace hm := ifN h18 hm
      refine g_skip (g_n_blk (g_n_then (g_region ?_)))
      obtain ⟨t31, h19, hm⟩ := bindO hm
      refine g_ac h19 rfl rfl rfl (g_mv rfl rfl (g_nil ?_))
      obtain rfl := sj hm
      refine g_n_then ?_
      exact g_again' _ () rfl (trivial) (sE rfl) (fun w hh => hh)
    ·replace hm := ifE h5 hm
     refine g_exit (g_x_then (g_x_then (g_x_blk ?_)))
     obtain rfl := sj hm
     have hbo := h4 _ rfl
     subst hbo
     exact g_leaf () (rfl) (.nil) (fun w hh => hh)
   ·intro j hj
    have h20 := hj
    subst h20
    replace hm := ocL h3
    refine g_n_then (g_sr (g_as rfl rfl (g_nt (g_ret ?_))))
    obtain rfl := sj hm
    refine g_done rfl (fun w hh => (.tmp rfl .nil)) (fun w hh => ⟨(), rfl, trivial, hh.se [] [] 2 rfl rfl rfl rfl⟩)
def m_laurelkit_EqRows_int (a0 : (List (List Int))) (b1 : (List (List Int))) : Option Bool :=
 (m_slices_EqualFunc_intintintint a0 b1).bind fun t7 =>
 some t7
theorem c_laurelkit_EqRows_int (a0 : (List (List Int))) (b1 : (List (List Int))) (qa0 : Option Addr) (na0 ca0 : Nat) (ar0 : List AL) (qa1 : Option Addr) (na1 ca1 : Nat) (ar1 : List AL) (w : World) (hw : HV w (keys [] []) [] [] [(aB qa0, aO qa0, RwA.enc ar0), (aB qa1, aO qa1, RwA.enc ar1)] w) (hna0 : a0.length = na0) (hqa0 : AOK na0 qa0) (hla0 : na0 ≤ ca0) (hda0 : DRO a0 ar0) (hTa0 : ∀ t, t ∈ rsg RI a0 ar0 → segOK w t ∧ (t.2.2 ≠ [] → t.1 ∉ keys [] [])) (hna1 : b1.length = na1) (hqa1 : AOK na1 qa1) (hla1 : na1 ≤ ca1) (hda1 : DRO b1 ar1) (hTa1 : ∀ t, t ∈ rsg RI b1 ar1 → segOK w t ∧ (t.2.2 ≠ [] → t.1 ∉ keys [] [])) {res : Bool} (hm : m_laurelkit_EqRows_int a0 b1 = some res) :
    Calls Tryz.prog 39 #[.slice qa0 na0 ca0, .slice qa1 na1 ca1] w (fun en w' => ∃ l : Unit, en = .returned (.bool res) ∧ (True) ∧ HV w (keys [] []) [] [] [] w') := by
  unfold m_laurelkit_EqRows_int at hm
  refine g_en Tryz.func39 rfl Tryz.ntmps39 rfl (e := [(0, _), (1, _)]) rfl hw (g_sr (g_as rfl rfl (g_nx (g_mv rfl rfl (g_mv rfl rfl ?_)))))
  obtain ⟨t7, h1, hm⟩ := bindO hm
  refine g_callH [] [] rfl rfl rfl rfl rfl rfl rfl Tryz.call97 (fun w hh => c_slices_EqualFunc_intintintint a0 b1 qa0 na0 ca0 ar0 qa1 na1 ca1 ar1 w (HV.callee (S0 := []) (vs0 := []) hh (roR hh 0 rfl (roR hh 1 rfl roN))) hna0 hqa0 hla0 hda0 (hh.oldT (S0 := []) (vs0 := []) hTa0) hna1 hqa1 hla1 hda1 (hh.oldT (S0 := []) (vs0 := []) hTa1) h1) (fun l h2 => ?_)
  refine g_as rfl rfl (g_nt (g_ret ?_))
  obtain rfl := sj hm
  refine g_done rfl (fun w hh => (.tmp rfl .nil)) (fun w hh => ⟨(), rfl, trivial, hh.se [] [] 2 rfl rfl rfl rfl⟩)
end Go.Proofs.Ws

namespace Go.Proofs.Ws
set_option maxHeartbeats 4000000
set_option maxRecDepth 100000
open Go Go.Fw Go.Gx Go.Sp
set_option linter.unusedVariables false
def m_laurellaw09_StripChecks_L0 (shares3 : (List (List Int))) (s : Int) : Option (Int ⊕ (Unit ⊕ Bool)) :=
 if s < (shares3.length : Int) then
 ((ix shares3 s).bind fun t39 =>
 if 10 < (t39.length : Int) then
 ((m_laurellaw09_awake).bind fun t44 =>
 some (.inr (.inr t44))) else
 ((addc s 1).bind fun t45 =>
 some (.inl t45))) else
 (some (.inr (.inl ())))
structure m_laurellaw09_StripChecks_C2 where
  own11 : Scalps
  x12 : Scalps
  mine13 : (List (List Int))
def m_laurellaw09_StripChecks_Q0 : Plan := (.one 1 (.one 3 (.one 5 (.one 8 (.one 9 (.free 10 .done))))))
def m_laurellaw09_StripChecks_Q1 : Plan := (.one 3 (.one 5 (.one 8 (.one 9 (.free 10 .done)))))
def m_laurellaw09_StripChecks_Q2 : Plan := (.one 5 (.one 8 (.one 9 (.free 10 .done))))
def m_laurellaw09_StripChecks_Q3 : Plan := (.one 6 (.one 8 (.one 9 (.free 10 .done))))
def m_laurellaw09_StripChecks_Q4 : Plan := (.br (.alt 5 m_laurellaw09_StripChecks_Q3 (.alt 6 m_laurellaw09_StripChecks_Q2 .nil)))
def m_laurellaw09_StripChecks_Q5 : Plan := (.br (.alt 3 m_laurellaw09_StripChecks_Q4 (.alt 6 m_laurellaw09_StripChecks_Q1 .nil)))
def m_laurellaw09_StripChecks_Q6 : Plan := (.br (.alt 1 m_laurellaw09_StripChecks_Q5 (.alt 6 m_laurellaw09_StripChecks_Q0 .nil)))
def m_laurellaw09_StripChecks_Q7 : Plan := (.one 7 (.one 8 (.one 9 (.free 10 .done))))
def m_laurellaw09_StripChecks_Q8 : Plan := (.br (.alt 5 m_laurellaw09_StripChecks_Q7 (.alt 7 m_laurellaw09_StripChecks_Q2 .nil)))
def m_laurellaw09_StripChecks_Q9 : Plan := (.br (.alt 3 m_laurellaw09_StripChecks_Q8 (.alt 7 m_laurellaw09_StripChecks_Q1 .nil)))
def m_laurellaw09_StripChecks_Q10 : Plan := (.br (.alt 1 m_laurellaw09_StripChecks_Q9 (.alt 7 m_laurellaw09_StripChecks_Q0 .nil)))
def m_laurellaw09_StripChecks_Q11 : Plan := (.br (.alt 6 m_laurellaw09_StripChecks_Q7 (.alt 7 m_laurellaw09_StripChecks_Q3 .nil)))
def m_laurellaw09_StripChecks_Q12 : Plan := (.br (.alt 5 m_laurellaw09_StripChecks_Q11 (.alt 6 m_laurellaw09_StripChecks_Q8 (.alt 7 m_laurellaw09_StripChecks_Q4 .nil))))
def m_laurellaw09_StripChecks_Q13 : Plan := (.br (.alt 3 m_laurellaw09_StripChecks_Q12 (.alt 6 m_laurellaw09_StripChecks_Q9 (.alt 7 m_laurellaw09_StripChecks_Q5 .nil))))
structure m_laurellaw09_StripChecks_C3 where
  u15 : Int
  v16 : Int
  fits19 : Bool
  gone18_lo : Int
  gone18_hi : Int
  want17 : (List Int)
structure m_laurellaw09_StripChecks_C4 where
  u15 : Int
  want17 : (List Int)
structure m_laurellaw09_StripChecks_S1 where
  t78 : Int
  want17 : (List Int)
def m_laurellaw09_StripChecks_L1 (s0 : Scalps) (o_2 : m_laurellaw09_StripChecks_C2) (tenant1 : Int) (s_1 : m_laurellaw09_StripChecks_S1) : Option (m_laurellaw09_StripChecks_S1 ⊕ (List Int)) :=
 if s_1.t78 < (s0.strips.length : Int) then
 (((m_laurelref09_Reaches o_2.x12 tenant1 s_1.t78).bind fun t84 =>
 if t84 = true then
 ((appc 8 s_1.want17 [s_1.t78]).bind fun t88 =>
 some t88) else
 (some s_1.want17)).bind fun o_7 =>
 (addc s_1.t78 1).bind fun t89 =>
 some (.inl (⟨t89, o_7⟩ : m_laurellaw09_StripChecks_S1))) else
 (some (.inr s_1.want17))
def m_laurellaw09_StripChecks (s0 : Scalps) (tenant1 : Int) (which2 : Int) (shares3 : (List (List Int))) : Option Bool :=
 ((m_laurellaw09_great s0).bind fun t28 =>
 if t28 = true then
 (some true) else
 (some (decide (8 < (shares3.length : Int))))).bind fun o =>
 if o = true then
 ((m_laurellaw09_awake).bind fun t34 =>
 some t34) else
 ((iterM FU (m_laurellaw09_StripChecks_L0 shares3) 0).bind fun o_1 =>
 oc o_1 (fun j => ((m_laurellaw09_Own s0).bind fun t47 =>
 (m_laurellaw09_theirs s0).bind fun t49 =>
 (m_laurelkit_DupRows_int shares3).bind fun t51 =>
 some (⟨t47, t49, t51⟩ : m_laurellaw09_StripChecks_C2)).bind fun o_2 =>
 (m_laurelref09_Check o_2.x12).bind fun t53 =>
 (m_strip_Check o_2.own11).bind fun t55 =>
 if t55 = t53 then
 ((if t53 = 0 then
 ((m_laurelref09_Fits o_2.x12 shares3).bind fun t65 =>
 ((if 0 ≤ tenant1 then
 (some (decide (tenant1 < (s0.carried.length : Int)))) else
 (some false)).bind fun o_5 =>
 if o_5 = true then
 ((iterM FU (m_laurellaw09_StripChecks_L1 s0 o_2 tenant1) (⟨0, []⟩ : m_laurellaw09_StripChecks_S1)).bind fun o_6 =>
 some (⟨0, o_6⟩ : m_laurellaw09_StripChecks_C4)) else
 (some (⟨1, []⟩ : m_laurellaw09_StripChecks_C4))).bind fun o_4 =>
 (if 0 ≤ which2 then
 (some (decide (which2 < (s0.strips.length : Int)))) else
 (some false)).bind fun o_8 =>
 if o_8 = true then
 ((m_laurelref09_Gone o_2.x12 which2).bind fun t101 =>
 some (⟨o_4.u15, 0, t65, t101.lo, t101.hi, o_4.want17⟩ : m_laurellaw09_StripChecks_C3)) else
 (some (⟨o_4.u15, 1, t65, 0, 0, o_4.want17⟩ : m_laurellaw09_StripChecks_C3))) else
 (some (⟨t53, t53, false, 0, 0, []⟩ : m_laurellaw09_StripChecks_C3))).bind fun o_3 =>
 (m_strip_Reach o_2.own11 tenant1).bind fun t105 =>
 (m_strip_Gone o_2.own11 which2).bind fun t111 =>
 (m_strip_Fits o_2.own11 o_2.mine13).bind fun t117 =>
 (if t105.r1 = o_3.u15 then
 (if t111.r1 = o_3.v16 then
 (if t117.r1 = t53 then
 ((m_laurelkit_Eq_int t105.r0 o_3.want17).bind fun t136 =>
 if t136 = true then
 (if t111.r0 = (⟨o_3.gone18_lo, o_3.gone18_hi⟩ : Span) then
 (if (t117.r0 == o_3.fits19) = true then
 ((m_laurellaw09_same o_2.own11 s0).bind fun t151 =>
 if t151 = true then
 ((m_laurelkit_EqRows_int o_2.mine13 shares3).bind fun t156 =>
 if t156 = true then
 ((m_laurellaw09_awake).bind fun t159 =>
 some t159) else
 (some false)) else
 (some false)) else
 (some false)) else
 (some false)) else
 (some false)) else
 (some false)) else
 (some false)) else
 (some false)).bind fun o_9 =>
 some o_9) else
 (some false)) (fun r_2 => some r_2))
theorem c_laurellaw09_StripChecks (s0 : Scalps) (tenant1 : Int) (which2 : Int) (shares3 : (List (List Int))) (qa0 : Option Addr) (na0 ca0 : Nat) (qa1 : Option Addr) (na1 ca1 : Nat) (qa2 : Option Addr) (na2 ca2 : Nat) (ar2 : List AL) (w : World) (hw : HV w (keys [] []) [] [] [(aB qa0, aO qa0, RSt.enc s0.strips), (aB qa1, aO qa1, RSp.enc s0.carried), (aB qa2, aO qa2, RwA.enc ar2)] w) (hna0 : s0.strips.length = na0) (hqa0 : AOK na0 qa0) (hla0 : na0 ≤ ca0) (hna1 : s0.carried.length = na1) (hqa1 : AOK na1 qa1) (hla1 : na1 ≤ ca1) (hna2 : shares3.length = na2) (hqa2 : AOK na2 qa2) (hla2 : na2 ≤ ca2) (hda2 : DRO shares3 ar2) (hTa2 : ∀ t, t ∈ rsg RI shares3 ar2 → segOK w t ∧ (t.2.2 ≠ [] → t.1 ∉ keys [] [])) {res : Bool} (hm : m_laurellaw09_StripChecks s0 tenant1 which2 shares3 = some res) :
    Calls Tryz.prog 5 #[.agg #[.slice qa0 na0 ca0, .slice qa1 na1 ca1], .int .i64 tenant1, .int .i64 which2, .slice qa2 na2 ca2] w (fun en w' => ∃ l : Unit, en = .returned (.bool res) ∧ (True) ∧ HV w (keys [] []) [] [] [] w') := by
  unfold m_laurellaw09_StripChecks at hm
  refine g_en Tryz.func5 rfl Tryz.ntmps5 rfl (e := [(0, _), (1, _), (2, _), (3, _)]) rfl hw (g_sr ?_)
  refine g_boxV rfl rfl (fun b h1 => ?_)
  refine g_as rfl rfl (g_nt (g_seq (g_seq ?_)))
  obtain ⟨o, h2, h3⟩ := bindO hm
  refine g_cut (ι := Unit) (fun l => True) (fun l => [(1, .int .i64 tenant1), (2, .int .i64 which2), (3, .slice qa2 na2 ca2), (4, ptr b 0), (33, .bool o)]) (fun l => [(b, .cells #[.slice qa0 na0 ca0, .slice qa1 na1 ca1] 25 (0, 0))]) (fun l => []) ?_ ?_
  ·replace hm := h2
   refine g_region (g_la [_, _] 0 Tryz.isAgg25 Tryz.sizeOf25 rfl rfl rfl rfl ?_)
   obtain ⟨t28, h4, hm⟩ := bindO hm
   refine g_callH [] [] rfl rfl rfl rfl rfl rfl rfl Tryz.call30 (fun w hh => c_laurellaw09_great s0 qa0 na0 ca0 qa1 na1 ca1 w (HV.callee (S0 := []) (vs0 := []) hh (roR hh 0 rfl (roR hh 1 rfl roN))) hna0 hqa0 hla0 hna1 hqa1 hla1 h4) (fun l_1 h5 => ?_)
   refine g_mv rfl rfl ?_
   refine g_case 29 rfl (fun h6 => ?_) (fun h6 => ?_)
   ·replace hm := ifT (h6) hm
    refine g_k rfl rfl rfl rfl (g_k rfl rfl rfl rfl (g_k rfl rfl rfl rfl (g_pt rfl rfl rfl (g_nil ?_))))
    obtain rfl := sj hm
    exact g_leaf () (trivial) (sE rfl) (fun w hh => hh)
   ·replace hm := ifN h6 hm
    refine v_unguard rfl rfl (g_mv rfl rfl (v_unguard rfl rfl (g_val rfl rfl rfl (fun w _ => v_lenR hna2 (Tryz.runUnderlying70 w) rfl) (v_unguard rfl rfl (g_val rfl rfl rfl (fun _ _ => v_gtr rfl rfl) (g_pf rfl rfl rfl (g_nil ?_)))))))
    obtain rfl := sj hm
    exact g_leaf () (trivial) (sE rfl) (fun w hh => hh)
  ·intro l hj
   replace hm := h3
   refine g_n_then ?_
   refine g_cond rfl (fun h7 => ?_) (fun h7 => ?_)
   ·replace hm := ifT (h7) hm
    refine g_sr ?_
    obtain ⟨t34, h8, hm⟩ := bindO hm
    refine g_callH [] [] rfl rfl rfl rfl rfl rfl rfl Tryz.call8 (fun w hh => c_laurellaw09_awake  w (HV.callee (S0 := []) (vs0 := []) hh roN)  h8) (fun l_2 h9 => ?_)
    refine g_as rfl rfl (g_nt (g_ret (g_r_then ?_)))
    obtain rfl := sj hm
    refine g_done rfl (fun w hh => (.tmp rfl .nil)) (fun w hh => ⟨(), rfl, trivial, hh.se [] [] 3 rfl rfl rfl rfl⟩)
   ·replace hm := ifN h7 hm
    refine g_skip (g_n_then (g_seq (g_sr (g_mv rfl rfl (g_val rfl rfl rfl (fun w _ => v_lenR hna2 (Tryz.runUnderlying70 w) rfl) (g_mv rfl rfl (g_nt ?_)))))))
    obtain ⟨o_1, h10, h11⟩ := bindO hm
    refine g_cut (ι := Unit) (fun j => o_1 = .inl j) (fun j => [(1, .int .i64 tenant1), (2, .int .i64 which2), (3, .slice qa2 na2 ca2), (4, ptr b 0)]) (fun j => [(b, .cells #[.slice qa0 na0 ca0, .slice qa1 na1 ca1] 25 (0, 0))]) (fun j => []) ?_ ?_
    ·replace hm := h10
     refine g_block ?_
     refine g_loopF (ι := Unit) hm (fun s l_3 => True) (fun s l_3 => [(1, .int .i64 tenant1), (2, .int .i64 which2), (3, .slice qa2 na2 ca2), (4, ptr b 0), (35, .slice qa2 na2 ca2), (36, .int .i64 (shares3.length : Int)), (37, .int .i64 s)]) (fun s l_3 => [(b, .cells #[.slice qa0 na0 ca0, .slice qa1 na1 ca1] 25 (0, 0))]) (fun s l_3 => []) () (trivial) (sE rfl) (fun w hh => hh) (fun s l_3 r hpl hm h12 => ?_)
     unfold m_laurellaw09_StripChecks_L0 at hm
     refine g_sr (g_ls rfl rfl rfl (g_nt (g_seq ?_)))
     refine g_cond rfl (fun h13 => ?_) (fun h13 => ?_)
     ·replace hm := ifD h13 hm
      refine g_skip (g_n_then (g_seq (g_block (g_sr ?_))))
      obtain ⟨t39, h14, hm⟩ := bindO hm
      obtain ⟨A, h15, h16, h17, h18⟩ := (hda2).row h14
      refine g_val rfl rfl rfl (fun w _ => v_ixR h15 (Tryz.runUnderlying70 w) (Tryz.sizeOf26 w) rfl rfl (Eq.trans (hda2).len.symm hna2) hqa2) (g_val rfl rfl rfl (fun w hh => v_ldE RwA 0 h15 (Tryz.isAgg26 w) rfl (hh.seg 2 rfl) rfl (Nat.add_zero _).symm) (g_as rfl rfl (g_nx (g_mv rfl rfl (g_val rfl rfl rfl (fun w _ => v_lenR h16 (Tryz.runUnderlying26 w) rfl) (g_val rfl rfl rfl (fun _ _ => v_gtr rfl rfl) (g_nt ?_)))))))
      refine g_cond rfl (fun h19 => ?_) (fun h19 => ?_)
      ·replace hm := ifD h19 hm
       refine g_sr ?_
       obtain ⟨t44, h20, hm⟩ := bindO hm
       refine g_callH [] [] rfl rfl rfl rfl rfl rfl rfl Tryz.call8 (fun w hh => c_laurellaw09_awake  w (HV.callee (S0 := []) (vs0 := []) hh roN)  h20) (fun l_4 h21 => ?_)
       refine g_as rfl rfl (g_nt (g_ret (g_r_blk (g_r_then (g_r_then (g_r_blk ?_))))))
       obtain rfl := sj hm
       have hbo := h12 _ rfl
       subst hbo
       refine g_r_then ?_
       replace hm := ocR h11
       refine g_r_then ?_
       obtain rfl := sj hm
       refine g_done rfl (fun w hh => (.tmp rfl .nil)) (fun w hh => ⟨(), rfl, trivial, hh.se [] [] 3 rfl rfl rfl rfl⟩)
      ·replace hm := ifE h19 hm
       refine g_skip (g_n_blk (g_n_then (g_region ?_)))
       obtain ⟨t45, h22, hm⟩ := bindO hm
       refine g_ac h22 rfl rfl rfl (g_mv rfl rfl (g_nil ?_))
       obtain rfl := sj hm
       refine g_n_then ?_
       exact g_again' _ () rfl (trivial) (sE rfl) (fun w hh => hh)
     ·replace hm := ifE h13 hm
      refine g_exit (g_x_then (g_x_then (g_x_blk ?_)))
      obtain rfl := sj hm
      have hbo := h12 _ rfl
      subst hbo
      exact g_leaf () (rfl) (sE rfl) (fun w hh => hh)
    ·intro j hj
     have h23 := hj
     subst h23
     replace hm := ocL h11
     refine g_n_then (g_seq ?_)
     obtain ⟨o_2, h24, h25⟩ := bindO hm
     refine g_cut (ι := Nat × Nat × DL × VL × VL × VL × VL) (fun l_5 => VOK 1 l_5.2.2.1.v.n l_5.2.2.1.v.cap (RwH.enc l_5.2.2.1.rs) l_5.2.2.1.v.sp l_5.2.2.1.v.q ∧ DOK RI o_2.mine13 l_5.2.2.1.rs ∧ VOK 7 l_5.2.2.2.1.n l_5.2.2.2.1.cap (RSt.enc o_2.own11.strips) l_5.2.2.2.1.sp l_5.2.2.2.1.q ∧ VOK 2 l_5.2.2.2.2.1.n l_5.2.2.2.2.1.cap (RSp.enc o_2.own11.carried) l_5.2.2.2.2.1.sp l_5.2.2.2.2.1.q ∧ VOK 7 l_5.2.2.2.2.2.1.n l_5.2.2.2.2.2.1.cap (RSt.enc o_2.x12.strips) l_5.2.2.2.2.2.1.sp l_5.2.2.2.2.2.1.q ∧ VOK 2 l_5.2.2.2.2.2.2.n l_5.2.2.2.2.2.2.cap (RSp.enc o_2.x12.carried) l_5.2.2.2.2.2.2.sp l_5.2.2.2.2.2.2.q) (fun l_5 => [(1, .int .i64 tenant1), (2, .int .i64 which2), (3, .slice qa2 na2 ca2), (4, ptr b 0), (11, ptr l_5.1 0), (12, ptr l_5.2.1 0), (13, slv l_5.2.2.1.v.q l_5.2.2.1.v.n l_5.2.2.1.v.cap)]) (fun l_5 => [(b, .cells #[.slice qa0 na0 ca0, .slice qa1 na1 ca1] 25 (0, 0)), (l_5.1, .cells #[slv l_5.2.2.2.1.q l_5.2.2.2.1.n l_5.2.2.2.1.cap, slv l_5.2.2.2.2.1.q l_5.2.2.2.2.1.n l_5.2.2.2.2.1.cap] 25 (0, 0)), (l_5.2.1, .cells #[slv l_5.2.2.2.2.2.1.q l_5.2.2.2.2.2.1.n l_5.2.2.2.2.2.1.cap, slv l_5.2.2.2.2.2.2.q l_5.2.2.2.2.2.2.n l_5.2.2.2.2.2.2.cap] 38 (0, 0))]) (fun l_5 => [⟨26, RwH.enc l_5.2.2.1.rs, l_5.2.2.1.v.sp, l_5.2.2.1.v.q, dbl 3 RI o_2.mine13 l_5.2.2.1.rs⟩, ⟨85, RSt.enc o_2.own11.strips, l_5.2.2.2.1.sp, l_5.2.2.2.1.q, []⟩, ⟨32, RSp.enc o_2.own11.carried, l_5.2.2.2.2.1.sp, l_5.2.2.2.2.1.q, []⟩, ⟨98, RSt.enc o_2.x12.strips, l_5.2.2.2.2.2.1.sp, l_5.2.2.2.2.2.1.q, []⟩, ⟨32, RSp.enc o_2.x12.carried, l_5.2.2.2.2.2.2.sp, l_5.2.2.2.2.2.2.q, []⟩]) ?_ ?_
     ·replace hm := h24
      obtain ⟨t47, h32, hm⟩ := bindO hm
      obtain ⟨t49, h33, hm⟩ := bindO hm
      obtain ⟨t51, h34, hm⟩ := bindO hm
      refine g_draw none (.hoist 0 (.hoist 2 (.free 4 (.br (.alt 1 m_laurellaw09_StripChecks_Q13 (.alt 6 m_laurellaw09_StripChecks_Q10 (.alt 7 m_laurellaw09_StripChecks_Q6 .nil))))))) _ rfl (by decide +kernel) (fun w k hh => hh.draw k) (fun w hh => hh) ?_
      refine p_hoist rfl rfl rfl rfl (fun w hh => v_loadAgg (vs := [_, _]) (Tryz.isAgg25 w) (Tryz.sizeOf25 w) rfl (hh.cells 0 rfl rfl)) (p_hoist rfl rfl rfl rfl (fun w hh => v_loadAgg (vs := [_, _]) (Tryz.isAgg25 w) (Tryz.sizeOf25 w) rfl (hh.cells 0 rfl rfl)) (p_mv rfl rfl rfl ?_))
      refine p_share (.free 10 .done) (fun g => ∀ (b_1 : Nat) (b_2 : Nat) (L : DL) (L_1 : VL) (L_2 : VL) (L_3 : VL) (L_4 : VL), VOK 1 L.v.n L.v.cap (RwH.enc L.rs) L.v.sp L.v.q → DOK RI t51 L.rs → vk 7 L_1 (RSt.enc t47.strips) → vk 2 L_2 (RSp.enc t47.carried) → vk 7 L_3 (RSt.enc t49.strips) → vk 2 L_4 (RSp.enc t49.carried) → g [(1, .int .i64 tenant1), (2, .int .i64 which2), (3, .slice qa2 na2 ca2), (4, ptr b 0), (11, ptr b_1 0), (12, ptr b_2 0), (51, sL L.v)] [(b, .cells #[.slice qa0 na0 ca0, .slice qa1 na1 ca1] 25 (0, 0)), (b_1, .cells #[sL L_1, sL L_2] 25 (0, 0)), (b_2, .cells #[sL L_3, sL L_4] 38 (0, 0))] [⟨26, RwH.enc L.rs, L.v.sp, L.v.q, dbl 3 RI t51 L.rs⟩, vL 85 L_1 (RSt.enc t47.strips), vL 32 L_2 (RSp.enc t47.carried), vL 98 L_3 (RSt.enc t49.strips), vL 32 L_4 (RSp.enc t49.carried)]) ?_ (fun h41 => ?_)
      ·intro b_1 b_2 L L_1 L_2 L_3 L_4 h35 h36 h37 h38 h39 h40
       refine p_free rfl rfl rfl rfl (fun _ _ => v_assign rfl) (p_done ?_)
       obtain rfl := sj hm
       exact g_leaf (b_1, b_2, L, L_1, L_2, L_3, L_4) (⟨h35, h36, h37, h38, h39, h40⟩) (sE rfl) (fun w hh => hh)
      refine p_share (.one 9 (.free 10 .done)) (fun g => ∀ (b_3 : Nat) (b_4 : Nat) (L_5 : VL) (L_6 : VL) (L_7 : DL) (L_8 : VL) (L_9 : VL), vk 7 L_5 (RSt.enc t49.strips) → vk 2 L_6 (RSp.enc t49.carried) → VOK 1 L_7.v.n L_7.v.cap (RwH.enc L_7.rs) L_7.v.sp L_7.v.q → DOK RI t51 L_7.rs → vk 7 L_8 (RSt.enc t47.strips) → vk 2 L_9 (RSp.enc t47.carried) → g [(1, .int .i64 tenant1), (2, .int .i64 which2), (3, .slice qa2 na2 ca2), (4, ptr b 0), (11, ptr b_3 0), (12, ptr b_4 0), (49, .agg #[sL L_5, sL L_6]), (51, sL L_7.v)] [(b, .cells #[.slice qa0 na0 ca0, .slice qa1 na1 ca1] 25 (0, 0)), (b_3, .cells #[sL L_8, sL L_9] 25 (0, 0)), (b_4, .cells #[slv none 0 0, slv none 0 0] 38 (0, 0))] [vL 98 L_5 (RSt.enc t49.strips), vL 32 L_6 (RSp.enc t49.carried), ⟨26, RwH.enc L_7.rs, L_7.v.sp, L_7.v.q, dbl 3 RI t51 L_7.rs⟩, vL 85 L_8 (RSt.enc t47.strips), vL 32 L_9 (RSp.enc t47.carried)]) ?_ (fun h48 => ?_)
      ·intro b_3 b_4 L_5 L_6 L_7 L_8 L_9 h42 h43 h44 h45 h46 h47
       refine p_one rfl (g_stSA (us := #[_, _]) (cs' := [_, _]) (S' := [_, _, _]) 2 (fun w => Tryz.sizeOf38 w) rfl rfl rfl rfl rfl rfl rfl (p_next (hsE [0] [] 0 rfl rfl rfl rfl) ?_))
       exact p_shr (h41 b_3 b_4 L_7 L_8 L_9 L_5 L_6 h44 h45 h46 h47 h42 h43) (sE rfl) (hsE [0, 1, 2] [2, 3, 4, 0, 1] 0 rfl rfl rfl rfl)
      refine p_share (.one 8 (.one 9 (.free 10 .done))) (fun g => ∀ (b_5 : Nat) (b_6 : Nat) (L_10 : VL) (L_11 : VL) (L_12 : VL) (L_13 : VL) (L_14 : DL), vk 7 L_10 (RSt.enc t47.strips) → vk 2 L_11 (RSp.enc t47.carried) → vk 7 L_12 (RSt.enc t49.strips) → vk 2 L_13 (RSp.enc t49.carried) → VOK 1 L_14.v.n L_14.v.cap (RwH.enc L_14.rs) L_14.v.sp L_14.v.q → DOK RI t51 L_14.rs → g [(1, .int .i64 tenant1), (2, .int .i64 which2), (3, .slice qa2 na2 ca2), (4, ptr b 0), (11, ptr b_5 0), (12, ptr b_6 0), (47, .agg #[sL L_10, sL L_11]), (49, .agg #[sL L_12, sL L_13]), (51, sL L_14.v)] [(b, .cells #[.slice qa0 na0 ca0, .slice qa1 na1 ca1] 25 (0, 0)), (b_5, .cells #[slv none 0 0, slv none 0 0] 25 (0, 0)), (b_6, .cells #[slv none 0 0, slv none 0 0] 38 (0, 0))] [vL 85 L_10 (RSt.enc t47.strips), vL 32 L_11 (RSp.enc t47.carried), vL 98 L_12 (RSt.enc t49.strips), vL 32 L_13 (RSp.enc t49.carried), ⟨26, RwH.enc L_14.rs, L_14.v.sp, L_14.v.q, dbl 3 RI t51 L_14.rs⟩]) ?_ (fun h55 => ?_)
      ·intro b_5 b_6 L_10 L_11 L_12 L_13 L_14 h49 h50 h51 h52 h53 h54
       refine p_one rfl (g_stSA (us := #[_, _]) (cs' := [_, _]) (S' := [_, _, _]) 1 (fun w => Tryz.sizeOf25 w) rfl rfl rfl rfl rfl rfl rfl (p_next (hsE [0] [] 0 rfl rfl rfl rfl) ?_))
       exact p_shr (h48 b_5 b_6 L_12 L_13 L_14 L_10 L_11 h51 h52 h53 h54 h49 h50) (sE rfl) (hsE [0, 1, 2] [2, 3, 4, 0, 1] 0 rfl rfl rfl rfl)
      refine p_share m_laurellaw09_StripChecks_Q2 (fun g => ∀ (b_7 : Nat) (b_8 : Nat) (L_15 : VL) (L_16 : VL) (L_17 : VL) (L_18 : VL), vk 7 L_15 (RSt.enc t47.strips) → vk 2 L_16 (RSp.enc t47.carried) → vk 7 L_17 (RSt.enc t49.strips) → vk 2 L_18 (RSp.enc t49.carried) → g [(1, .int .i64 tenant1), (2, .int .i64 which2), (3, .slice qa2 na2 ca2), (4, ptr b 0), (11, ptr b_7 0), (12, ptr b_8 0), (47, .agg #[sL L_15, sL L_16]), (49, .agg #[sL L_17, sL L_18]), (50, .slice qa2 na2 ca2)] [(b, .cells #[.slice qa0 na0 ca0, .slice qa1 na1 ca1] 25 (0, 0)), (b_7, .cells #[slv none 0 0, slv none 0 0] 25 (0, 0)), (b_8, .cells #[slv none 0 0, slv none 0 0] 38 (0, 0))] [vL 85 L_15 (RSt.enc t47.strips), vL 32 L_16 (RSp.enc t47.carried), vL 98 L_17 (RSt.enc t49.strips), vL 32 L_18 (RSp.enc t49.carried)]) ?_ (fun h60 => ?_)
      ·intro b_7 b_8 L_15 L_16 L_17 L_18 h56 h57 h58 h59
       refine p_one rfl ?_
       refine g_callH [] [] rfl rfl rfl rfl rfl rfl rfl Tryz.call31 (fun w hh => c_laurelkit_DupRows_int shares3 qa2 na2 ca2 ar2 w (HV.callee (S0 := []) (vs0 := []) hh (roR hh 2 rfl roN)) hna2 hqa2 hla2 hda2 (hh.oldT (S0 := []) (vs0 := []) hTa2) h34) (fun l_6 h61 => ?_)
       obtain ⟨h62, h63⟩ := h61
       refine g_se (S' := [_, _, _]) (vs' := [_, _, _, _, _]) [0, 1, 2] [0, 1, 2, 3, 4] 0 rfl rfl rfl rfl (p_next (hsE [0] [] 0 rfl rfl rfl rfl) ?_)
       exact p_shr (h55 b_7 b_8 L_15 L_16 L_17 L_18 l_6 h56 h57 h58 h59 h62 h63) (sE rfl) (hsE [0, 1, 2] [1, 2, 3, 4, 0] 0 rfl rfl rfl rfl)
      refine p_share m_laurellaw09_StripChecks_Q3 (fun g => ∀ (b_9 : Nat) (L_19 : VL) (L_20 : VL) (L_21 : VL) (L_22 : VL) (L_23 : DL), vk 7 L_19 (RSt.enc t47.strips) → vk 2 L_20 (RSp.enc t47.carried) → vk 7 L_21 (RSt.enc t49.strips) → vk 2 L_22 (RSp.enc t49.carried) → VOK 1 L_23.v.n L_23.v.cap (RwH.enc L_23.rs) L_23.v.sp L_23.v.q → DOK RI t51 L_23.rs → g [(1, .int .i64 tenant1), (2, .int .i64 which2), (3, .slice qa2 na2 ca2), (4, ptr b 0), (12, ptr b_9 0), (47, .agg #[sL L_19, sL L_20]), (49, .agg #[sL L_21, sL L_22]), (51, sL L_23.v)] [(b, .cells #[.slice qa0 na0 ca0, .slice qa1 na1 ca1] 25 (0, 0)), (b_9, .cells #[slv none 0 0, slv none 0 0] 38 (0, 0))] [vL 85 L_19 (RSt.enc t47.strips), vL 32 L_20 (RSp.enc t47.carried), vL 98 L_21 (RSt.enc t49.strips), vL 32 L_22 (RSp.enc t49.carried), ⟨26, RwH.enc L_23.rs, L_23.v.sp, L_23.v.q, dbl 3 RI t51 L_23.rs⟩]) ?_ (fun h70 => ?_)
      ·intro b_9 L_19 L_20 L_21 L_22 L_23 h64 h65 h66 h67 h68 h69
       refine p_one rfl ?_
       refine g_allocV (fun w => Tryz.zeroValue25 w) rfl (fun b_10 h71 => ?_)
       refine p_next (hsE [1] [] 0 rfl rfl rfl rfl) ?_
       exact p_shr (h55 b_10 b_9 L_19 L_20 L_21 L_22 L_23 h64 h65 h66 h67 h68 h69) (sE rfl) (hsE [1, 0, 2] [0, 1, 2, 3, 4] 0 rfl rfl rfl rfl)
      refine p_share m_laurellaw09_StripChecks_Q7 (fun g => ∀ (b_11 : Nat) (L_24 : VL) (L_25 : VL) (L_26 : VL) (L_27 : VL) (L_28 : DL), vk 7 L_24 (RSt.enc t47.strips) → vk 2 L_25 (RSp.enc t47.carried) → vk 7 L_26 (RSt.enc t49.strips) → vk 2 L_27 (RSp.enc t49.carried) → VOK 1 L_28.v.n L_28.v.cap (RwH.enc L_28.rs) L_28.v.sp L_28.v.q → DOK RI t51 L_28.rs → g [(1, .int .i64 tenant1), (2, .int .i64 which2), (3, .slice qa2 na2 ca2), (4, ptr b 0), (11, ptr b_11 0), (47, .agg #[sL L_24, sL L_25]), (49, .agg #[sL L_26, sL L_27]), (51, sL L_28.v)] [(b, .cells #[.slice qa0 na0 ca0, .slice qa1 na1 ca1] 25 (0, 0)), (b_11, .cells #[slv none 0 0, slv none 0 0] 25 (0, 0))] [vL 85 L_24 (RSt.enc t47.strips), vL 32 L_25 (RSp.enc t47.carried), vL 98 L_26 (RSt.enc t49.strips), vL 32 L_27 (RSp.enc t49.carried), ⟨26, RwH.enc L_28.rs, L_28.v.sp, L_28.v.q, dbl 3 RI t51 L_28.rs⟩]) ?_ (fun h78 => ?_)
      ·intro b_11 L_24 L_25 L_26 L_27 L_28 h72 h73 h74 h75 h76 h77
       refine p_one rfl ?_
       refine g_allocV (fun w => Tryz.zeroValue38 w) rfl (fun b_12 h79 => ?_)
       refine p_next (hsE [1] [] 0 rfl rfl rfl rfl) ?_
       exact p_shr (h55 b_11 b_12 L_24 L_25 L_26 L_27 L_28 h72 h73 h74 h75 h76 h77) (sE rfl) (hsE [1, 2, 0] [0, 1, 2, 3, 4] 0 rfl rfl rfl rfl)
      refine p_share m_laurellaw09_StripChecks_Q1 (fun g => ∀ (b_13 : Nat) (b_14 : Nat) (L_29 : VL) (L_30 : VL), vk 7 L_29 (RSt.enc t47.strips) → vk 2 L_30 (RSp.enc t47.carried) → g [(1, .int .i64 tenant1), (2, .int .i64 which2), (3, .slice qa2 na2 ca2), (4, ptr b 0), (11, ptr b_13 0), (12, ptr b_14 0), (47, .agg #[sL L_29, sL L_30]), (48, .agg #[.slice qa0 na0 ca0, .slice qa1 na1 ca1]), (50, .slice qa2 na2 ca2)] [(b, .cells #[.slice qa0 na0 ca0, .slice qa1 na1 ca1] 25 (0, 0)), (b_13, .cells #[slv none 0 0, slv none 0 0] 25 (0, 0)), (b_14, .cells #[slv none 0 0, slv none 0 0] 38 (0, 0))] [vL 85 L_29 (RSt.enc t47.strips), vL 32 L_30 (RSp.enc t47.carried)]) ?_ (fun h82 => ?_)
      ·intro b_13 b_14 L_29 L_30 h80 h81
       refine p_one rfl ?_
       refine g_callH [] [] rfl rfl rfl rfl rfl rfl rfl Tryz.call10 (fun w hh => c_laurellaw09_theirs s0 qa0 na0 ca0 qa1 na1 ca1 w (HV.callee (S0 := []) (vs0 := []) hh (roR hh 0 rfl (roR hh 1 rfl roN))) hna0 hqa0 hla0 hna1 hqa1 hla1 h33) (fun l_7 h83 => ?_)
       obtain ⟨h84, h85⟩ := h83
       refine g_se (S' := [_, _, _]) (vs' := [_, _, _, _]) [0, 1, 2] [0, 1, 2, 3] 0 rfl rfl rfl rfl (p_next (hsE [0] [] 0 rfl rfl rfl rfl) ?_)
       exact p_shr (h60 b_13 b_14 L_29 L_30 l_7.1 l_7.2 h80 h81 h84 h85) (sE rfl) (hsE [0, 1, 2] [2, 3, 0, 1] 0 rfl rfl rfl rfl)
      refine p_share m_laurellaw09_StripChecks_Q4 (fun g => ∀ (b_15 : Nat) (L_31 : VL) (L_32 : VL) (L_33 : VL) (L_34 : VL), vk 7 L_31 (RSt.enc t47.strips) → vk 2 L_32 (RSp.enc t47.carried) → vk 7 L_33 (RSt.enc t49.strips) → vk 2 L_34 (RSp.enc t49.carried) → g [(1, .int .i64 tenant1), (2, .int .i64 which2), (3, .slice qa2 na2 ca2), (4, ptr b 0), (12, ptr b_15 0), (47, .agg #[sL L_31, sL L_32]), (49, .agg #[sL L_33, sL L_34]), (50, .slice qa2 na2 ca2)] [(b, .cells #[.slice qa0 na0 ca0, .slice qa1 na1 ca1] 25 (0, 0)), (b_15, .cells #[slv none 0 0, slv none 0 0] 38 (0, 0))] [vL 85 L_31 (RSt.enc t47.strips), vL 32 L_32 (RSp.enc t47.carried), vL 98 L_33 (RSt.enc t49.strips), vL 32 L_34 (RSp.enc t49.carried)]) ?_ (fun h90 => ?_)
      ·intro b_15 L_31 L_32 L_33 L_34 h86 h87 h88 h89
       refine p_br ?_
       refine p_alt rfl ?_ ?_
       ·refine g_callH [] [] rfl rfl rfl rfl rfl rfl rfl Tryz.call31 (fun w hh => c_laurelkit_DupRows_int shares3 qa2 na2 ca2 ar2 w (HV.callee (S0 := []) (vs0 := []) hh (roR hh 2 rfl roN)) hna2 hqa2 hla2 hda2 (hh.oldT (S0 := []) (vs0 := []) hTa2) h34) (fun l_8 h91 => ?_)
        obtain ⟨h92, h93⟩ := h91
        refine g_se (S' := [_, _]) (vs' := [_, _, _, _, _]) [0, 1] [0, 1, 2, 3, 4] 0 rfl rfl rfl rfl (p_next (hsE [0] [] 0 rfl rfl rfl rfl) ?_)
        exact p_shr (h70 b_15 L_31 L_32 L_33 L_34 l_8 h86 h87 h88 h89 h92 h93) (sE rfl) (hsE [0, 1] [1, 2, 3, 4, 0] 0 rfl rfl rfl rfl)
       refine p_alt rfl ?_ ?_
       ·refine g_allocV (fun w => Tryz.zeroValue25 w) rfl (fun b_16 h94 => ?_)
        refine p_next (hsE [1] [] 0 rfl rfl rfl rfl) ?_
        exact p_shr (h60 b_16 b_15 L_31 L_32 L_33 L_34 h86 h87 h88 h89) (sE rfl) (hsE [1, 0, 2] [0, 1, 2, 3] 0 rfl rfl rfl rfl)
       exact p_nil
      refine p_share m_laurellaw09_StripChecks_Q8 (fun g => ∀ (b_17 : Nat) (L_35 : VL) (L_36 : VL) (L_37 : VL) (L_38 : VL), vk 7 L_35 (RSt.enc t47.strips) → vk 2 L_36 (RSp.enc t47.carried) → vk 7 L_37 (RSt.enc t49.strips) → vk 2 L_38 (RSp.enc t49.carried) → g [(1, .int .i64 tenant1), (2, .int .i64 which2), (3, .slice qa2 na2 ca2), (4, ptr b 0), (11, ptr b_17 0), (47, .agg #[sL L_35, sL L_36]), (49, .agg #[sL L_37, sL L_38]), (50, .slice qa2 na2 ca2)] [(b, .cells #[.slice qa0 na0 ca0, .slice qa1 na1 ca1] 25 (0, 0)), (b_17, .cells #[slv none 0 0, slv none 0 0] 25 (0, 0))] [vL 85 L_35 (RSt.enc t47.strips), vL 32 L_36 (RSp.enc t47.carried), vL 98 L_37 (RSt.enc t49.strips), vL 32 L_38 (RSp.enc t49.carried)]) ?_ (fun h99 => ?_)
      ·intro b_17 L_35 L_36 L_37 L_38 h95 h96 h97 h98
       refine p_br ?_
       refine p_alt rfl ?_ ?_
       ·refine g_callH [] [] rfl rfl rfl rfl rfl rfl rfl Tryz.call31 (fun w hh => c_laurelkit_DupRows_int shares3 qa2 na2 ca2 ar2 w (HV.callee (S0 := []) (vs0 := []) hh (roR hh 2 rfl roN)) hna2 hqa2 hla2 hda2 (hh.oldT (S0 := []) (vs0 := []) hTa2) h34) (fun l_9 h100 => ?_)
        obtain ⟨h101, h102⟩ := h100
        refine g_se (S' := [_, _]) (vs' := [_, _, _, _, _]) [0, 1] [0, 1, 2, 3, 4] 0 rfl rfl rfl rfl (p_next (hsE [0] [] 0 rfl rfl rfl rfl) ?_)
        exact p_shr (h78 b_17 L_35 L_36 L_37 L_38 l_9 h95 h96 h97 h98 h101 h102) (sE rfl) (hsE [0, 1] [1, 2, 3, 4, 0] 0 rfl rfl rfl rfl)
       refine p_alt rfl ?_ ?_
       ·refine g_allocV (fun w => Tryz.zeroValue38 w) rfl (fun b_18 h103 => ?_)
        refine p_next (hsE [1] [] 0 rfl rfl rfl rfl) ?_
        exact p_shr (h60 b_17 b_18 L_35 L_36 L_37 L_38 h95 h96 h97 h98) (sE rfl) (hsE [1, 2, 0] [0, 1, 2, 3] 0 rfl rfl rfl rfl)
       exact p_nil
      refine p_share m_laurellaw09_StripChecks_Q0 (fun g => ∀ (b_19 : Nat) (b_20 : Nat), g [(1, .int .i64 tenant1), (2, .int .i64 which2), (3, .slice qa2 na2 ca2), (4, ptr b 0), (11, ptr b_19 0), (12, ptr b_20 0), (46, .agg #[.slice qa0 na0 ca0, .slice qa1 na1 ca1]), (48, .agg #[.slice qa0 na0 ca0, .slice qa1 na1 ca1]), (50, .slice qa2 na2 ca2)] [(b, .cells #[.slice qa0 na0 ca0, .slice qa1 na1 ca1] 25 (0, 0)), (b_19, .cells #[slv none 0 0, slv none 0 0] 25 (0, 0)), (b_20, .cells #[slv none 0 0, slv none 0 0] 38 (0, 0))] []) ?_ (fun h104 => ?_)
      ·intro b_19 b_20
       refine p_one rfl ?_
       refine g_callH [] [] rfl rfl rfl rfl rfl rfl rfl Tryz.call9 (fun w hh => c_laurellaw09_Own s0 qa0 na0 ca0 qa1 na1 ca1 w (HV.callee (S0 := []) (vs0 := []) hh (roR hh 0 rfl (roR hh 1 rfl roN))) hna0 hqa0 hla0 hna1 hqa1 hla1 h32) (fun l_10 h105 => ?_)
       obtain ⟨h106, h107⟩ := h105
       refine g_se (S' := [_, _, _]) (vs' := [_, _]) [0, 1, 2] [0, 1] 0 rfl rfl rfl rfl (p_next (hsE [0] [] 0 rfl rfl rfl rfl) ?_)
       exact p_shr (h82 b_19 b_20 l_10.1 l_10.2 h106 h107) (sE rfl) (fun w hh => hh)
      refine p_share m_laurellaw09_StripChecks_Q5 (fun g => ∀ (b_21 : Nat) (L_39 : VL) (L_40 : VL), vk 7 L_39 (RSt.enc t47.strips) → vk 2 L_40 (RSp.enc t47.carried) → g [(1, .int .i64 tenant1), (2, .int .i64 which2), (3, .slice qa2 na2 ca2), (4, ptr b 0), (12, ptr b_21 0), (47, .agg #[sL L_39, sL L_40]), (48, .agg #[.slice qa0 na0 ca0, .slice qa1 na1 ca1]), (50, .slice qa2 na2 ca2)] [(b, .cells #[.slice qa0 na0 ca0, .slice qa1 na1 ca1] 25 (0, 0)), (b_21, .cells #[slv none 0 0, slv none 0 0] 38 (0, 0))] [vL 85 L_39 (RSt.enc t47.strips), vL 32 L_40 (RSp.enc t47.carried)]) ?_ (fun h110 => ?_)
      ·intro b_21 L_39 L_40 h108 h109
       refine p_br ?_
       refine p_alt rfl ?_ ?_
       ·refine g_callH [] [] rfl rfl rfl rfl rfl rfl rfl Tryz.call10 (fun w hh => c_laurellaw09_theirs s0 qa0 na0 ca0 qa1 na1 ca1 w (HV.callee (S0 := []) (vs0 := []) hh (roR hh 0 rfl (roR hh 1 rfl roN))) hna0 hqa0 hla0 hna1 hqa1 hla1 h33) (fun l_11 h111 => ?_)
        obtain ⟨h112, h113⟩ := h111
        refine g_se (S' := [_, _]) (vs' := [_, _, _, _]) [0, 1] [0, 1, 2, 3] 0 rfl rfl rfl rfl (p_next (hsE [0] [] 0 rfl rfl rfl rfl) ?_)
        exact p_shr (h90 b_21 L_39 L_40 l_11.1 l_11.2 h108 h109 h112 h113) (sE rfl) (hsE [0, 1] [2, 3, 0, 1] 0 rfl rfl rfl rfl)
       refine p_alt rfl ?_ ?_
       ·refine g_allocV (fun w => Tryz.zeroValue25 w) rfl (fun b_22 h114 => ?_)
        refine p_next (hsE [1] [] 0 rfl rfl rfl rfl) ?_
        exact p_shr (h82 b_22 b_21 L_39 L_40 h108 h109) (sE rfl) (hsE [1, 0, 2] [0, 1] 0 rfl rfl rfl rfl)
       exact p_nil
      refine p_share m_laurellaw09_StripChecks_Q9 (fun g => ∀ (b_23 : Nat) (L_41 : VL) (L_42 : VL), vk 7 L_41 (RSt.enc t47.strips) → vk 2 L_42 (RSp.enc t47.carried) → g [(1, .int .i64 tenant1), (2, .int .i64 which2), (3, .slice qa2 na2 ca2), (4, ptr b 0), (11, ptr b_23 0), (47, .agg #[sL L_41, sL L_42]), (48, .agg #[.slice qa0 na0 ca0, .slice qa1 na1 ca1]), (50, .slice qa2 na2 ca2)] [(b, .cells #[.slice qa0 na0 ca0, .slice qa1 na1 ca1] 25 (0, 0)), (b_23, .cells #[slv none 0 0, slv none 0 0] 25 (0, 0))] [vL 85 L_41 (RSt.enc t47.strips), vL 32 L_42 (RSp.enc t47.carried)]) ?_ (fun h117 => ?_)
      ·intro b_23 L_41 L_42 h115 h116
       refine p_br ?_
       refine p_alt rfl ?_ ?_
       ·refine g_callH [] [] rfl rfl rfl rfl rfl rfl rfl Tryz.call10 (fun w hh => c_laurellaw09_theirs s0 qa0 na0 ca0 qa1 na1 ca1 w (HV.callee (S0 := []) (vs0 := []) hh (roR hh 0 rfl (roR hh 1 rfl roN))) hna0 hqa0 hla0 hna1 hqa1 hla1 h33) (fun l_12 h118 => ?_)
        obtain ⟨h119, h120⟩ := h118
        refine g_se (S' := [_, _]) (vs' := [_, _, _, _]) [0, 1] [0, 1, 2, 3] 0 rfl rfl rfl rfl (p_next (hsE [0] [] 0 rfl rfl rfl rfl) ?_)
        exact p_shr (h99 b_23 L_41 L_42 l_12.1 l_12.2 h115 h116 h119 h120) (sE rfl) (hsE [0, 1] [2, 3, 0, 1] 0 rfl rfl rfl rfl)
       refine p_alt rfl ?_ ?_
       ·refine g_allocV (fun w => Tryz.zeroValue38 w) rfl (fun b_24 h121 => ?_)
        refine p_next (hsE [1] [] 0 rfl rfl rfl rfl) ?_
        exact p_shr (h82 b_23 b_24 L_41 L_42 h115 h116) (sE rfl) (hsE [1, 2, 0] [0, 1] 0 rfl rfl rfl rfl)
       exact p_nil
      refine p_br ?_
      refine p_alt rfl ?_ ?_
      ·refine g_callH [] [] rfl rfl rfl rfl rfl rfl rfl Tryz.call9 (fun w hh => c_laurellaw09_Own s0 qa0 na0 ca0 qa1 na1 ca1 w (HV.callee (S0 := []) (vs0 := []) hh (roR hh 0 rfl (roR hh 1 rfl roN))) hna0 hqa0 hla0 hna1 hqa1 hla1 h32) (fun l_13 h122 => ?_)
       obtain ⟨h123, h124⟩ := h122
       refine g_se (S' := [_]) (vs' := [_, _]) [0] [0, 1] 0 rfl rfl rfl rfl (p_next (hsE [0] [] 0 rfl rfl rfl rfl) (p_br ?_))
       refine p_alt rfl ?_ ?_
       ·refine g_callH [] [] rfl rfl rfl rfl rfl rfl rfl Tryz.call10 (fun w hh => c_laurellaw09_theirs s0 qa0 na0 ca0 qa1 na1 ca1 w (HV.callee (S0 := []) (vs0 := []) hh (roR hh 0 rfl (roR hh 1 rfl roN))) hna0 hqa0 hla0 hna1 hqa1 hla1 h33) (fun l_14 h125 => ?_)
        obtain ⟨h126, h127⟩ := h125
        refine g_se (S' := [_]) (vs' := [_, _, _, _]) [0] [0, 1, 2, 3] 0 rfl rfl rfl rfl (p_next (hsE [0] [] 0 rfl rfl rfl rfl) (p_br ?_))
        refine p_alt rfl ?_ ?_
        ·refine g_callH [] [] rfl rfl rfl rfl rfl rfl rfl Tryz.call31 (fun w hh => c_laurelkit_DupRows_int shares3 qa2 na2 ca2 ar2 w (HV.callee (S0 := []) (vs0 := []) hh (roR hh 2 rfl roN)) hna2 hqa2 hla2 hda2 (hh.oldT (S0 := []) (vs0 := []) hTa2) h34) (fun l_15 h128 => ?_)
         obtain ⟨h129, h130⟩ := h128
         refine g_se (S' := [_]) (vs' := [_, _, _, _, _]) [0] [0, 1, 2, 3, 4] 0 rfl rfl rfl rfl (p_next (hsE [0] [] 0 rfl rfl rfl rfl) (p_br ?_))
         refine p_alt rfl ?_ ?_
         ·refine g_allocV (fun w => Tryz.zeroValue25 w) rfl (fun b_25 h131 => ?_)
          refine p_next (hsE [1] [] 0 rfl rfl rfl rfl) ?_
          exact p_shr (h78 b_25 l_13.1 l_13.2 l_14.1 l_14.2 l_15 h123 h124 h126 h127 h129 h130) (sE rfl) (hsE [1, 0] [3, 4, 1, 2, 0] 0 rfl rfl rfl rfl)
         refine p_alt rfl ?_ ?_
         ·refine g_allocV (fun w => Tryz.zeroValue38 w) rfl (fun b_26 h132 => ?_)
          refine p_next (hsE [1] [] 0 rfl rfl rfl rfl) ?_
          exact p_shr (h70 b_26 l_13.1 l_13.2 l_14.1 l_14.2 l_15 h123 h124 h126 h127 h129 h130) (sE rfl) (hsE [1, 0] [3, 4, 1, 2, 0] 0 rfl rfl rfl rfl)
         exact p_nil
        refine p_alt rfl ?_ ?_
        ·refine g_allocV (fun w => Tryz.zeroValue25 w) rfl (fun b_27 h133 => ?_)
         refine p_next (hsE [1] [] 0 rfl rfl rfl rfl) ?_
         exact p_shr (h99 b_27 l_13.1 l_13.2 l_14.1 l_14.2 h123 h124 h126 h127) (sE rfl) (hsE [1, 0] [2, 3, 0, 1] 0 rfl rfl rfl rfl)
        refine p_alt rfl ?_ ?_
        ·refine g_allocV (fun w => Tryz.zeroValue38 w) rfl (fun b_28 h134 => ?_)
         refine p_next (hsE [1] [] 0 rfl rfl rfl rfl) ?_
         exact p_shr (h90 b_28 l_13.1 l_13.2 l_14.1 l_14.2 h123 h124 h126 h127) (sE rfl) (hsE [1, 0] [2, 3, 0, 1] 0 rfl rfl rfl rfl)
        exact p_nil
       refine p_alt rfl ?_ ?_
       ·refine g_allocV (fun w => Tryz.zeroValue25 w) rfl (fun b_29 h135 => ?_)
        refine p_next (hsE [1] [] 0 rfl rfl rfl rfl) ?_
        exact p_shr (h117 b_29 l_13.1 l_13.2 h123 h124) (sE rfl) (hsE [1, 0] [0, 1] 0 rfl rfl rfl rfl)
       refine p_alt rfl ?_ ?_
       ·refine g_allocV (fun w => Tryz.zeroValue38 w) rfl (fun b_30 h136 => ?_)
        refine p_next (hsE [1] [] 0 rfl rfl rfl rfl) ?_
        exact p_shr (h110 b_30 l_13.1 l_13.2 h123 h124) (sE rfl) (hsE [1, 0] [0, 1] 0 rfl rfl rfl rfl)
       exact p_nil
      refine p_alt rfl ?_ ?_
      ·refine g_allocV (fun w => Tryz.zeroValue25 w) rfl (fun b_31 h137 => ?_)
       refine p_next (hsE [1] [] 0 rfl rfl rfl rfl) (p_br ?_)
       refine p_alt rfl ?_ ?_
       ·refine g_callH [] [] rfl rfl rfl rfl rfl rfl rfl Tryz.call9 (fun w hh => c_laurellaw09_Own s0 qa0 na0 ca0 qa1 na1 ca1 w (HV.callee (S0 := []) (vs0 := []) hh (roR hh 0 rfl (roR hh 1 rfl roN))) hna0 hqa0 hla0 hna1 hqa1 hla1 h32) (fun l_16 h138 => ?_)
        obtain ⟨h139, h140⟩ := h138
        refine g_se (S' := [_, _]) (vs' := [_, _]) [0, 1] [0, 1] 0 rfl rfl rfl rfl (p_next (hsE [1] [] 0 rfl rfl rfl rfl) ?_)
        exact p_shr (h117 b_31 l_16.1 l_16.2 h139 h140) (sE rfl) (hsE [1, 0] [0, 1] 0 rfl rfl rfl rfl)
       refine p_alt rfl ?_ ?_
       ·refine g_allocV (fun w => Tryz.zeroValue38 w) rfl (fun b_32 h141 => ?_)
        refine p_next (hsE [2] [] 0 rfl rfl rfl rfl) ?_
        exact p_shr (h104 b_31 b_32) (sE rfl) (hsE [2, 1, 0] [] 0 rfl rfl rfl rfl)
       exact p_nil
      refine p_alt rfl ?_ ?_
      ·refine g_allocV (fun w => Tryz.zeroValue38 w) rfl (fun b_33 h142 => ?_)
       refine p_next (hsE [1] [] 0 rfl rfl rfl rfl) (p_br ?_)
       refine p_alt rfl ?_ ?_
       ·refine g_callH [] [] rfl rfl rfl rfl rfl rfl rfl Tryz.call9 (fun w hh => c_laurellaw09_Own s0 qa0 na0 ca0 qa1 na1 ca1 w (HV.callee (S0 := []) (vs0 := []) hh (roR hh 0 rfl (roR hh 1 rfl roN))) hna0 hqa0 hla0 hna1 hqa1 hla1 h32) (fun l_17 h143 => ?_)
        obtain ⟨h144, h145⟩ := h143
        refine g_se (S' := [_, _]) (vs' := [_, _]) [0, 1] [0, 1] 0 rfl rfl rfl rfl (p_next (hsE [1] [] 0 rfl rfl rfl rfl) ?_)
        exact p_shr (h110 b_33 l_17.1 l_17.2 h144 h145) (sE rfl) (hsE [1, 0] [0, 1] 0 rfl rfl rfl rfl)
       refine p_alt rfl ?_ ?_
       ·refine g_allocV (fun w => Tryz.zeroValue25 w) rfl (fun b_34 h146 => ?_)
        refine p_next (hsE [2] [] 0 rfl rfl rfl rfl) ?_
        exact p_shr (h104 b_34 b_33) (sE rfl) (hsE [2, 0, 1] [] 0 rfl rfl rfl rfl)
       exact p_nil
      exact p_nil
     ·intro l_5 hj
      obtain ⟨h26, h27, h28, h29, h30, h31⟩ := hj
      replace hm := h25
      refine g_n_then (g_sr (g_la [_, _] 2 Tryz.isAgg38 Tryz.sizeOf38 rfl rfl rfl rfl ?_))
      obtain ⟨t53, h147, hm⟩ := bindO hm
      refine g_callH [] [] rfl rfl rfl rfl rfl rfl rfl Tryz.call12 (fun w hh => c_laurelref09_Check o_2.x12 (qA l_5.2.2.2.2.2.1.q) l_5.2.2.2.2.2.1.n l_5.2.2.2.2.2.1.cap (qA l_5.2.2.2.2.2.2.q) l_5.2.2.2.2.2.2.n l_5.2.2.2.2.2.2.cap w (HV.callee (S0 := []) (vs0 := []) hh (roC (hh.vsepA 3 rfl h30) (roC (hh.vsepA 4 rfl h31) roN))) (vlen RSt h30 rfl) (AOK.q (vne h30)) (h30).hle (vlen RSp h31 rfl) (AOK.q (vne h31)) (h31).hle h147) (fun l_18 h148 => ?_)
      refine g_as rfl rfl (g_nt (g_seq (g_sr (g_la [_, _] 1 Tryz.isAgg25 Tryz.sizeOf25 rfl rfl rfl rfl ?_))))
      obtain ⟨t55, h149, hm⟩ := bindO hm
      refine g_callH [] [] rfl rfl rfl rfl rfl rfl rfl Tryz.call32 (fun w hh => c_strip_Check o_2.own11 (qA l_5.2.2.2.1.q) l_5.2.2.2.1.n l_5.2.2.2.1.cap (qA l_5.2.2.2.2.1.q) l_5.2.2.2.2.1.n l_5.2.2.2.2.1.cap w (HV.callee (S0 := []) (vs0 := []) hh (roC (hh.vsepA 1 rfl h28) (roC (hh.vsepA 2 rfl h29) roN))) (vlen RSt h28 rfl) (AOK.q (vne h28)) (h28).hle (vlen RSp h29 rfl) (AOK.q (vne h29)) (h29).hle h149) (fun l_19 h150 => ?_)
      refine g_mv rfl rfl (g_val rfl rfl rfl (fun _ _ => v_neq rfl rfl) (g_nt ?_))
      refine g_cond rfl (fun h151 => ?_) (fun h151 => ?_)
      ·replace hm := ifF (of_ndec_true h151) hm
       refine g_sr (g_as rfl rfl (g_nt (g_ret (g_r_then ?_))))
       obtain rfl := sj hm
       refine g_done rfl (fun w hh => (.tmp rfl .nil)) (fun w hh => ⟨(), rfl, trivial, hh.se [] [] 3 rfl rfl rfl rfl⟩)
      ·replace hm := ifT (of_ndec_false h151) hm
       refine g_skip (g_n_then (g_sr (g_mv rfl rfl (g_mv rfl rfl (g_as rfl rfl (g_as rfl rfl (g_nx ?_)))))))
       refine g_val rfl rfl rfl (fun _ _ => v_nilS rfl) (g_nx (g_val rfl rfl rfl (fun _ _ => v_build (vs := []) (cells := [_, _]) rfl rfl) ?_))
       refine g_allocV (fun w => Tryz.zeroValue32 w) rfl (fun b_35 h152 => ?_)
       refine g_stSA (us := #[_, _]) (cs' := [_, _]) (S' := [_, _, _, _]) 0 (fun w => Tryz.sizeOf32 w) rfl rfl rfl rfl rfl rfl rfl (g_as rfl rfl (g_nt (g_seq (g_vnil 3 ?_))))
       obtain ⟨o_3, h153, h154⟩ := bindO hm
       refine g_cut (ι := VL) (fun l_20 => VOK 1 l_20.n l_20.cap (RI.enc o_3.want17) l_20.sp l_20.q) (fun l_20 => [(1, .int .i64 tenant1), (2, .int .i64 which2), (3, .slice qa2 na2 ca2), (4, ptr b 0), (11, ptr l_5.1 0), (13, slv l_5.2.2.1.v.q l_5.2.2.1.v.n l_5.2.2.1.v.cap), (14, .int .i64 t53), (15, .int .i64 o_3.u15), (16, .int .i64 o_3.v16), (17, slv l_20.q l_20.n l_20.cap), (18, ptr b_35 0), (19, .bool o_3.fits19)]) (fun l_20 => [(b_35, .cells #[.int .i64 o_3.gone18_lo, .int .i64 o_3.gone18_hi] 32 (0, 0)), (b, .cells #[.slice qa0 na0 ca0, .slice qa1 na1 ca1] 25 (0, 0)), (l_5.1, .cells #[slv l_5.2.2.2.1.q l_5.2.2.2.1.n l_5.2.2.2.1.cap, slv l_5.2.2.2.2.1.q l_5.2.2.2.2.1.n l_5.2.2.2.2.1.cap] 25 (0, 0)), (l_5.2.1, .cells #[slv l_5.2.2.2.2.2.1.q l_5.2.2.2.2.2.1.n l_5.2.2.2.2.2.1.cap, slv l_5.2.2.2.2.2.2.q l_5.2.2.2.2.2.2.n l_5.2.2.2.2.2.2.cap] 38 (0, 0))]) (fun l_20 => [⟨26, RwH.enc l_5.2.2.1.rs, l_5.2.2.1.v.sp, l_5.2.2.1.v.q, dbl 3 RI o_2.mine13 l_5.2.2.1.rs⟩, ⟨3, RI.enc o_3.want17, l_20.sp, l_20.q, []⟩, ⟨85, RSt.enc o_2.own11.strips, l_5.2.2.2.1.sp, l_5.2.2.2.1.q, []⟩, ⟨32, RSp.enc o_2.own11.carried, l_5.2.2.2.2.1.sp, l_5.2.2.2.2.1.q, []⟩, ⟨98, RSt.enc o_2.x12.strips, l_5.2.2.2.2.2.1.sp, l_5.2.2.2.2.2.1.q, []⟩, ⟨32, RSp.enc o_2.x12.carried, l_5.2.2.2.2.2.2.sp, l_5.2.2.2.2.2.2.q, []⟩]) ?_ ?_
       ·replace hm := h153
        refine g_sr (g_mv rfl rfl (g_val rfl rfl rfl (fun _ _ => v_eql rfl rfl) (g_nt ?_)))
        refine g_cond rfl (fun h156 => ?_) (fun h156 => ?_)
        ·replace hm := ifD h156 hm
         refine g_sr (g_la [_, _] 3 Tryz.isAgg38 Tryz.sizeOf38 rfl rfl rfl rfl (g_mv rfl rfl ?_))
         obtain ⟨t65, h157, hm⟩ := bindO hm
         refine g_callH [] [] rfl rfl rfl rfl rfl rfl rfl Tryz.call33 (fun w hh => c_laurelref09_Fits o_2.x12 shares3 (qA l_5.2.2.2.2.2.1.q) l_5.2.2.2.2.2.1.n l_5.2.2.2.2.2.1.cap (qA l_5.2.2.2.2.2.2.q) l_5.2.2.2.2.2.2.n l_5.2.2.2.2.2.2.cap qa2 na2 ca2 ar2 w (HV.callee (S0 := []) (vs0 := []) hh (roC (hh.vsepA 4 rfl h30) (roC (hh.vsepA 5 rfl h31) (roR hh 2 rfl roN)))) (vlen RSt h30 rfl) (AOK.q (vne h30)) (h30).hle (vlen RSp h31 rfl) (AOK.q (vne h31)) (h31).hle hna2 hqa2 hla2 hda2 (hh.oldT (S0 := []) (vs0 := []) hTa2) h157) (fun l_21 h158 => ?_)
         refine g_as rfl rfl (g_nt (g_seq ?_))
         obtain ⟨o_4, h159, h160⟩ := bindO hm
         refine g_cut (ι := VL) (fun l_22 => VOK 1 l_22.n l_22.cap (RI.enc o_4.want17) l_22.sp l_22.q) (fun l_22 => [(1, .int .i64 tenant1), (2, .int .i64 which2), (3, .slice qa2 na2 ca2), (4, ptr b 0), (11, ptr l_5.1 0), (12, ptr l_5.2.1 0), (13, slv l_5.2.2.1.v.q l_5.2.2.1.v.n l_5.2.2.1.v.cap), (14, .int .i64 t53), (15, .int .i64 o_4.u15), (17, slv l_22.q l_22.n l_22.cap), (18, ptr b_35 0), (19, .bool t65)]) (fun l_22 => [(b_35, .cells #[.int .i64 0, .int .i64 0] 32 (0, 0)), (b, .cells #[.slice qa0 na0 ca0, .slice qa1 na1 ca1] 25 (0, 0)), (l_5.1, .cells #[slv l_5.2.2.2.1.q l_5.2.2.2.1.n l_5.2.2.2.1.cap, slv l_5.2.2.2.2.1.q l_5.2.2.2.2.1.n l_5.2.2.2.2.1.cap] 25 (0, 0)), (l_5.2.1, .cells #[slv l_5.2.2.2.2.2.1.q l_5.2.2.2.2.2.1.n l_5.2.2.2.2.2.1.cap, slv l_5.2.2.2.2.2.2.q l_5.2.2.2.2.2.2.n l_5.2.2.2.2.2.2.cap] 38 (0, 0))]) (fun l_22 => [⟨26, RwH.enc l_5.2.2.1.rs, l_5.2.2.1.v.sp, l_5.2.2.1.v.q, dbl 3 RI o_2.mine13 l_5.2.2.1.rs⟩, ⟨3, RI.enc o_4.want17, l_22.sp, l_22.q, []⟩, ⟨85, RSt.enc o_2.own11.strips, l_5.2.2.2.1.sp, l_5.2.2.2.1.q, []⟩, ⟨32, RSp.enc o_2.own11.carried, l_5.2.2.2.2.1.sp, l_5.2.2.2.2.1.q, []⟩, ⟨98, RSt.enc o_2.x12.strips, l_5.2.2.2.2.2.1.sp, l_5.2.2.2.2.2.1.q, []⟩, ⟨32, RSp.enc o_2.x12.carried, l_5.2.2.2.2.2.2.sp, l_5.2.2.2.2.2.2.q, []⟩]) ?_ ?_
         ·replace hm := h159
          refine g_sr (g_as rfl rfl (g_nt (g_seq ?_)))
          obtain ⟨o_5, h162, h163⟩ := bindO hm
          refine g_cut (ι := Unit) (fun l_23 => True) (fun l_23 => [(1, .int .i64 tenant1), (2, .int .i64 which2), (3, .slice qa2 na2 ca2), (4, ptr b 0), (11, ptr l_5.1 0), (12, ptr l_5.2.1 0), (13, slv l_5.2.2.1.v.q l_5.2.2.1.v.n l_5.2.2.1.v.cap), (14, .int .i64 t53), (15, .int .i64 1), (17, slv none 0 0), (18, ptr b_35 0), (19, .bool t65), (74, .bool o_5)]) (fun l_23 => [(b_35, .cells #[.int .i64 0, .int .i64 0] 32 (0, 0)), (b, .cells #[.slice qa0 na0 ca0, .slice qa1 na1 ca1] 25 (0, 0)), (l_5.1, .cells #[slv l_5.2.2.2.1.q l_5.2.2.2.1.n l_5.2.2.2.1.cap, slv l_5.2.2.2.2.1.q l_5.2.2.2.2.1.n l_5.2.2.2.2.1.cap] 25 (0, 0)), (l_5.2.1, .cells #[slv l_5.2.2.2.2.2.1.q l_5.2.2.2.2.2.1.n l_5.2.2.2.2.2.1.cap, slv l_5.2.2.2.2.2.2.q l_5.2.2.2.2.2.2.n l_5.2.2.2.2.2.2.cap] 38 (0, 0))]) (fun l_23 => [⟨26, RwH.enc l_5.2.2.1.rs, l_5.2.2.1.v.sp, l_5.2.2.1.v.q, dbl 3 RI o_2.mine13 l_5.2.2.1.rs⟩, ⟨3, RI.enc [], [], none, []⟩, ⟨85, RSt.enc o_2.own11.strips, l_5.2.2.2.1.sp, l_5.2.2.2.1.q, []⟩, ⟨32, RSp.enc o_2.own11.carried, l_5.2.2.2.2.1.sp, l_5.2.2.2.2.1.q, []⟩, ⟨98, RSt.enc o_2.x12.strips, l_5.2.2.2.2.2.1.sp, l_5.2.2.2.2.2.1.q, []⟩, ⟨32, RSp.enc o_2.x12.carried, l_5.2.2.2.2.2.2.sp, l_5.2.2.2.2.2.2.q, []⟩]) ?_ ?_
          ·replace hm := h162
           refine g_region (g_mv rfl rfl (g_val rfl rfl rfl (fun _ _ => v_geq rfl rfl) (g_mv rfl rfl ?_)))
           refine g_case 68 rfl (fun h164 => ?_) (fun h164 => ?_)
           ·replace hm := ifD h164 hm
            refine v_unguard rfl rfl (g_mv rfl rfl (v_unguard rfl rfl (g_fa 1 Tryz.runUnderlying25 rfl Tryz.sizeOf23 rfl rfl (v_unguard rfl rfl (g_lc 1 Tryz.isAgg23 rfl rfl rfl rfl (v_unguard rfl rfl (g_val rfl rfl rfl (fun w _ => v_lenR hna1 (Tryz.runUnderlying23 w) rfl) ?_)))))))
            refine v_unguard rfl rfl (g_ls rfl rfl rfl (g_pt rfl rfl rfl (g_nil ?_)))
            obtain rfl := sj hm
            exact g_leaf () (trivial) (sE rfl) (hsE [0, 1, 2, 3] [1, 0, 2, 3, 4, 5] 0 rfl rfl rfl rfl)
           ·replace hm := ifE h164 hm
            refine g_k rfl rfl rfl rfl (g_k rfl rfl rfl rfl (g_k rfl rfl rfl rfl (g_k rfl rfl rfl rfl (g_k rfl rfl rfl rfl (g_pf rfl rfl rfl (g_nil ?_))))))
            obtain rfl := sj hm
            exact g_leaf () (trivial) (sE rfl) (hsE [0, 1, 2, 3] [1, 0, 2, 3, 4, 5] 0 rfl rfl rfl rfl)
          ·intro l_23 hj
           replace hm := h163
           refine g_n_then ?_
           refine g_cond rfl (fun h165 => ?_) (fun h165 => ?_)
           ·replace hm := ifT (h165) hm
            refine g_sr (g_as rfl rfl (g_nx (g_fa 0 Tryz.runUnderlying25 rfl Tryz.sizeOf22 rfl rfl (g_lc 1 Tryz.isAgg22 rfl rfl rfl rfl (g_val rfl rfl rfl (fun w _ => v_lenR hna0 (Tryz.runUnderlying22 w) rfl) (g_mv rfl rfl (g_nt ?_)))))))
            obtain ⟨o_6, h166, h167⟩ := bindO hm
            refine g_cut (ι := VL) (fun l_24 => VOK 1 l_24.n l_24.cap (RI.enc o_6) l_24.sp l_24.q) (fun l_24 => [(1, .int .i64 tenant1), (2, .int .i64 which2), (3, .slice qa2 na2 ca2), (4, ptr b 0), (11, ptr l_5.1 0), (12, ptr l_5.2.1 0), (13, slv l_5.2.2.1.v.q l_5.2.2.1.v.n l_5.2.2.1.v.cap), (14, .int .i64 t53), (15, .int .i64 0), (17, slv l_24.q l_24.n l_24.cap), (18, ptr b_35 0), (19, .bool t65)]) (fun l_24 => [(b_35, .cells #[.int .i64 0, .int .i64 0] 32 (0, 0)), (b, .cells #[.slice qa0 na0 ca0, .slice qa1 na1 ca1] 25 (0, 0)), (l_5.1, .cells #[slv l_5.2.2.2.1.q l_5.2.2.2.1.n l_5.2.2.2.1.cap, slv l_5.2.2.2.2.1.q l_5.2.2.2.2.1.n l_5.2.2.2.2.1.cap] 25 (0, 0)), (l_5.2.1, .cells #[slv l_5.2.2.2.2.2.1.q l_5.2.2.2.2.2.1.n l_5.2.2.2.2.2.1.cap, slv l_5.2.2.2.2.2.2.q l_5.2.2.2.2.2.2.n l_5.2.2.2.2.2.2.cap] 38 (0, 0))]) (fun l_24 => [⟨26, RwH.enc l_5.2.2.1.rs, l_5.2.2.1.v.sp, l_5.2.2.1.v.q, dbl 3 RI o_2.mine13 l_5.2.2.1.rs⟩, ⟨3, RI.enc o_6, l_24.sp, l_24.q, []⟩, ⟨85, RSt.enc o_2.own11.strips, l_5.2.2.2.1.sp, l_5.2.2.2.1.q, []⟩, ⟨32, RSp.enc o_2.own11.carried, l_5.2.2.2.2.1.sp, l_5.2.2.2.2.1.q, []⟩, ⟨98, RSt.enc o_2.x12.strips, l_5.2.2.2.2.2.1.sp, l_5.2.2.2.2.2.1.q, []⟩, ⟨32, RSp.enc o_2.x12.carried, l_5.2.2.2.2.2.2.sp, l_5.2.2.2.2.2.2.q, []⟩]) ?_ ?_
            ·replace hm := h166
             refine g_block ?_
             refine g_loopF (ι := VL) hm (fun s_1 l_25 => VOK 1 l_25.n l_25.cap (RI.enc s_1.want17) l_25.sp l_25.q) (fun s_1 l_25 => [(1, .int .i64 tenant1), (2, .int .i64 which2), (3, .slice qa2 na2 ca2), (4, ptr b 0), (11, ptr l_5.1 0), (12, ptr l_5.2.1 0), (13, slv l_5.2.2.1.v.q l_5.2.2.1.v.n l_5.2.2.1.v.cap), (14, .int .i64 t53), (15, .int .i64 0), (17, slv l_25.q l_25.n l_25.cap), (18, ptr b_35 0), (19, .bool t65), (77, .int .i64 (s0.strips.length : Int)), (78, .int .i64 s_1.t78)]) (fun s_1 l_25 => [(b_35, .cells #[.int .i64 0, .int .i64 0] 32 (0, 0)), (b, .cells #[.slice qa0 na0 ca0, .slice qa1 na1 ca1] 25 (0, 0)), (l_5.1, .cells #[slv l_5.2.2.2.1.q l_5.2.2.2.1.n l_5.2.2.2.1.cap, slv l_5.2.2.2.2.1.q l_5.2.2.2.2.1.n l_5.2.2.2.2.1.cap] 25 (0, 0)), (l_5.2.1, .cells #[slv l_5.2.2.2.2.2.1.q l_5.2.2.2.2.2.1.n l_5.2.2.2.2.2.1.cap, slv l_5.2.2.2.2.2.2.q l_5.2.2.2.2.2.2.n l_5.2.2.2.2.2.2.cap] 38 (0, 0))]) (fun s_1 l_25 => [⟨26, RwH.enc l_5.2.2.1.rs, l_5.2.2.1.v.sp, l_5.2.2.1.v.q, dbl 3 RI o_2.mine13 l_5.2.2.1.rs⟩, ⟨3, RI.enc s_1.want17, l_25.sp, l_25.q, []⟩, ⟨85, RSt.enc o_2.own11.strips, l_5.2.2.2.1.sp, l_5.2.2.2.1.q, []⟩, ⟨32, RSp.enc o_2.own11.carried, l_5.2.2.2.2.1.sp, l_5.2.2.2.2.1.q, []⟩, ⟨98, RSt.enc o_2.x12.strips, l_5.2.2.2.2.2.1.sp, l_5.2.2.2.2.2.1.q, []⟩, ⟨32, RSp.enc o_2.x12.carried, l_5.2.2.2.2.2.2.sp, l_5.2.2.2.2.2.2.q, []⟩]) ⟨none, 0, 0, []⟩ (VOK.nil) (sE rfl) (fun w hh => hh) (fun s_1 l_25 r_1 hpl hm h170 => ?_)
             have h169 := hpl
             unfold m_laurellaw09_StripChecks_L1 at hm
             refine g_sr (g_ls rfl rfl rfl (g_nt (g_seq ?_)))
             refine g_cond rfl (fun h171 => ?_) (fun h171 => ?_)
             ·replace hm := ifD h171 hm
              refine g_skip (g_n_then (g_seq ?_))
              obtain ⟨o_7, h172, h173⟩ := bindO hm
              refine g_cut (ι := VL) (fun l_26 => VOK 1 l_26.n l_26.cap (RI.enc o_7) l_26.sp l_26.q) (fun l_26 => [(1, .int .i64 tenant1), (2, .int .i64 which2), (3, .slice qa2 na2 ca2), (4, ptr b 0), (11, ptr l_5.1 0), (12, ptr l_5.2.1 0), (13, slv l_5.2.2.1.v.q l_5.2.2.1.v.n l_5.2.2.1.v.cap), (14, .int .i64 t53), (15, .int .i64 0), (17, slv l_26.q l_26.n l_26.cap), (18, ptr b_35 0), (19, .bool t65), (77, .int .i64 (s0.strips.length : Int)), (78, .int .i64 s_1.t78)]) (fun l_26 => [(b_35, .cells #[.int .i64 0, .int .i64 0] 32 (0, 0)), (b, .cells #[.slice qa0 na0 ca0, .slice qa1 na1 ca1] 25 (0, 0)), (l_5.1, .cells #[slv l_5.2.2.2.1.q l_5.2.2.2.1.n l_5.2.2.2.1.cap, slv l_5.2.2.2.2.1.q l_5.2.2.2.2.1.n l_5.2.2.2.2.1.cap] 25 (0, 0)), (l_5.2.1, .cells #[slv l_5.2.2.2.2.2.1.q l_5.2.2.2.2.2.1.n l_5.2.2.2.2.2.1.cap, slv l_5.2.2.2.2.2.2.q l_5.2.2.2.2.2.2.n l_5.2.2.2.2.2.2.cap] 38 (0, 0))]) (fun l_26 => [⟨26, RwH.enc l_5.2.2.1.rs, l_5.2.2.1.v.sp, l_5.2.2.1.v.q, dbl 3 RI o_2.mine13 l_5.2.2.1.rs⟩, ⟨3, RI.enc o_7, l_26.sp, l_26.q, []⟩, ⟨85, RSt.enc o_2.own11.strips, l_5.2.2.2.1.sp, l_5.2.2.2.1.q, []⟩, ⟨32, RSp.enc o_2.own11.carried, l_5.2.2.2.2.1.sp, l_5.2.2.2.2.1.q, []⟩, ⟨98, RSt.enc o_2.x12.strips, l_5.2.2.2.2.2.1.sp, l_5.2.2.2.2.2.1.q, []⟩, ⟨32, RSp.enc o_2.x12.carried, l_5.2.2.2.2.2.2.sp, l_5.2.2.2.2.2.2.q, []⟩]) ?_ ?_
              ·replace hm := h172
               refine g_block (g_sr (g_mv rfl rfl (g_as rfl rfl (g_nx (g_la [_, _] 3 Tryz.isAgg38 Tryz.sizeOf38 rfl rfl rfl rfl (g_mv rfl rfl (g_mv rfl rfl ?_)))))))
               obtain ⟨t84, h175, hm⟩ := bindO hm
               refine g_callH [] [] rfl rfl rfl rfl rfl rfl rfl Tryz.call34 (fun w hh => c_laurelref09_Reaches o_2.x12 tenant1 s_1.t78 (qA l_5.2.2.2.2.2.1.q) l_5.2.2.2.2.2.1.n l_5.2.2.2.2.2.1.cap (qA l_5.2.2.2.2.2.2.q) l_5.2.2.2.2.2.2.n l_5.2.2.2.2.2.2.cap w (HV.callee (S0 := []) (vs0 := []) hh (roC (hh.vsepA 4 rfl h30) (roC (hh.vsepA 5 rfl h31) roN))) (vlen RSt h30 rfl) (AOK.q (vne h30)) (h30).hle (vlen RSp h31 rfl) (AOK.q (vne h31)) (h31).hle h175) (fun l_27 h176 => ?_)
               refine g_nt ?_
               refine g_cond rfl (fun h177 => ?_) (fun h177 => ?_)
               ·replace hm := ifT (h177) hm
                refine g_region (g_mv rfl rfl (g_mv rfl rfl ?_))
                refine g_vlit RI [s_1.t78] (ps := [(0, _)]) (cells := [_]) (fun w => Tryz.runUnderlying26 w) (fun w => Tryz.sizeOf3 w) (fun w => Tryz.zeroValue3 w) rfl rfl rfl rfl rfl rfl rfl rfl (fun L_43 h178 => ?_)
                obtain ⟨t88, h179, hm⟩ := bindO hm
                refine g_vapp RI 2 h179 Tryz.underlying26 gxinf3 rfl rfl rfl rfl rfl h169 rfl rfl (vlen RI h178 rfl) (AOK.q (vne h178)) (fun w hh => (hh.vsegA 0 rfl h178)) rfl (fun L_44 h180 h180n => ?_)
                refine g_se (S' := [_, _, _, _]) (vs' := [_, _, _, _, _, _, _]) [0, 1, 2, 3] [0, 1, 2, 3, 4, 5, 6] 0 rfl rfl rfl rfl (g_as rfl rfl (g_nil (g_n_blk ?_)))
                obtain rfl := sj hm
                exact g_leaf L_44 (h180) (sE rfl) (hsE [0, 1, 2, 3] [1, 2, 3, 4, 5, 6] 0 rfl rfl rfl rfl)
               ·replace hm := ifN h177 hm
                refine g_skip (g_n_blk ?_)
                obtain rfl := sj hm
                exact g_leaf l_25 (h169) (sE rfl) (fun w hh => hh)
              ·intro l_26 hj
               have h174 := hj
               replace hm := h173
               refine g_n_then (g_region ?_)
               obtain ⟨t89, h181, hm⟩ := bindO hm
               refine g_ac h181 rfl rfl rfl (g_mv rfl rfl (g_nil ?_))
               obtain rfl := sj hm
               refine g_n_then ?_
               exact g_again' _ l_26 rfl (h174) (sE rfl) (fun w hh => hh)
             ·replace hm := ifE h171 hm
              refine g_exit (g_x_then (g_x_then (g_x_blk ?_)))
              obtain rfl := sj hm
              have hbo := h170 _ rfl
              subst hbo
              exact g_leaf l_25 (h169) (sE rfl) (fun w hh => hh)
            ·intro l_24 hj
             have h168 := hj
             replace hm := h167
             obtain rfl := sj hm
             exact g_leaf l_24 (h168) (sE rfl) (fun w hh => hh)
           ·replace hm := ifN h165 hm
            refine g_skip ?_
            obtain rfl := sj hm
            exact g_leaf ⟨none, 0, 0, []⟩ (VOK.nil) (sE rfl) (fun w hh => hh)
         ·intro l_22 hj
          have h161 := hj
          replace hm := h160
          refine g_n_then (g_sr (g_as rfl rfl (g_nt (g_seq ?_))))
          obtain ⟨o_8, h182, h183⟩ := bindO hm
          refine g_cut (ι := Unit) (fun l_28 => True) (fun l_28 => [(1, .int .i64 tenant1), (2, .int .i64 which2), (3, .slice qa2 na2 ca2), (4, ptr b 0), (11, ptr l_5.1 0), (12, ptr l_5.2.1 0), (13, slv l_5.2.2.1.v.q l_5.2.2.1.v.n l_5.2.2.1.v.cap), (14, .int .i64 t53), (15, .int .i64 o_4.u15), (16, .int .i64 1), (17, slv l_22.q l_22.n l_22.cap), (18, ptr b_35 0), (19, .bool t65), (98, .bool o_8)]) (fun l_28 => [(b_35, .cells #[.int .i64 0, .int .i64 0] 32 (0, 0)), (b, .cells #[.slice qa0 na0 ca0, .slice qa1 na1 ca1] 25 (0, 0)), (l_5.1, .cells #[slv l_5.2.2.2.1.q l_5.2.2.2.1.n l_5.2.2.2.1.cap, slv l_5.2.2.2.2.1.q l_5.2.2.2.2.1.n l_5.2.2.2.2.1.cap] 25 (0, 0)), (l_5.2.1, .cells #[slv l_5.2.2.2.2.2.1.q l_5.2.2.2.2.2.1.n l_5.2.2.2.2.2.1.cap, slv l_5.2.2.2.2.2.2.q l_5.2.2.2.2.2.2.n l_5.2.2.2.2.2.2.cap] 38 (0, 0))]) (fun l_28 => [⟨26, RwH.enc l_5.2.2.1.rs, l_5.2.2.1.v.sp, l_5.2.2.1.v.q, dbl 3 RI o_2.mine13 l_5.2.2.1.rs⟩, ⟨3, RI.enc o_4.want17, l_22.sp, l_22.q, []⟩, ⟨85, RSt.enc o_2.own11.strips, l_5.2.2.2.1.sp, l_5.2.2.2.1.q, []⟩, ⟨32, RSp.enc o_2.own11.carried, l_5.2.2.2.2.1.sp, l_5.2.2.2.2.1.q, []⟩, ⟨98, RSt.enc o_2.x12.strips, l_5.2.2.2.2.2.1.sp, l_5.2.2.2.2.2.1.q, []⟩, ⟨32, RSp.enc o_2.x12.carried, l_5.2.2.2.2.2.2.sp, l_5.2.2.2.2.2.2.q, []⟩]) ?_ ?_
          ·replace hm := h182
           refine g_region (g_mv rfl rfl (g_val rfl rfl rfl (fun _ _ => v_geq rfl rfl) (g_mv rfl rfl ?_)))
           refine g_case 92 rfl (fun h184 => ?_) (fun h184 => ?_)
           ·replace hm := ifD h184 hm
            refine v_unguard rfl rfl (g_mv rfl rfl (v_unguard rfl rfl (g_fa 0 Tryz.runUnderlying25 rfl Tryz.sizeOf22 rfl rfl (v_unguard rfl rfl (g_lc 1 Tryz.isAgg22 rfl rfl rfl rfl (v_unguard rfl rfl (g_val rfl rfl rfl (fun w _ => v_lenR hna0 (Tryz.runUnderlying22 w) rfl) ?_)))))))
            refine v_unguard rfl rfl (g_ls rfl rfl rfl (g_pt rfl rfl rfl (g_nil ?_)))
            obtain rfl := sj hm
            exact g_leaf () (trivial) (sE rfl) (fun w hh => hh)
           ·replace hm := ifE h184 hm
            refine g_k rfl rfl rfl rfl (g_k rfl rfl rfl rfl (g_k rfl rfl rfl rfl (g_k rfl rfl rfl rfl (g_k rfl rfl rfl rfl (g_pf rfl rfl rfl (g_nil ?_))))))
            obtain rfl := sj hm
            exact g_leaf () (trivial) (sE rfl) (fun w hh => hh)
          ·intro l_28 hj
           replace hm := h183
           refine g_n_then ?_
           refine g_cond rfl (fun h185 => ?_) (fun h185 => ?_)
           ·replace hm := ifT (h185) hm
            refine g_region (g_la [_, _] 3 Tryz.isAgg38 Tryz.sizeOf38 rfl rfl rfl rfl (g_mv rfl rfl ?_))
            obtain ⟨t101, h186, hm⟩ := bindO hm
            refine g_callH [] [] rfl rfl rfl rfl rfl rfl rfl Tryz.call35 (fun w hh => c_laurelref09_Gone o_2.x12 which2 (qA l_5.2.2.2.2.2.1.q) l_5.2.2.2.2.2.1.n l_5.2.2.2.2.2.1.cap (qA l_5.2.2.2.2.2.2.q) l_5.2.2.2.2.2.2.n l_5.2.2.2.2.2.2.cap w (HV.callee (S0 := []) (vs0 := []) hh (roC (hh.vsepA 4 rfl h30) (roC (hh.vsepA 5 rfl h31) roN))) (vlen RSt h30 rfl) (AOK.q (vne h30)) (h30).hle (vlen RSp h31 rfl) (AOK.q (vne h31)) (h31).hle h186) (fun l_29 h187 => ?_)
            refine g_stSA (us := #[_, _]) (cs' := [_, _]) (S' := [_, _, _, _]) 0 (fun w => Tryz.sizeOf32 w) rfl rfl rfl rfl rfl rfl rfl (g_as rfl rfl (g_nil ?_))
            obtain rfl := sj hm
            exact g_leaf l_22 (h161) (sE rfl) (fun w hh => hh)
           ·replace hm := ifN h185 hm
            refine g_skip ?_
            obtain rfl := sj hm
            exact g_leaf l_22 (h161) (sE rfl) (fun w hh => hh)
        ·replace hm := ifE h156 hm
         refine g_skip ?_
         obtain rfl := sj hm
         exact g_leaf ⟨none, 0, 0, []⟩ (VOK.nil) (sE rfl) (hsE [0, 1, 2, 3] [1, 0, 2, 3, 4, 5] 0 rfl rfl rfl rfl)
       ·intro l_20 hj
        have h155 := hj
        replace hm := h154
        refine g_n_then (g_sr (g_la [_, _] 2 Tryz.isAgg25 Tryz.sizeOf25 rfl rfl rfl rfl (g_mv rfl rfl ?_)))
        obtain ⟨t105, h188, hm⟩ := bindO hm
        refine g_callH [] [] rfl rfl rfl rfl rfl rfl rfl Tryz.call36 (fun w hh => c_strip_Reach o_2.own11 tenant1 (qA l_5.2.2.2.1.q) l_5.2.2.2.1.n l_5.2.2.2.1.cap (qA l_5.2.2.2.2.1.q) l_5.2.2.2.2.1.n l_5.2.2.2.2.1.cap w (HV.callee (S0 := []) (vs0 := []) hh (roC (hh.vsepA 2 rfl h28) (roC (hh.vsepA 3 rfl h29) roN))) (vlen RSt h28 rfl) (AOK.q (vne h28)) (h28).hle (vlen RSp h29 rfl) (AOK.q (vne h29)) (h29).hle h188) (fun l_30 h189 => ?_)
        have h190 := h189
        refine g_se (S' := [_, _, _, _]) (vs' := [_, _, _, _, _, _, _]) [0, 1, 2, 3] [0, 1, 2, 3, 4, 5, 6] 0 rfl rfl rfl rfl (g_mv rfl rfl (g_xt rfl rfl rfl (g_xt rfl rfl rfl (g_as rfl rfl (g_as rfl rfl (g_nx (g_la [_, _] 2 Tryz.isAgg25 Tryz.sizeOf25 rfl rfl rfl rfl ?_)))))))
        refine g_mv rfl rfl ?_
        obtain ⟨t111, h191, hm⟩ := bindO hm
        refine g_callH [] [] rfl rfl rfl rfl rfl rfl rfl Tryz.call37 (fun w hh => c_strip_Gone o_2.own11 which2 (qA l_5.2.2.2.1.q) l_5.2.2.2.1.n l_5.2.2.2.1.cap (qA l_5.2.2.2.2.1.q) l_5.2.2.2.2.1.n l_5.2.2.2.2.1.cap w (HV.callee (S0 := []) (vs0 := []) hh (roC (hh.vsepA 3 rfl h28) (roC (hh.vsepA 4 rfl h29) roN))) (vlen RSt h28 rfl) (AOK.q (vne h28)) (h28).hle (vlen RSp h29 rfl) (AOK.q (vne h29)) (h29).hle h191) (fun l_31 h192 => ?_)
        refine g_mv rfl rfl (g_xt rfl rfl rfl (g_xt rfl rfl rfl ?_))
        refine g_allocV (fun w => Tryz.zeroValue32 w) rfl (fun b_36 h193 => ?_)
        refine g_stSA (us := #[_, _]) (cs' := [_, _]) (S' := [_, _, _, _, _]) 0 (fun w => Tryz.sizeOf32 w) rfl rfl rfl rfl rfl rfl rfl (g_as rfl rfl (g_nx (g_la [_, _] 3 Tryz.isAgg25 Tryz.sizeOf25 rfl rfl rfl rfl (g_mv rfl rfl ?_))))
        obtain ⟨t117, h194, hm⟩ := bindO hm
        refine g_callH [] [] rfl rfl rfl rfl rfl rfl rfl Tryz.call38 (fun w hh => c_strip_Fits o_2.own11 o_2.mine13 (qA l_5.2.2.2.1.q) l_5.2.2.2.1.n l_5.2.2.2.1.cap (qA l_5.2.2.2.2.1.q) l_5.2.2.2.2.1.n l_5.2.2.2.2.1.cap (qA l_5.2.2.1.v.q) l_5.2.2.1.v.n l_5.2.2.1.v.cap (toAL l_5.2.2.1.rs) w (HV.callee (S0 := []) (vs0 := []) hh (roC (hh.vsepA 3 rfl h28) (roC (hh.vsepA 4 rfl h29) (roC (hh.vsepD 1 rfl h26) roN)))) (vlen RSt h28 rfl) (AOK.q (vne h28)) (h28).hle (vlen RSp h29 rfl) (AOK.q (vne h29)) (h29).hle (Eq.trans (h27).len (vlen RwH h26 rfl)) (AOK.q (vne h26)) (h26).hle ((h27).toDRO rfl) (hh.dsepT 1 rfl h27) h194) (fun l_32 h195 => ?_)
        refine g_mv rfl rfl (g_xt rfl rfl rfl (g_xt rfl rfl rfl (g_as rfl rfl (g_as rfl rfl (g_nt (g_seq ?_))))))
        obtain ⟨o_9, h196, h197⟩ := bindO hm
        refine g_cut (ι := Unit) (fun l_33 => True) (fun l_33 => [(8, .bool o_9)]) (fun l_33 => [(b_36, .cells #[.int .i64 t111.r0.lo, .int .i64 t111.r0.hi] 32 (0, 0)), (b_35, .cells #[.int .i64 o_3.gone18_lo, .int .i64 o_3.gone18_hi] 32 (0, 0)), (b, .cells #[.slice qa0 na0 ca0, .slice qa1 na1 ca1] 25 (0, 0)), (l_5.1, .cells #[slv l_5.2.2.2.1.q l_5.2.2.2.1.n l_5.2.2.2.1.cap, slv l_5.2.2.2.2.1.q l_5.2.2.2.2.1.n l_5.2.2.2.2.1.cap] 25 (0, 0)), (l_5.2.1, .cells #[slv l_5.2.2.2.2.2.1.q l_5.2.2.2.2.2.1.n l_5.2.2.2.2.2.1.cap, slv l_5.2.2.2.2.2.2.q l_5.2.2.2.2.2.2.n l_5.2.2.2.2.2.2.cap] 38 (0, 0))]) (fun l_33 => [⟨85, RSt.enc o_2.own11.strips, l_5.2.2.2.1.sp, l_5.2.2.2.1.q, []⟩, ⟨32, RSp.enc o_2.own11.carried, l_5.2.2.2.2.1.sp, l_5.2.2.2.2.1.q, []⟩, ⟨98, RSt.enc o_2.x12.strips, l_5.2.2.2.2.2.1.sp, l_5.2.2.2.2.2.1.q, []⟩, ⟨32, RSp.enc o_2.x12.carried, l_5.2.2.2.2.2.2.sp, l_5.2.2.2.2.2.2.q, []⟩]) ?_ ?_
        ·replace hm := h196
         refine g_region (g_mv rfl rfl (g_mv rfl rfl (g_val rfl rfl rfl (fun _ _ => v_eql rfl rfl) (g_mv rfl rfl ?_))))
         refine g_case 123 rfl (fun h198 => ?_) (fun h198 => ?_)
         ·replace hm := ifD h198 hm
          refine v_unguard rfl rfl (g_mv rfl rfl (v_unguard rfl rfl (g_mv rfl rfl (v_unguard rfl rfl (g_val rfl rfl rfl (fun _ _ => v_eql rfl rfl) (g_pt rfl rfl rfl (g_mv rfl rfl ?_)))))))
          refine g_case 128 rfl (fun h199 => ?_) (fun h199 => ?_)
          ·replace hm := ifD h199 hm
           refine v_unguard rfl rfl (g_mv rfl rfl (v_unguard rfl rfl (g_mv rfl rfl (v_unguard rfl rfl (g_val rfl rfl rfl (fun _ _ => v_eql rfl rfl) (g_pt rfl rfl rfl (g_mv rfl rfl ?_)))))))
           refine g_case 133 rfl (fun h200 => ?_) (fun h200 => ?_)
           ·replace hm := ifD h200 hm
            refine v_unguard rfl rfl (g_mv rfl rfl (v_unguard rfl rfl (g_mv rfl rfl (v_unguard rfl rfl ?_))))
            obtain ⟨t136, h201, hm⟩ := bindO hm
            refine g_callH [] [] rfl rfl rfl rfl rfl rfl rfl Tryz.call22 (fun w hh => c_laurelkit_Eq_int t105.r0 o_3.want17 (qA l_30.q) l_30.n l_30.cap (qA l_20.q) l_20.n l_20.cap w (HV.callee (S0 := []) (vs0 := []) hh (roC (hh.vsepA 0 rfl h190) (roC (hh.vsepA 2 rfl h155) roN))) (vlen RI h190 rfl) (AOK.q (vne h190)) (h190).hle (vlen RI h155 rfl) (AOK.q (vne h155)) (h155).hle h201) (fun l_34 h202 => ?_)
            refine g_pt rfl rfl rfl (g_mv rfl rfl ?_)
            refine g_case 138 rfl (fun h203 => ?_) (fun h203 => ?_)
            ·replace hm := ifT (h203) hm
             refine v_unguard rfl rfl (g_la [_, _] 0 Tryz.isAgg32 Tryz.sizeOf32 rfl rfl rfl rfl (v_unguard rfl rfl (g_la [_, _] 1 Tryz.isAgg32 Tryz.sizeOf32 rfl rfl rfl rfl (v_unguard rfl rfl (g_val rfl rfl rfl (fun w _ => v_eqlAgg (gxeq32 t111.r0 (⟨o_3.gone18_lo, o_3.gone18_hi⟩ : Span) w) gxeqg32 rfl rfl) (g_pt rfl rfl rfl (g_mv rfl rfl ?_)))))))
             refine g_case 143 rfl (fun h204 => ?_) (fun h204 => ?_)
             ·replace hm := ifD h204 hm
              refine v_unguard rfl rfl (g_mv rfl rfl (v_unguard rfl rfl (g_mv rfl rfl (v_unguard rfl rfl (g_val rfl rfl rfl (fun w _ => v_eqlBool (Tryz.runUnderlying4 w) rfl rfl) (g_pt rfl rfl rfl (g_mv rfl rfl ?_)))))))
              refine g_case 148 rfl (fun h205 => ?_) (fun h205 => ?_)
              ·replace hm := ifT (h205) hm
               refine v_unguard rfl rfl (g_la [_, _] 3 Tryz.isAgg25 Tryz.sizeOf25 rfl rfl rfl rfl (v_unguard rfl rfl (g_la [_, _] 2 Tryz.isAgg25 Tryz.sizeOf25 rfl rfl rfl rfl (v_unguard rfl rfl ?_))))
               obtain ⟨t151, h206, hm⟩ := bindO hm
               refine g_callH [] [] rfl rfl rfl rfl rfl rfl rfl Tryz.call21 (fun w hh => c_laurellaw09_same o_2.own11 s0 (qA l_5.2.2.2.1.q) l_5.2.2.2.1.n l_5.2.2.2.1.cap (qA l_5.2.2.2.2.1.q) l_5.2.2.2.2.1.n l_5.2.2.2.2.1.cap qa0 na0 ca0 qa1 na1 ca1 w (HV.callee (S0 := []) (vs0 := []) hh (roC (hh.vsepA 3 rfl h28) (roC (hh.vsepA 4 rfl h29) (roR hh 0 rfl (roR hh 1 rfl roN))))) (vlen RSt h28 rfl) (AOK.q (vne h28)) (h28).hle (vlen RSp h29 rfl) (AOK.q (vne h29)) (h29).hle hna0 hqa0 hla0 hna1 hqa1 hla1 h206) (fun l_35 h207 => ?_)
               refine g_pt rfl rfl rfl (g_mv rfl rfl ?_)
               refine g_case 153 rfl (fun h208 => ?_) (fun h208 => ?_)
               ·replace hm := ifT (h208) hm
                refine v_unguard rfl rfl (g_mv rfl rfl (v_unguard rfl rfl (g_mv rfl rfl (v_unguard rfl rfl ?_))))
                obtain ⟨t156, h209, hm⟩ := bindO hm
                refine g_callH [] [] rfl rfl rfl rfl rfl rfl rfl Tryz.call39 (fun w hh => c_laurelkit_EqRows_int o_2.mine13 shares3 (qA l_5.2.2.1.v.q) l_5.2.2.1.v.n l_5.2.2.1.v.cap (toAL l_5.2.2.1.rs) qa2 na2 ca2 ar2 w (HV.callee (S0 := []) (vs0 := []) hh (roC (hh.vsepD 1 rfl h26) (roR hh 2 rfl roN))) (Eq.trans (h27).len (vlen RwH h26 rfl)) (AOK.q (vne h26)) (h26).hle ((h27).toDRO rfl) (hh.dsepT 1 rfl h27) hna2 hqa2 hla2 hda2 (hh.oldT (S0 := []) (vs0 := []) hTa2) h209) (fun l_36 h210 => ?_)
                refine g_pt rfl rfl rfl (g_mv rfl rfl ?_)
                refine g_case 158 rfl (fun h211 => ?_) (fun h211 => ?_)
                ·replace hm := ifT (h211) hm
                 refine v_unguard rfl rfl ?_
                 obtain ⟨t159, h212, hm⟩ := bindO hm
                 refine g_callH [] [] rfl rfl rfl rfl rfl rfl rfl Tryz.call8 (fun w hh => c_laurellaw09_awake  w (HV.callee (S0 := []) (vs0 := []) hh roN)  h212) (fun l_37 h213 => ?_)
                 refine g_pt rfl rfl rfl (g_as rfl rfl (g_nil ?_))
                 obtain rfl := sj hm
                 exact g_leaf () (trivial) (sE rfl) (hsE [0, 1, 2, 3, 4] [3, 4, 5, 6] 0 rfl rfl rfl rfl)
                ·replace hm := ifN h211 hm
                 refine g_k rfl rfl rfl rfl (g_pf rfl rfl rfl (g_as rfl rfl (g_nil ?_)))
                 obtain rfl := sj hm
                 exact g_leaf () (trivial) (sE rfl) (hsE [0, 1, 2, 3, 4] [3, 4, 5, 6] 0 rfl rfl rfl rfl)
               ·replace hm := ifN h208 hm
                refine g_k rfl rfl rfl rfl (g_k rfl rfl rfl rfl (g_k rfl rfl rfl rfl (g_pf rfl rfl rfl (g_mv rfl rfl (g_k rfl rfl rfl rfl (g_pf rfl rfl rfl (g_as rfl rfl ?_)))))))
                refine g_nil ?_
                obtain rfl := sj hm
                exact g_leaf () (trivial) (sE rfl) (hsE [0, 1, 2, 3, 4] [3, 4, 5, 6] 0 rfl rfl rfl rfl)
              ·replace hm := ifN h205 hm
               refine g_k rfl rfl rfl rfl (g_k rfl rfl rfl rfl (g_k rfl rfl rfl rfl (g_pf rfl rfl rfl (g_mv rfl rfl (g_k rfl rfl rfl rfl (g_k rfl rfl rfl rfl (g_k rfl rfl rfl rfl ?_)))))))
               refine g_pf rfl rfl rfl (g_mv rfl rfl (g_k rfl rfl rfl rfl (g_pf rfl rfl rfl (g_as rfl rfl (g_nil ?_)))))
               obtain rfl := sj hm
               exact g_leaf () (trivial) (sE rfl) (hsE [0, 1, 2, 3, 4] [3, 4, 5, 6] 0 rfl rfl rfl rfl)
             ·replace hm := ifE h204 hm
              refine g_k rfl rfl rfl rfl (g_k rfl rfl rfl rfl (g_k rfl rfl rfl rfl (g_pf rfl rfl rfl (g_mv rfl rfl (g_k rfl rfl rfl rfl (g_k rfl rfl rfl rfl (g_k rfl rfl rfl rfl ?_)))))))
              refine g_pf rfl rfl rfl (g_mv rfl rfl (g_k rfl rfl rfl rfl (g_k rfl rfl rfl rfl (g_k rfl rfl rfl rfl (g_pf rfl rfl rfl (g_mv rfl rfl (g_k rfl rfl rfl rfl ?_)))))))
              refine g_pf rfl rfl rfl (g_as rfl rfl (g_nil ?_))
              obtain rfl := sj hm
              exact g_leaf () (trivial) (sE rfl) (hsE [0, 1, 2, 3, 4] [3, 4, 5, 6] 0 rfl rfl rfl rfl)
            ·replace hm := ifN h203 hm
             refine g_k rfl rfl rfl rfl (g_k rfl rfl rfl rfl (g_k rfl rfl rfl rfl (g_pf rfl rfl rfl (g_mv rfl rfl (g_k rfl rfl rfl rfl (g_k rfl rfl rfl rfl (g_k rfl rfl rfl rfl ?_)))))))
             refine g_pf rfl rfl rfl (g_mv rfl rfl (g_k rfl rfl rfl rfl (g_k rfl rfl rfl rfl (g_k rfl rfl rfl rfl (g_pf rfl rfl rfl (g_mv rfl rfl (g_k rfl rfl rfl rfl ?_)))))))
             refine g_k rfl rfl rfl rfl (g_k rfl rfl rfl rfl (g_pf rfl rfl rfl (g_mv rfl rfl (g_k rfl rfl rfl rfl (g_pf rfl rfl rfl (g_as rfl rfl (g_nil ?_)))))))
             obtain rfl := sj hm
             exact g_leaf () (trivial) (sE rfl) (hsE [0, 1, 2, 3, 4] [3, 4, 5, 6] 0 rfl rfl rfl rfl)
           ·replace hm := ifE h200 hm
            refine g_k rfl rfl rfl rfl (g_k rfl rfl rfl rfl (g_k rfl rfl rfl rfl (g_pf rfl rfl rfl (g_mv rfl rfl (g_k rfl rfl rfl rfl (g_k rfl rfl rfl rfl (g_k rfl rfl rfl rfl ?_)))))))
            refine g_pf rfl rfl rfl (g_mv rfl rfl (g_k rfl rfl rfl rfl (g_k rfl rfl rfl rfl (g_k rfl rfl rfl rfl (g_pf rfl rfl rfl (g_mv rfl rfl (g_k rfl rfl rfl rfl ?_)))))))
            refine g_k rfl rfl rfl rfl (g_k rfl rfl rfl rfl (g_pf rfl rfl rfl (g_mv rfl rfl (g_k rfl rfl rfl rfl (g_k rfl rfl rfl rfl (g_k rfl rfl rfl rfl (g_pf rfl rfl rfl ?_)))))))
            refine g_mv rfl rfl (g_k rfl rfl rfl rfl (g_pf rfl rfl rfl (g_as rfl rfl (g_nil ?_))))
            obtain rfl := sj hm
            exact g_leaf () (trivial) (sE rfl) (hsE [0, 1, 2, 3, 4] [3, 4, 5, 6] 0 rfl rfl rfl rfl)
          ·replace hm := ifE h199 hm
           refine g_k rfl rfl rfl rfl (g_k rfl rfl rfl rfl (g_k rfl rfl rfl rfl (g_pf rfl rfl rfl (g_mv rfl rfl (g_k rfl rfl rfl rfl (g_k rfl rfl rfl rfl (g_k rfl rfl rfl rfl ?_)))))))
           refine g_pf rfl rfl rfl (g_mv rfl rfl (g_k rfl rfl rfl rfl (g_k rfl rfl rfl rfl (g_k rfl rfl rfl rfl (g_pf rfl rfl rfl (g_mv rfl rfl (g_k rfl rfl rfl rfl ?_)))))))
           refine g_k rfl rfl rfl rfl (g_k rfl rfl rfl rfl (g_pf rfl rfl rfl (g_mv rfl rfl (g_k rfl rfl rfl rfl (g_k rfl rfl rfl rfl (g_k rfl rfl rfl rfl (g_pf rfl rfl rfl ?_)))))))
           refine g_mv rfl rfl (g_k rfl rfl rfl rfl (g_k rfl rfl rfl rfl (g_k rfl rfl rfl rfl (g_pf rfl rfl rfl (g_mv rfl rfl (g_k rfl rfl rfl rfl (g_pf rfl rfl rfl ?_)))))))
           refine g_as rfl rfl (g_nil ?_)
           obtain rfl := sj hm
           exact g_leaf () (trivial) (sE rfl) (hsE [0, 1, 2, 3, 4] [3, 4, 5, 6] 0 rfl rfl rfl rfl)
         ·replace hm := ifE h198 hm
          refine g_k rfl rfl rfl rfl (g_k rfl rfl rfl rfl (g_k rfl rfl rfl rfl (g_pf rfl rfl rfl (g_mv rfl rfl (g_k rfl rfl rfl rfl (g_k rfl rfl rfl rfl (g_k rfl rfl rfl rfl ?_)))))))
          refine g_pf rfl rfl rfl (g_mv rfl rfl (g_k rfl rfl rfl rfl (g_k rfl rfl rfl rfl (g_k rfl rfl rfl rfl (g_pf rfl rfl rfl (g_mv rfl rfl (g_k rfl rfl rfl rfl ?_)))))))
          refine g_k rfl rfl rfl rfl (g_k rfl rfl rfl rfl (g_pf rfl rfl rfl (g_mv rfl rfl (g_k rfl rfl rfl rfl (g_k rfl rfl rfl rfl (g_k rfl rfl rfl rfl (g_pf rfl rfl rfl ?_)))))))
          refine g_mv rfl rfl (g_k rfl rfl rfl rfl (g_k rfl rfl rfl rfl (g_k rfl rfl rfl rfl (g_pf rfl rfl rfl (g_mv rfl rfl (g_k rfl rfl rfl rfl (g_k rfl rfl rfl rfl ?_)))))))
          refine g_k rfl rfl rfl rfl (g_pf rfl rfl rfl (g_mv rfl rfl (g_k rfl rfl rfl rfl (g_pf rfl rfl rfl (g_as rfl rfl (g_nil ?_))))))
          obtain rfl := sj hm
          exact g_leaf () (trivial) (sE rfl) (hsE [0, 1, 2, 3, 4] [3, 4, 5, 6] 0 rfl rfl rfl rfl)
        ·intro l_33 hj
         replace hm := h197
         refine g_n_then (g_ret ?_)
         obtain rfl := sj hm
         refine g_done rfl (fun w hh => (.tmp rfl .nil)) (fun w hh => ⟨(), rfl, trivial, hh.se [] [] 3 rfl rfl rfl rfl⟩)
end Go.Proofs.Ws

namespace Go.Proofs.Ws
open Go Go.Fw Go.Gx Go.Sp
set_option linter.unusedVariables false
def okE (s : Scalps) (t k : Nat) (n : Int) : Bool := decide (0 ≤ n ∧ n ≤ 60 ∧ (0 < n → reachB s.strips t k = true))
def rowV (row : List Int) (k : Nat) : Int := row.getD k 0
def rowB (s : Scalps) (t : Nat) (row : List Int) : Bool := decide (row.length = s.strips.length) && ((List.range s.strips.length).all (fun k => okE s t k (rowV row k)) && decide ((hOf s.carried t).lo ≤ sumTo (rowV row) s.strips.length ∧ sumTo (rowV row) s.strips.length ≤ (hOf s.carried t).hi))
def shV (rows : List (List Int)) (t k : Nat) : Int := rowV (rows.getD t []) k
def colB (s : Scalps) (rows : List (List Int)) (k : Nat) : Bool := decide ((gOf s.strips k).lo ≤ sumTo (fun t => shV rows t k) s.carried.length ∧ sumTo (fun t => shV rows t k) s.carried.length ≤ (gOf s.strips k).hi)
def fitsB (s : Scalps) (rows : List (List Int)) : Bool := decide (rows.length = s.carried.length) && ((List.range s.carried.length).all (fun t => rowB s t (rows.getD t [])) && (List.range s.strips.length).all (colB s rows))
theorem okE_iff {s : Scalps} {t k : Nat} {n : Int} : okE s t k n = true ↔ 0 ≤ n ∧ n ≤ 60 ∧ (0 < n → reachB s.strips t k = true) := decide_eq_true_iff
def vecS (S : Nat) (f : Nat → Int) : List Int := (List.range S).map f
theorem vecS_set {S k : Nat} {f : Nat → Int} {v : Int} : (vecS S f).set k v = vecS S fun i => if i = k then v else f i := range_set
theorem vecS_ix {S k : Nat} {f : Nat → Int} (h : k < S) : ix (vecS S f) (k : Int) = some (f k) := range_ix h
theorem vecS_len {S : Nat} {f : Nat → Int} : (vecS S f).length = S := by simp [vecS]
theorem vecS_congr {S : Nat} {f g : Nat → Int} (h : ∀ i, i < S → f i = g i) : vecS S f = vecS S g := List.map_congr_left fun i hi => h i (List.mem_range.1 hi)
theorem all_find {n : Nat} {p : Nat → Bool} : (List.range n).all p = ((List.range n).find? fun k => !p k).isNone := by
  rw [Bool.eq_iff_iff, List.all_eq_true, Option.isNone_iff_eq_none, List.find?_eq_none]
  constructor
  · intro h x hx; simp [h x hx]
  · intro h x hx; simpa using h x hx
end Go.Proofs.Ws

namespace Go.Proofs.Ws
open Go Go.Fw Go.Gx Go.Sp
set_option maxRecDepth 100000 in
theorem awake_eq : m_laurellaw09_awake = some true := by decide +kernel
end Go.Proofs.Ws

namespace Go.Proofs.Ws
open Go Go.Fw Go.Gx Go.Sp
set_option linter.unusedVariables false
theorem inb_nat {n : Nat} {t : Nat} : inb (t : Int) 0 ((n : Int) - 1) = decide (t < n) := by
  rw [Bool.eq_iff_iff, inb_iff, decide_eq_true_iff]; omega
theorem gone_at {s : Scalps} (h : Right s) {k : Nat} (hk : k < s.strips.length) : m_strip_Strip_gone (s.strips.getD k default) = some (gOf s.strips k) := by
  have hx : s.strips.getD k default = s.strips[k] := by simp [List.getD_eq_getElem?_getD, hk]
  obtain ⟨b1, b2, b3, b4⟩ := h.net.sp _ (List.getElem_mem hk)
  unfold gOf; rw [hx]; exact m_gone_eq b1 b2 b3
theorem Gone_spec {s : Scalps} (h : Right s) {k : Nat} (hk : k < s.strips.length) : m_strip_Gone s (k : Int) = some ⟨gOf s.strips k, 0⟩ := by
  obtain ⟨mp, hmp, hm⟩ := m_opened_right h
  have h6 := h.net.s6
  unfold m_strip_Gone
  rw [hmp, Option.bind_some, oc_inr, m_strip_eq (by omega), Option.bind_some, inb_nat, decide_eq_true hk]
  simp only [Bool.not_true, Bool.false_eq_true, if_false]
  rw [ix_nat default hk, Option.bind_some]
  have e := gone_at h hk
  generalize s.strips.getD k default = x at e
  show (m_strip_Strip_gone x).bind _ = _
  rw [e]; rfl
theorem iterL_app : ∀ (L acc : List Int), acc.length + L.length ≤ 100000 → iterL m_slices_AppendSeq_intint_2_F0 L acc = some (acc ++ L)
  | [], acc, _ => by simp [iterL]
  | x :: L, acc, h => by
    simp only [List.length_cons] at h
    unfold iterL
    have e : m_slices_AppendSeq_intint_2_F0 x acc = some (acc ++ [x]) := by
      unfold m_slices_AppendSeq_intint_2_F0
      rw [appc_eq (by simp only [List.length_cons, List.length_nil]; omega)]; rfl
    rw [e, Option.bind_some, iterL_app L _ (by simp only [List.length_append, List.length_cons, List.length_nil]; omega), List.append_assoc]
    rfl
theorem Reach_spec {s : Scalps} (h : Right s) {t : Nat} (ht : t < s.carried.length) : m_strip_Reach s (t : Int) = some ⟨0, filtL (reachB s.strips t) s.strips.length⟩ := by
  obtain ⟨mp, hmp, hm⟩ := m_opened_right h
  have h5 := h.net.c5; have h6 := h.net.s6
  unfold m_strip_Reach m_slices_Collect_int_1 m_slices_AppendSeq_intint_2 m_strip_desk_reach
  rw [hmp, Option.bind_some, oc_inr, m_tenant_eq (by omega), Option.bind_some, inb_nat, decide_eq_true ht]
  simp only [Bool.not_true, Bool.false_eq_true, if_false]
  have e : reachL s.strips.length mp (t : Int) = filtL (reachB s.strips t) s.strips.length := by
    rw [reachL_map]
    unfold filtL
    congr 1
    exact List.filter_congr fun k hk => rOf_reach hm (List.mem_range.1 hk)
  have hl := filtL_len (p := reachB s.strips t) (k := s.strips.length)
  rw [Option.bind_some, if_pos (by omega), e, iterL_app _ _ (by simp only [List.length_nil]; omega)]
  rfl
end Go.Proofs.Ws

namespace Go.Proofs.Ws
open Go Go.Fw Go.Gx Go.Sp
set_option linter.unusedVariables false
def slack (π : Int → Int) (s : List Int) : Int := sumTo (fun v => gI 0 s (v : Int) - π (v : Int)) 12
end Go.Proofs.Ws

namespace Go.Proofs.Ws
open Go Go.Fw Go.Gx Go.Sp
set_option linter.unusedVariables false
def rowOK (s : Scalps) (row : List Int) : Bool := decide (row.length = s.strips.length) && row.all fun n => inb n 0 60
def okC (s : Scalps) (t k : Nat) (n : Int) : Bool := !decide (0 < n) || reachB s.strips t k
def rowC (s : Scalps) (t : Nat) (row : List Int) : Bool := (List.range s.strips.length).all (fun k => okC s t k (rowV row k)) && decide ((hOf s.carried t).lo ≤ sumTo (rowV row) s.strips.length ∧ sumTo (rowV row) s.strips.length ≤ (hOf s.carried t).hi)
theorem row_at {row : List Int} {p : Int → Bool} : row.all p = (List.range row.length).all fun k => p (rowV row k) := by
  rw [Bool.eq_iff_iff, List.all_eq_true, List.all_eq_true]
  constructor
  · intro h k hk
    have hk' := List.mem_range.1 hk
    have e : rowV row k = row[k] := by simp [rowV, List.getD_eq_getElem?_getD, hk']
    rw [e]; exact h _ (List.getElem_mem hk')
  · intro h x hx
    obtain ⟨k, hk, rfl⟩ := List.getElem_of_mem hx
    have := h k (List.mem_range.2 hk)
    have e : rowV row k = row[k] := by simp [rowV, List.getD_eq_getElem?_getD, hk]
    rwa [e] at this
theorem rowB_split {s : Scalps} {t : Nat} {row : List Int} : rowB s t row = (rowOK s row && rowC s t row) := by
  unfold rowB rowOK rowC
  by_cases hl : row.length = s.strips.length
  · rw [decide_eq_true hl, Bool.true_and, Bool.true_and, row_at, hl, ← Bool.and_assoc]
    congr 1
    rw [Bool.eq_iff_iff, Bool.and_eq_true, List.all_eq_true, List.all_eq_true, List.all_eq_true]
    constructor
    · intro h
      refine ⟨fun k hk => ?_, fun k hk => ?_⟩
      · have := okE_iff.1 (h k hk); exact inb_iff.2 ⟨this.1, this.2.1⟩
      · have := okE_iff.1 (h k hk)
        unfold okC
        by_cases h0 : 0 < rowV row k
        · rw [this.2.2 h0]; simp
        · simp [h0]
    · rintro ⟨h1, h2⟩ k hk
      have a := inb_iff.1 (h1 k hk)
      have b := h2 k hk
      unfold okC at b
      refine okE_iff.2 ⟨a.1, a.2, fun h0 => ?_⟩
      rw [decide_eq_true h0] at b
      simpa using b
  · rw [decide_eq_false hl]; rfl
theorem m_rowOK {s : Scalps} (h6 : s.strips.length ≤ 1000) (row : List Int) : m_strip_Fits_1 row s.strips s.carried = some (rowOK s row) := by
  unfold m_strip_Fits_1 rowOK
  by_cases hl : row.length = s.strips.length
  · rw [if_pos (by omega), decide_eq_true hl, Bool.true_and]
    have := any_loop row 0 m_strip_every_int_1_4 (fun x => !inb x 0 60) (by omega) (fun x _ => by unfold m_strip_every_int_1_4 m_strip_Fits_1_1; rw [m_in_eq]; rfl) (f := m_slices_IndexFunc_intint_7_L0 row) (fun s => rfl)
    unfold m_strip_every_int_5 m_slices_ContainsFunc_intint_7 m_slices_IndexFunc_intint_7
    rw [this, Option.bind_some, not_any_not]; rfl
  · rw [if_neg (by omega), decide_eq_false hl]; rfl
theorem m_rowsOK {s : Scalps} (h6 : s.strips.length ≤ 1000) {rows : List (List Int)} (hl : rows.length ≤ 1000) : m_strip_every_int_4 rows s.strips s.carried = some (rows.all (rowOK s)) := by
  have := any_loop rows [] (fun x => m_strip_every_int_1_3 x s.strips s.carried) (fun x => !rowOK s x) (by omega) (fun x _ => by unfold m_strip_every_int_1_3; rw [m_rowOK h6]; rfl) (f := m_slices_IndexFunc_intint_6_L0 rows s.strips s.carried) (fun s => rfl)
  unfold m_strip_every_int_4 m_slices_ContainsFunc_intint_6 m_slices_IndexFunc_intint_6
  rw [this, Option.bind_some, not_any_not]
theorem Fits_L1 {s : Scalps} (h6 : s.strips.length ≤ 6) {mp : List (Pair × Bool)} (hm : MapOK s.strips mp) {t : Nat} {row : List Int} (hrow : rowOK s row = true) {f : Nat → Int} (hf : ∀ k, 0 ≤ f k ∧ f k ≤ 1000) {s0 : m_strip_Fits_S0} (hs0 : s0.t43 = (t : Int)) :
    iterM FU (m_strip_Fits_L1 row mp s0) ⟨0, 0, vecS s.strips.length f⟩ = some (if (List.range s.strips.length).all (fun k => okC s t k (rowV row k)) = true then .inl ⟨sumTo (rowV row) s.strips.length, vecS s.strips.length fun k => f k + rowV row k⟩ else .inr ⟨false, 0⟩) := by
  unfold rowOK at hrow
  rw [Bool.and_eq_true] at hrow
  have hlen := of_decide_eq_true hrow.1
  have hall := hrow.2
  rw [row_at, hlen, List.all_eq_true] at hall
  have hval : ∀ k, k < s.strips.length → 0 ≤ rowV row k ∧ rowV row k ≤ 60 := fun k hk => inb_iff.1 (hall k (List.mem_range.2 hk))
  have key := iterM_find (f := m_strip_Fits_L1 row mp s0) (fun k => ⟨sumTo (rowV row) k, (k : Int), vecS s.strips.length fun i => if i < k then f i + rowV row i else f i⟩) s.strips.length (fun k => !okC s t k (rowV row k)) (fun _ => .inr ⟨false, 0⟩) (.inl ⟨sumTo (rowV row) s.strips.length, vecS s.strips.length fun k => f k + rowV row k⟩) (fun k hk _ => ?_) ?_ (N := FU) (FU_lt (by omega))
  · have e : (⟨0, 0, vecS s.strips.length f⟩ : m_strip_Fits_S1) = ⟨sumTo (rowV row) 0, ((0 : Nat) : Int), vecS s.strips.length fun i => if i < 0 then f i + rowV row i else f i⟩ := by
      have : vecS s.strips.length f = vecS s.strips.length fun i => if i < 0 then f i + rowV row i else f i := vecS_congr fun i _ => by rw [if_neg (by omega)]
      rw [← this]; rfl
    rw [e, key, all_find]
    cases (List.range s.strips.length).find? (fun k => !okC s t k (rowV row k)) with
    | none => rfl
    | some k => rfl
  · unfold m_strip_Fits_L1
    have hlt : (k : Int) < (row.length : Int) := by omega
    have hb := sumTo_bound (f := rowV row) (b := 60) (n := k) (fun i hi => hval i (by omega))
    have hvk := hval k hk
    simp only
    rw [if_pos hlt, ix_nat 0 (by omega), Option.bind_some]
    have hc : (if 0 < row.getD k 0 then (some (!((aget mp (⟨s0.t43, (k : Int)⟩ : Pair)).getD false)) : Option Bool) else some false) = some (!okC s t k (rowV row k)) := by
      rw [hs0]
      have hro := rOf_reach hm hk (t := t)
      unfold rOf at hro
      rw [hro]
      unfold okC rowV
      by_cases h0 : 0 < row.getD k 0
      · rw [if_pos h0, decide_eq_true h0]; simp
      · rw [if_neg h0, decide_eq_false h0]; rfl
    rw [hc, Option.bind_some]
    cases hok : okC s t k (rowV row k) with
    | false => rfl
    | true =>
      have hfk := hf k
      simp only [Bool.not_true, Bool.false_eq_true, if_false]
      unfold rowV at hvk hb ⊢
      rw [addc_eq (by omega), Option.bind_some, vecS_ix hk, Option.bind_some, if_neg (Nat.lt_irrefl _), addc_eq (by omega), Option.bind_some, Option.bind_some, Option.bind_some, addc_eq (by omega), Option.bind_some, show Int.toNat (k : Int) = k by omega, vecS_set]
      congr 3
      refine vecS_congr fun i _ => ?_
      by_cases hik : i = k
      · subst hik; rw [if_pos rfl, if_pos (by omega)]
      · rw [if_neg hik]
        by_cases h2 : i < k
        · rw [if_pos h2, if_pos (by omega)]
        · rw [if_neg h2, if_neg (by omega)]
  · unfold m_strip_Fits_L1
    simp only
    rw [if_neg (by omega)]
    congr 3
    congr 1
    refine vecS_congr fun i hi => ?_
    rw [if_pos hi]
theorem Fits_L0 {s : Scalps} (h6 : s.strips.length ≤ 6) (h5 : s.carried.length ≤ 5) {mp : List (Pair × Bool)} (hm : MapOK s.strips mp) {rows : List (List Int)} (hrows : rows.length = s.carried.length) (hok : rows.all (rowOK s) = true) :
    iterM FU (m_strip_Fits_L0 rows mp s) ⟨0, vecS s.strips.length fun _ => 0⟩ = some (if (List.range s.carried.length).all (fun t => rowC s t (rows.getD t [])) = true then .inl (vecS s.strips.length fun k => sumTo (fun t => shV rows t k) s.carried.length) else .inr ⟨false, 0⟩) := by
  have hro : ∀ t, t < s.carried.length → rowOK s (rows.getD t []) = true := fun t ht => by
    have e : rows.getD t [] = rows[t] := by simp [List.getD_eq_getElem?_getD, hrows, ht]
    rw [e]
    exact List.all_eq_true.1 hok _ (List.getElem_mem _)
  have hval : ∀ t k, t < s.carried.length → k < s.strips.length → 0 ≤ shV rows t k ∧ shV rows t k ≤ 60 := fun t k ht hk => by
    have := hro t ht
    unfold rowOK at this
    rw [Bool.and_eq_true] at this
    have hle := of_decide_eq_true this.1
    have ha := this.2
    rw [row_at, hle, List.all_eq_true] at ha
    exact inb_iff.1 (ha k (List.mem_range.2 hk))
  have key := iterM_find (f := m_strip_Fits_L0 rows mp s) (fun t => ⟨(t : Int), vecS s.strips.length fun k => sumTo (fun t => shV rows t k) t⟩) s.carried.length (fun t => !rowC s t (rows.getD t [])) (fun _ => .inr ⟨false, 0⟩) (.inl (vecS s.strips.length fun k => sumTo (fun t => shV rows t k) s.carried.length)) (fun t ht _ => ?_) ?_ (N := FU) (FU_lt (by omega))
  · have e : (⟨0, vecS s.strips.length fun _ => 0⟩ : m_strip_Fits_S0) = ⟨((0 : Nat) : Int), vecS s.strips.length fun k => sumTo (fun t => shV rows t k) 0⟩ := rfl
    rw [e, key, all_find]
    cases (List.range s.carried.length).find? (fun t => !rowC s t (rows.getD t [])) with
    | none => rfl
    | some k => rfl
  · unfold m_strip_Fits_L0
    have hlt : (t : Int) < (rows.length : Int) := by omega
    simp only
    rw [if_pos hlt, ix_nat [] (by omega), Option.bind_some]
    have hbd : ∀ k, 0 ≤ (if k < s.strips.length then sumTo (fun t => shV rows t k) t else 0) ∧ (if k < s.strips.length then sumTo (fun t => shV rows t k) t else 0) ≤ 1000 := fun k => by
      by_cases hk : k < s.strips.length
      · rw [if_pos hk]
        have := sumTo_bound (f := fun t => shV rows t k) (b := 60) (n := t) (fun i hi => hval i k (by omega) hk)
        omega
      · rw [if_neg hk]; omega
    have hL := Fits_L1 h6 hm (t := t) (hro t ht) (f := fun k => if k < s.strips.length then sumTo (fun t => shV rows t k) t else 0) hbd (s0 := ⟨(t : Int), vecS s.strips.length fun k => sumTo (fun t => shV rows t k) t⟩) rfl
    rw [vecS_congr (f := fun k => if k < s.strips.length then sumTo (fun t => shV rows t k) t else 0) (g := fun k => sumTo (fun t => shV rows t k) t) (fun i hi => if_pos hi)] at hL
    rw [vecS_congr (f := fun k => (if k < s.strips.length then sumTo (fun t => shV rows t k) t else 0) + rowV (rows.getD t []) k) (g := fun k => sumTo (fun t => shV rows t k) (t + 1)) (fun i hi => by rw [if_pos hi]; rfl)] at hL
    rw [hL, Option.bind_some]
    unfold rowC
    by_cases hall : (List.range s.strips.length).all (fun k => okC s t k (rowV (rows.getD t []) k)) = true
    · rw [if_pos hall, oc_inl, hall, Bool.true_and]
      simp only
      rw [ix_nat default ht, Option.bind_some, Option.bind_some, m_in_eq, Option.bind_some]
      unfold hOf inb
      rw [← Bool.decide_and]
      split
      · rfl
      · rw [addc_eq (by omega), Option.bind_some]; rfl
    · have hf : (List.range s.strips.length).all (fun k => okC s t k (rowV (rows.getD t []) k)) = false := by simpa using hall
      rw [if_neg hall, oc_inr, hf]; rfl
  · unfold m_strip_Fits_L0
    simp only
    rw [if_neg (by omega)]
theorem Fits_spec {s : Scalps} (h : Right s) (rows : List (List Int)) : m_strip_Fits s rows = some ⟨fitsB s rows, 0⟩ := by
  obtain ⟨mp, hmp, hm⟩ := m_opened_right h
  have h6 := h.net.s6; have h5 := h.net.c5
  unfold m_strip_Fits fitsB
  rw [hmp, Option.bind_some, oc_inr]
  by_cases hl : rows.length = s.carried.length
  · rw [if_pos (by omega), m_rowsOK (by omega) (by omega), Option.bind_some, Option.bind_some, not_true_if, decide_eq_true hl, Bool.true_and]
    by_cases hok : rows.all (rowOK s) = true
    · rw [if_pos hok, makec_eq (by omega), Option.bind_some]
      have e : List.replicate (s.strips.length : Int).toNat (0 : Int) = vecS s.strips.length fun _ => 0 := by
        unfold vecS
        symm
        rw [List.eq_replicate_iff]
        exact ⟨by simp, fun b hb => by obtain ⟨t, _, rfl⟩ := List.mem_map.1 hb; rfl⟩
      rw [e, Fits_L0 h6 h5 hm hl hok, Option.bind_some]
      have hrc : (List.range s.carried.length).all (fun t => rowB s t (rows.getD t [])) = (List.range s.carried.length).all (fun t => rowC s t (rows.getD t [])) := by
        rw [Bool.eq_iff_iff, List.all_eq_true, List.all_eq_true]
        have hh : ∀ t, t ∈ List.range s.carried.length → rowB s t (rows.getD t []) = rowC s t (rows.getD t []) := fun t ht => by
          have ht' := List.mem_range.1 ht
          have e : rows.getD t [] = rows[t] := by simp [List.getD_eq_getElem?_getD, hl, ht']
          rw [rowB_split, e, List.all_eq_true.1 hok _ (List.getElem_mem _), Bool.true_and]
        exact ⟨fun h t ht => by rw [← hh t ht]; exact h t ht, fun h t ht => by rw [hh t ht]; exact h t ht⟩
      rw [hrc]
      by_cases hall : (List.range s.carried.length).all (fun t => rowC s t (rows.getD t [])) = true
      · rw [if_pos hall, oc_inl, hall, Bool.true_and]
        have key := iterM_any0 (f := m_strip_Fits_L2 (vecS s.strips.length fun k => sumTo (fun t => shV rows t k) s.carried.length) s) s.strips.length (fun k => !colB s rows k) (⟨false, 0⟩ : m_strip_Fits_R) (fun k hk => ?_) ?_ (N := FU) (FU_lt (by omega))
        · rw [key, Option.bind_some]
          have e2 : (List.range s.strips.length).all (colB s rows) = !(List.range s.strips.length).any fun k => !colB s rows k := (not_any_not).symm
          rw [e2]
          cases (List.range s.strips.length).any fun k => !colB s rows k <;> rfl
        · unfold m_strip_Fits_L2
          rw [vecS_len, if_pos (by omega), vecS_ix hk, Option.bind_some, ix_nat default hk, Option.bind_some]
          have e3 : m_strip_Strip_gone (⟨(s.strips.getD k default).tenant, ⟨(s.strips.getD k default).lay.lo, (s.strips.getD k default).lay.hi⟩, ⟨(s.strips.getD k default).seeded.lo, (s.strips.getD k default).seeded.hi⟩, ⟨(s.strips.getD k default).left.lo, (s.strips.getD k default).left.hi⟩⟩ : Strip) = some (gOf s.strips k) := gone_at h hk
          rw [e3, Option.bind_some, m_in_eq, Option.bind_some]
          unfold colB inb
          rw [← Bool.decide_and]
          split
          · rfl
          · rw [addc_eq (by omega), Option.bind_some]
        · unfold m_strip_Fits_L2
          rw [vecS_len, if_neg (by omega)]
      · have hf : (List.range s.carried.length).all (fun t => rowC s t (rows.getD t [])) = false := by simpa using hall
        rw [if_neg hall, oc_inr, hf]; rfl
    · rw [if_neg hok]
      have hf : (List.range s.carried.length).all (fun t => rowB s t (rows.getD t [])) = false := by
        rw [← Bool.not_eq_true, List.all_eq_true]
        intro hh
        apply hok
        rw [List.all_eq_true]
        intro x hx
        obtain ⟨t, ht, rfl⟩ := List.getElem_of_mem hx
        have := hh t (List.mem_range.2 (by omega))
        rw [rowB_split, Bool.and_eq_true] at this
        have e : rows.getD t [] = rows[t] := by simp [List.getD_eq_getElem?_getD, ht]
        rw [e] at this
        exact this.1
      rw [hf]; rfl
  · rw [if_neg (by omega), decide_eq_false hl, Option.bind_some]; rfl
theorem Fits_wrong {s : Scalps} (h : chk s ≠ 0) (rows : List (List Int)) : m_strip_Fits s rows = some ⟨false, chk s⟩ := by
  unfold m_strip_Fits
  rw [m_opened_wrong h]; rfl
end Go.Proofs.Ws

namespace Go.Proofs.Ws
open Go Go.Fw Go.Gx Go.Sp
set_option linter.unusedVariables false
def gtB (l : List Bool) (j : Nat) : Bool := l.getD j false
structure BookOK (P : Nat → Int → Prop) (N : Nat) (b : Book) : Prop where
  l1 : b.can.length = N
  l2 : b.least.length = N
  l3 : b.most.length = N
  can : ∀ a, a < N → (gtB b.can a = true ↔ ∃ v, P a v)
  bd : ∀ a v, a < N → P a v → gtI b.least a ≤ v ∧ v ≤ gtI b.most a
  ends : ∀ a, a < N → gtB b.can a = true → P a (gtI b.least a) ∧ P a (gtI b.most a)
theorem BookOK.congr {P P' : Nat → Int → Prop} {N : Nat} {b : Book} (h : BookOK P N b) (hp : ∀ a v, a < N → (P a v ↔ P' a v)) : BookOK P' N b :=
  ⟨h.l1, h.l2, h.l3, fun a ha => (h.can a ha).trans ⟨fun ⟨v, hv⟩ => ⟨v, (hp a v ha).1 hv⟩, fun ⟨v, hv⟩ => ⟨v, (hp a v ha).2 hv⟩⟩, fun a v ha hv => h.bd a v ha ((hp a v ha).2 hv), fun a ha hc => ⟨(hp a _ ha).1 (h.ends a ha hc).1, (hp a _ ha).1 (h.ends a ha hc).2⟩⟩
end Go.Proofs.Ws

namespace Go.Proofs.Ws
open Go Go.Fw Go.Gx Go.Sp
set_option linter.unusedVariables false
theorem refGone_eq {s : Scalps} (h : Right s) {k : Nat} (hk : k < s.strips.length) : m_laurelref09_Gone s (k : Int) = some (gOf s.strips k) := by
  have hx : s.strips.getD k default = s.strips[k] := by simp [List.getD_eq_getElem?_getD, hk]
  obtain ⟨b1, b2, b3, b4⟩ := h.net.sp _ (List.getElem_mem hk)
  unfold m_laurelref09_Gone gOf goneP
  unfold In30 at *
  rw [ix_nat default hk, Option.bind_some, hx, addc_eq (by omega), Option.bind_some, subc_eq (by omega), Option.bind_some, addc_eq (by omega), Option.bind_some, subc_eq (by omega), Option.bind_some]
theorem refReaches_eq {s : Scalps} (h6 : s.strips.length ≤ 1000) {t k : Nat} (hk : k < s.strips.length) : m_laurelref09_Reaches s (t : Int) (k : Int) = some (reachB s.strips t k) := by
  unfold m_laurelref09_Reaches
  rw [subc_eq (by omega), Option.bind_some]
  have hst : max (0 : Int) ((k : Int) - 1) = ((k - 1 : Nat) : Int) := by omega
  rw [hst]
  generalize hlo : k - 1 = lo
  have key := iterM_any (f := m_laurelref09_Reaches_L0 (k : Int) s (t : Int)) (lo : Int) (min (k + 1) (s.strips.length - 1) + 1 - lo) (fun j => decide ((s.strips.getD (lo + j) default).tenant = (t : Int))) (fun _ => true) (fun j hj => ?_) ?_ (N := FU) (FU_lt (by omega))
  · rw [key, Option.bind_some]
    have hany : reachB s.strips t k = ((List.range (min (k + 1) (s.strips.length - 1) + 1 - lo)).find? fun j => decide ((s.strips.getD (lo + j) default).tenant = (t : Int))).isSome := by
      unfold reachB
      rw [Bool.eq_iff_iff, List.any_eq_true, List.find?_isSome]
      constructor
      · rintro ⟨j, hj, hb⟩
        have hj' := List.mem_range.1 hj
        obtain ⟨b1, b2, b3⟩ := of_decide_eq_true hb
        refine ⟨j - lo, List.mem_range.2 (by omega), decide_eq_true ?_⟩
        rw [show lo + (j - lo) = j by omega]; exact b3
      · rintro ⟨j, hj, hb⟩
        have hj' := List.mem_range.1 hj
        exact ⟨lo + j, List.mem_range.2 (by omega), decide_eq_true ⟨by omega, by omega, of_decide_eq_true hb⟩⟩
    rw [hany]
    cases (List.range (min (k + 1) (s.strips.length - 1) + 1 - lo)).find? (fun j => decide ((s.strips.getD (lo + j) default).tenant = (t : Int))) <;> rfl
  · unfold m_laurelref09_Reaches_L0
    rw [addc_eq (by omega), Option.bind_some, subc_eq (by omega), Option.bind_some, if_pos (by omega), show (lo : Int) + (j : Int) = ((lo + j : Nat) : Int) by omega, ix_nat default (by omega), Option.bind_some]
    by_cases ht : (s.strips.getD (lo + j) default).tenant = (t : Int)
    · rw [if_pos ht, if_pos (decide_eq_true ht)]
    · rw [if_neg ht, if_neg (fun hh => ht (of_decide_eq_true hh)), addc_eq (by omega), Option.bind_some]
  · unfold m_laurelref09_Reaches_L0
    rw [addc_eq (by omega), Option.bind_some, subc_eq (by omega), Option.bind_some, if_neg (by omega)]
end Go.Proofs.Ws

namespace Go.Proofs.Ws
open Go Go.Fw Go.Gx Go.Sp
set_option linter.unusedVariables false
theorem refOff_eq (n lo hi : Int) : m_laurelref09_off n lo hi = some (!inb n lo hi) := by
  unfold m_laurelref09_off inb
  by_cases h : n < lo
  · rw [if_pos h, Option.bind_some, decide_eq_false (show ¬ lo ≤ n by omega)]; rfl
  · rw [if_neg h, Option.bind_some, decide_eq_true (show lo ≤ n by omega), Bool.true_and]
    by_cases h2 : n ≤ hi
    · rw [decide_eq_true h2, decide_eq_false (by omega)]; rfl
    · rw [decide_eq_false h2, decide_eq_true (by omega)]; rfl
theorem orO {b v : Bool} {o : Option Bool} (h : o = some v) : (if b = true then (some true : Option Bool) else o) = some (b || v) := by cases b <;> simp [h]
theorem refStrange_eq (x : Span) : m_laurelref09_strange x = some (!okSp x) := by
  unfold m_laurelref09_strange okSp
  rw [refOff_eq, Option.bind_some, refOff_eq, Option.bind_some, orO rfl, Option.bind_some]
  congr 1
  cases inb x.lo 0 30 <;> cases inb x.hi 0 30 <;> rfl
def tuB (x : Span) : Bool := decide (x.hi < x.lo)
theorem refTurned_eq (x : Span) : m_laurelref09_turned x = some (tuB x) := rfl
def badL (x : Strip) : Bool := !okSp x.lay || (!okSp x.seeded || !okSp x.left)
def badO (x : Strip) : Bool := tuB x.lay || (tuB x.seeded || tuB x.left)
def limA (s : Scalps) (j : Nat) : Bool := (s.carried.any fun x => !okSp x) || (s.strips.take j).any badL
def ordA (s : Scalps) (j : Nat) : Bool := s.carried.any tuB || (s.strips.take j).any badO
def misA (s : Scalps) (j : Nat) : Bool := (s.strips.take j).any fun x => !inb x.tenant 0 ((s.carried.length : Int) - 1)
def wrX (x : Strip) : Bool := decide (x.lay.hi + x.seeded.hi < x.left.lo)
def wrA (s : Scalps) : Nat → Bool
  | 0 => false
  | j + 1 => wrA s j || (!limA s (j + 1) && wrX (s.strips.getD j default))
theorem wrA_succ (s : Scalps) (j : Nat) : wrA s (j + 1) = (wrA s j || (!limA s (j + 1) && wrX (s.strips.getD j default))) := rfl
theorem take_any {α : Type} {l : List α} {p : α → Bool} (d : α) {j : Nat} (hj : j < l.length) : (l.take (j + 1)).any p = ((l.take j).any p || p (l.getD j d)) := by
  rw [List.take_succ_eq_append_getElem hj, List.any_append]
  simp [List.getD_eq_getElem?_getD, hj]
theorem limA_succ {s : Scalps} {j : Nat} (hj : j < s.strips.length) : limA s (j + 1) = (limA s j || badL (s.strips.getD j default)) := by
  unfold limA
  rw [take_any default hj, Bool.or_assoc]
theorem ordA_succ {s : Scalps} {j : Nat} (hj : j < s.strips.length) : ordA s (j + 1) = (ordA s j || badO (s.strips.getD j default)) := by
  unfold ordA
  rw [take_any default hj, Bool.or_assoc]
theorem misA_succ {s : Scalps} {j : Nat} (hj : j < s.strips.length) : misA s (j + 1) = (misA s j || !inb (s.strips.getD j default).tenant 0 ((s.carried.length : Int) - 1)) := by
  unfold misA
  rw [take_any default hj]
theorem limA_mono {s : Scalps} : ∀ {j k : Nat}, j ≤ k → k ≤ s.strips.length → limA s k = false → limA s j = false
  | j, 0, h, _, hk => by have : j = 0 := by omega
                         subst this; exact hk
  | j, k + 1, h, hl, hk => by
    by_cases he : j = k + 1
    · subst he; exact hk
    · rw [limA_succ (by omega)] at hk
      exact limA_mono (k := k) (by omega) (by omega) (Bool.or_eq_false_iff.1 hk).1
theorem refCheck_L0 {s : Scalps} (hT : s.carried.length ≤ 1000) : iterM FU (m_laurelref09_Check_L0 s) ⟨false, false, 0⟩ = some ⟨s.carried.any fun x => !okSp x, s.carried.any tuB⟩ := by
  have key := iterM_run (f := m_laurelref09_Check_L0 s) (fun j => ⟨(s.carried.take j).any fun x => !okSp x, (s.carried.take j).any tuB, (j : Int)⟩) s.carried.length (b := ⟨s.carried.any fun x => !okSp x, s.carried.any tuB⟩) (fun j hj => ?_) ?_ FU (FU_lt (by omega))
  · exact key
  · unfold m_laurelref09_Check_L0
    have hlt : (j : Int) < (s.carried.length : Int) := by omega
    simp only [hlt, if_true]
    rw [ix_nat default hj, Option.bind_some, refStrange_eq, Option.bind_some, orO rfl, Option.bind_some, take_any default hj, take_any default hj]
    cases (List.take j s.carried).any tuB with
    | true =>
      rw [if_pos rfl, Option.bind_some, addc_eq (by omega), Option.bind_some]
      rfl
    | false =>
      rw [if_neg (by simp), Option.bind_some, refTurned_eq, Option.bind_some, Option.bind_some, addc_eq (by omega), Option.bind_some]
      rfl
  · unfold m_laurelref09_Check_L0
    simp
theorem refCheck_L1 {s : Scalps} (hS : s.strips.length ≤ 1000) (hT : s.carried.length ≤ 1000) : iterM FU (m_laurelref09_Check_L1 s) ⟨limA s 0, ordA s 0, false, false, 0⟩ = some ⟨limA s s.strips.length, ordA s s.strips.length, misA s s.strips.length, wrA s s.strips.length⟩ := by
  have key := iterM_run (f := m_laurelref09_Check_L1 s) (fun j => ⟨limA s j, ordA s j, misA s j, wrA s j, (j : Int)⟩) s.strips.length (b := ⟨limA s s.strips.length, ordA s s.strips.length, misA s s.strips.length, wrA s s.strips.length⟩) (fun j hj => ?_) ?_ FU (FU_lt (by omega))
  · exact key
  · unfold m_laurelref09_Check_L1
    have hlt : (j : Int) < (s.strips.length : Int) := by omega
    simp only [hlt, if_true]
    rw [ix_nat default hj, Option.bind_some, refStrange_eq, Option.bind_some, refStrange_eq, Option.bind_some, refStrange_eq, Option.bind_some, orO (orO (orO rfl)), Option.bind_some, refTurned_eq, Option.bind_some, refTurned_eq, Option.bind_some, refTurned_eq, Option.bind_some, orO (orO (orO rfl)), Option.bind_some, subc_eq (by omega), Option.bind_some, refOff_eq, Option.bind_some, orO rfl, Option.bind_some]
    have h1 : (limA s j || (!okSp (s.strips.getD j default).lay || (!okSp (s.strips.getD j default).seeded || !okSp (s.strips.getD j default).left))) = limA s (j + 1) := (limA_succ hj).symm
    have h2 : (ordA s j || (tuB (s.strips.getD j default).lay || (tuB (s.strips.getD j default).seeded || tuB (s.strips.getD j default).left))) = ordA s (j + 1) := (ordA_succ hj).symm
    have h3 : (misA s j || !inb (s.strips.getD j default).tenant 0 ((s.carried.length : Int) - 1)) = misA s (j + 1) := (misA_succ hj).symm
    have e : (if wrA s j = true then (some ⟨limA s (j + 1), ordA s (j + 1), misA s (j + 1), true⟩ : Option m_laurelref09_Check_C5) else if (!limA s (j + 1)) = true then (addc (s.strips.getD j default).lay.hi (s.strips.getD j default).seeded.hi).bind fun t110 => some ⟨limA s (j + 1), ordA s (j + 1), misA s (j + 1), decide (t110 < (s.strips.getD j default).left.lo)⟩ else some ⟨limA s (j + 1), ordA s (j + 1), misA s (j + 1), false⟩) = some ⟨limA s (j + 1), ordA s (j + 1), misA s (j + 1), wrA s (j + 1)⟩ := by
      rw [wrA_succ]
      cases hw : wrA s j with
      | true => rfl
      | false =>
        rw [if_neg (by simp), Bool.false_or]
        cases hl : limA s (j + 1) with
        | true => rfl
        | false =>
          rw [limA_succ hj] at hl
          have hb := (Bool.or_eq_false_iff.1 hl).2
          unfold badL at hb
          obtain ⟨b1, b2⟩ := Bool.or_eq_false_iff.1 hb
          obtain ⟨b2, b3⟩ := Bool.or_eq_false_iff.1 b2
          have c1 := okSp_iff.1 (by rw [Bool.not_eq_false'] at b1; exact b1)
          have c2 := okSp_iff.1 (by rw [Bool.not_eq_false'] at b2; exact b2)
          unfold In30 at c1 c2
          rw [if_pos (by simp), addc_eq (by omega), Option.bind_some]
          rfl
    have e2 : ∀ (a b c : Bool), a = limA s (j + 1) → b = ordA s (j + 1) → c = misA s (j + 1) → ((if wrA s j = true then (some ⟨a, b, c, true⟩ : Option m_laurelref09_Check_C5) else if (!a) = true then (addc (s.strips.getD j default).lay.hi (s.strips.getD j default).seeded.hi).bind fun t110 => some ⟨a, b, c, decide (t110 < (s.strips.getD j default).left.lo)⟩ else some ⟨a, b, c, false⟩).bind fun o_5 => (addc (j : Int) 1).bind fun t51 => some (.inl (⟨o_5.limit3, o_5.order4, o_5.missing5, o_5.wrong6, t51⟩ : m_laurelref09_Check_S1))) = (some (.inl (⟨limA s (j + 1), ordA s (j + 1), misA s (j + 1), wrA s (j + 1), ((j + 1 : Nat) : Int)⟩ : m_laurelref09_Check_S1)) : Option (m_laurelref09_Check_S1 ⊕ m_laurelref09_Check_C4)) := by
      rintro a b c rfl rfl rfl
      rw [e, Option.bind_some, addc_eq (by omega), Option.bind_some]
      rfl
    exact e2 _ _ _ h1 h2 h3
  · unfold m_laurelref09_Check_L1
    simp
theorem limA_end {s : Scalps} : limA s s.strips.length = !(spansOf s).all okSp := by
  unfold limA spansOf
  rw [List.take_length, List.all_append, List.all_flatMap, Bool.not_and, List.not_all_eq_any_not, List.not_all_eq_any_not]
  congr 2
  funext x
  unfold badL
  simp only [List.all_cons, List.all_nil, Bool.and_true]
  cases okSp x.lay <;> cases okSp x.seeded <;> cases okSp x.left <;> rfl
theorem tuB_not (x : Span) : tuB x = !decide (x.lo ≤ x.hi) := by
  unfold tuB
  by_cases h : x.lo ≤ x.hi
  · rw [decide_eq_true h, decide_eq_false (by omega)]; rfl
  · rw [decide_eq_false h, decide_eq_true (by omega)]; rfl
theorem ordA_end {s : Scalps} : ordA s s.strips.length = !(spansOf s).all fun x => decide (x.lo ≤ x.hi) := by
  unfold ordA spansOf
  rw [List.take_length, List.all_append, List.all_flatMap, Bool.not_and, List.not_all_eq_any_not, List.not_all_eq_any_not]
  have e : (fun x : Span => !decide (x.lo ≤ x.hi)) = tuB := by funext x; exact (tuB_not x).symm
  rw [e]
  congr 2
  funext x
  unfold badO
  rw [tuB_not, tuB_not, tuB_not]
  simp only [List.all_cons, List.all_nil, Bool.and_true]
  cases decide (x.lay.lo ≤ x.lay.hi) <;> cases decide (x.seeded.lo ≤ x.seeded.hi) <;> cases decide (x.left.lo ≤ x.left.hi) <;> rfl
theorem misA_end {s : Scalps} : misA s s.strips.length = !(s.strips.all fun x => inb x.tenant 0 ((s.carried.length : Int) - 1)) := by
  unfold misA
  rw [List.take_length, List.not_all_eq_any_not]
theorem wrA_eq {s : Scalps} (hl : limA s s.strips.length = false) : ∀ j, j ≤ s.strips.length → wrA s j = (s.strips.take j).any wrX
  | 0, _ => rfl
  | j + 1, hj => by
    rw [wrA_succ, wrA_eq hl j (by omega), limA_mono hj (Nat.le_refl _) hl, take_any default (by omega)]
    rfl
theorem wrA_end {s : Scalps} (hl : limA s s.strips.length = false) : wrA s s.strips.length = !(s.strips.all fun x => decide (0 ≤ (goneP x).hi)) := by
  rw [wrA_eq hl _ (Nat.le_refl _), List.take_length, List.not_all_eq_any_not]
  congr 1
  funext x
  unfold wrX goneP
  simp only
  by_cases h : x.lay.hi + x.seeded.hi < x.left.lo
  · rw [decide_eq_true h, decide_eq_false (by omega)]; rfl
  · rw [decide_eq_false h, decide_eq_true (by omega)]; rfl
theorem refCheck_eq {s : Scalps} (hS : s.strips.length ≤ 1000) (hT : s.carried.length ≤ 1000) : m_laurelref09_Check s = some (chk s) := by
  unfold m_laurelref09_Check chk
  rw [refOff_eq, Option.bind_some, refOff_eq, Option.bind_some, orO rfl, Option.bind_some]
  by_cases hin : inb (s.strips.length : Int) 1 6 = true ∧ inb (s.carried.length : Int) 1 5 = true
  · rw [if_pos hin, hin.1, hin.2, if_neg (by simp), refCheck_L0 hT, Option.bind_some]
    have e : (⟨s.carried.any fun x => !okSp x, s.carried.any tuB, false, false, 0⟩ : m_laurelref09_Check_S1) = ⟨limA s 0, ordA s 0, false, false, 0⟩ := by
      simp [limA, ordA]
    dsimp only
    rw [e, refCheck_L1 hS hT, Option.bind_some]
    dsimp only
    rw [limA_end, misA_end, ordA_end]
    cases h1 : (spansOf s).all okSp with
    | false => rfl
    | true =>
      rw [if_neg (by simp), if_pos rfl, wrA_end (by rw [limA_end, h1]; rfl)]
      cases (s.strips.all fun x => inb x.tenant 0 ((s.carried.length : Int) - 1)) <;> cases ((spansOf s).all fun x => decide (x.lo ≤ x.hi)) <;> cases (s.strips.all fun x => decide (0 ≤ (goneP x).hi)) <;> rfl
  · rw [if_neg hin, if_pos]
    cases h1 : inb (s.strips.length : Int) 1 6 with
    | false => rfl
    | true =>
      cases h2 : inb (s.carried.length : Int) 1 5 with
      | false => rfl
      | true => exact absurd ⟨h1, h2⟩ hin
theorem own_eq {s : Scalps} (hS : s.strips.length ≤ 1000) (hT : s.carried.length ≤ 1000) : m_laurellaw09_Own s = some s := by
  unfold m_laurellaw09_Own m_laurelkit_Dup_stripStrip m_laurelkit_Dup_apiSpan
  rw [makec_eq ⟨by omega, by omega, by omega, by omega⟩, Option.bind_some, appc_eq (by simp; omega), Option.bind_some, Option.bind_some, makec_eq ⟨by omega, by omega, by omega, by omega⟩, Option.bind_some, appc_eq (by simp; omega), Option.bind_some, Option.bind_some]
  simp
theorem theirs_eq {s : Scalps} (hS : s.strips.length ≤ 1000) (hT : s.carried.length ≤ 1000) : m_laurellaw09_theirs s = some s := by
  unfold m_laurellaw09_theirs m_laurelkit_Dup_apiSpan
  rw [makec_eq ⟨by omega, by omega, by omega, by omega⟩, Option.bind_some, appc_eq (by simp; omega), Option.bind_some, Option.bind_some]
  have key := iterM_run (f := m_laurellaw09_theirs_L0 s) (fun j => ⟨(j : Int), s.strips.take j⟩) s.strips.length (b := s.strips) (fun j hj => ?_) ?_ FU (FU_lt (by omega))
  · have e : (⟨0, []⟩ : m_laurellaw09_theirs_S0) = ⟨((0 : Nat) : Int), s.strips.take 0⟩ := rfl
    rw [e, key, Option.bind_some]
    simp
  · unfold m_laurellaw09_theirs_L0
    have hlt : (j : Int) < (s.strips.length : Int) := by omega
    simp only [hlt, if_true]
    rw [ix_nat default hj, Option.bind_some, appc_eq (by simp [List.length_take]; omega), Option.bind_some, addc_eq (by omega), Option.bind_some]
    have e : s.strips.take (j + 1) = s.strips.take j ++ [s.strips.getD j default] := by
      rw [List.take_succ_eq_append_getElem hj]
      simp [List.getD_eq_getElem?_getD, hj]
    rw [e]
    rfl
  · unfold m_laurellaw09_theirs_L0
    simp
theorem eqStrip {l : List Strip} (h : l.length ≤ 1000) : m_laurelkit_Eq_stripStrip l l = some true := by
  unfold m_laurelkit_Eq_stripStrip m_slices_Equal_stripStripstripStrip
  rw [if_pos rfl]
  have key := iterM_any0 (f := m_slices_Equal_stripStripstripStrip_L0 l l) l.length (fun _ => false) false (fun k hk => ?_) ?_ (N := FU) (FU_lt (by omega))
  · rw [key]
    have : (List.range l.length).any (fun _ => false) = false := by simp
    rw [this]; rfl
  · unfold m_slices_Equal_stripStripstripStrip_L0
    rw [if_pos (by omega), ix_nat default hk, Option.bind_some, Option.bind_some, if_pos rfl, addc_eq (by omega), Option.bind_some]
    rfl
  · unfold m_slices_Equal_stripStripstripStrip_L0
    rw [if_neg (by omega)]
theorem eqSpan {l : List Span} (h : l.length ≤ 1000) : m_laurelkit_Eq_apiSpan l l = some true := by
  unfold m_laurelkit_Eq_apiSpan m_slices_Equal_apiSpanapiSpan
  rw [if_pos rfl]
  have key := iterM_any0 (f := m_slices_Equal_apiSpanapiSpan_L0 l l) l.length (fun _ => false) false (fun k hk => ?_) ?_ (N := FU) (FU_lt (by omega))
  · rw [key]
    have : (List.range l.length).any (fun _ => false) = false := by simp
    rw [this]; rfl
  · unfold m_slices_Equal_apiSpanapiSpan_L0
    rw [if_pos (by omega), ix_nat default hk, Option.bind_some, Option.bind_some, if_pos rfl, addc_eq (by omega), Option.bind_some]
    rfl
  · unfold m_slices_Equal_apiSpanapiSpan_L0
    rw [if_neg (by omega)]
theorem same_self {s : Scalps} (hS : s.strips.length ≤ 1000) (hT : s.carried.length ≤ 1000) : m_laurellaw09_same s s = some true := by
  unfold m_laurellaw09_same
  rw [eqStrip hS, Option.bind_some, if_pos rfl, eqSpan hT]; rfl
end Go.Proofs.Ws

namespace Go.Proofs.Ws
open Go Go.Fw Go.Gx Go.Sp
set_option linter.unusedVariables false
def okR (s : Scalps) (t k : Nat) (n : Int) : Bool := decide (0 ≤ n ∧ n ≤ 100 ∧ (0 < n → reachB s.strips t k = true))
theorem okR_iff {s : Scalps} {t k : Nat} {n : Int} : okR s t k n = true ↔ 0 ≤ n ∧ n ≤ 100 ∧ (0 < n → reachB s.strips t k = true) := decide_eq_true_iff
def rowR (s : Scalps) (t : Nat) (row : List Int) : Bool := decide (row.length = s.strips.length) && ((List.range s.strips.length).all (fun k => okR s t k (rowV row k)) && decide ((hOf s.carried t).lo ≤ sumTo (rowV row) s.strips.length ∧ sumTo (rowV row) s.strips.length ≤ (hOf s.carried t).hi))
theorem rowR_eq {s : Scalps} (h : Right s) {t : Nat} (ht : t < s.carried.length) (row : List Int) : rowR s t row = rowB s t row := by
  rw [Bool.eq_iff_iff]
  unfold rowR rowB
  rw [Bool.and_eq_true, Bool.and_eq_true, Bool.and_eq_true, Bool.and_eq_true, List.all_eq_true, List.all_eq_true, decide_eq_true_iff, decide_eq_true_iff]
  have hh := hOf_ok h.net ht
  constructor
  · rintro ⟨a, b, c⟩
    refine ⟨a, fun k hk => ?_, c⟩
    have hb : ∀ i, i < s.strips.length → 0 ≤ rowV row i := fun i hi => (okR_iff.1 (b i (List.mem_range.2 hi))).1
    have hk' := List.mem_range.1 hk
    have h1 := sumTo_mem_le (f := rowV row) hb hk'
    have h2 := okR_iff.1 (b k hk)
    exact okE_iff.2 ⟨h2.1, by omega, h2.2.2⟩
  · rintro ⟨a, b, c⟩
    refine ⟨a, fun k hk => ?_, c⟩
    have h2 := okE_iff.1 (b k hk)
    exact okR_iff.2 ⟨h2.1, by omega, h2.2.2⟩
theorem offR {s : Scalps} (h6 : s.strips.length ≤ 1000) {t k : Nat} (hk : k < s.strips.length) (n : Int) {z : Int} (hz : z = (t : Int)) : ((m_laurelref09_off n 0 100).bind fun t51 => if t51 = true then (some true : Option Bool) else if 0 < n then (m_laurelref09_Reaches s z (k : Int)).bind fun t59 => some (!t59) else some false) = some (!okR s t k n) := by
  rw [refOff_eq, Option.bind_some, hz, refReaches_eq h6 hk, Option.bind_some]
  unfold inb
  by_cases h1 : 0 ≤ n
  · by_cases h2 : n ≤ 100
    · rw [decide_eq_true h1, decide_eq_true h2, if_neg (by simp)]
      by_cases h3 : 0 < n
      · rw [if_pos h3]
        have : okR s t k n = reachB s.strips t k := by
          rw [Bool.eq_iff_iff, okR_iff]
          exact ⟨fun h => h.2.2 h3, fun h => ⟨by omega, by omega, fun _ => h⟩⟩
        rw [this]
      · rw [if_neg h3]
        have : okR s t k n = true := okR_iff.2 ⟨by omega, by omega, fun h => absurd h h3⟩
        rw [this]; rfl
    · rw [decide_eq_false h2, Bool.and_false, if_pos (show (!false) = true from rfl)]
      have : okR s t k n = false := by rw [← Bool.not_eq_true, okR_iff]; omega
      rw [this]; rfl
  · rw [decide_eq_false h1, Bool.false_and, if_pos (show (!false) = true from rfl)]
    have : okR s t k n = false := by rw [← Bool.not_eq_true, okR_iff]; omega
    rw [this]; rfl
theorem refFits_L1 {s : Scalps} (h6 : s.strips.length ≤ 6) {rows : List (List Int)} {t : Nat} (htr : t < rows.length) {row : List Int} (hr : rows.getD t [] = row) (hrow : row.length = s.strips.length) {f : Nat → Int} (hf : ∀ k, 0 ≤ f k ∧ f k ≤ 1000) {s0 : m_laurelref09_Fits_S0} (hs0 : s0.t6 = (t : Int)) :
    iterM FU (m_laurelref09_Fits_L1 rows s0 s) ⟨0, 0, vecS s.strips.length f⟩ = some (if (List.range s.strips.length).all (fun k => okR s t k (rowV row k)) = true then .inl ⟨sumTo (rowV row) s.strips.length, vecS s.strips.length fun k => f k + rowV row k⟩ else .inr false) := by
  have key := iterM_find (f := m_laurelref09_Fits_L1 rows s0 s) (fun k => ⟨sumTo (rowV row) k, (k : Int), vecS s.strips.length fun i => if i < k then f i + rowV row i else f i⟩) s.strips.length (fun k => !okR s t k (rowV row k)) (fun _ => .inr false) (.inl ⟨sumTo (rowV row) s.strips.length, vecS s.strips.length fun k => f k + rowV row k⟩) (fun k hk hprev => ?_) ?_ (N := FU) (FU_lt (by omega))
  · have e : (⟨0, 0, vecS s.strips.length f⟩ : m_laurelref09_Fits_S1) = ⟨sumTo (rowV row) 0, ((0 : Nat) : Int), vecS s.strips.length fun i => if i < 0 then f i + rowV row i else f i⟩ := by
      have : vecS s.strips.length f = vecS s.strips.length fun i => if i < 0 then f i + rowV row i else f i := vecS_congr fun i _ => by rw [if_neg (by omega)]
      rw [← this]; rfl
    rw [e, key, all_find]
    cases (List.range s.strips.length).find? (fun k => !okR s t k (rowV row k)) with
    | none => rfl
    | some k => rfl
  · unfold m_laurelref09_Fits_L1
    have hb : ∀ n, n ≤ k → 0 ≤ sumTo (rowV row) n ∧ sumTo (rowV row) n ≤ 100 * (n : Int) := fun n hn => sumTo_bound (f := rowV row) (b := 100) fun i hi => by
      have := hprev i (by omega)
      rw [Bool.not_eq_false'] at this
      have := okR_iff.1 this
      omega
    have hbk := hb k (Nat.le_refl _)
    simp only
    rw [vecS_len, if_pos (by omega), hs0, ix_nat [] htr, Option.bind_some, hr, ix_nat 0 (by omega), Option.bind_some, offR (by omega) hk _ rfl, Option.bind_some]
    have hv : row.getD k 0 = rowV row k := rfl
    rw [hv]
    cases hok : okR s t k (rowV row k) with
    | false => rfl
    | true =>
      have hok' := okR_iff.1 hok
      have hfk := hf k
      simp only [Bool.not_true, Bool.false_eq_true, if_false]
      rw [addc_eq (by omega), Option.bind_some, vecS_ix hk, Option.bind_some, if_neg (Nat.lt_irrefl _), addc_eq (by omega), Option.bind_some, Option.bind_some, Option.bind_some, addc_eq (by omega), Option.bind_some, show Int.toNat (k : Int) = k by omega, vecS_set]
      congr 3
      refine vecS_congr fun i _ => ?_
      by_cases hik : i = k
      · subst hik; rw [if_pos rfl, if_pos (by omega)]
      · rw [if_neg hik]
        by_cases h2 : i < k
        · rw [if_pos h2, if_pos (by omega)]
        · rw [if_neg h2, if_neg (by omega)]
  · unfold m_laurelref09_Fits_L1
    simp only
    rw [vecS_len, if_neg (by omega)]
    congr 3
    congr 1
    refine vecS_congr fun i hi => ?_
    rw [if_pos hi]
theorem refFits_L0 {s : Scalps} (h6 : s.strips.length ≤ 6) (h5 : s.carried.length ≤ 5) {rows : List (List Int)} (hrows : rows.length = s.carried.length) :
    iterM FU (m_laurelref09_Fits_L0 rows s) ⟨0, vecS s.strips.length fun _ => 0⟩ = some (if (List.range s.carried.length).all (fun t => rowR s t (rows.getD t [])) = true then .inl (vecS s.strips.length fun k => sumTo (fun t => shV rows t k) s.carried.length) else .inr false) := by
  have key := iterM_find (f := m_laurelref09_Fits_L0 rows s) (fun t => ⟨(t : Int), vecS s.strips.length fun k => sumTo (fun t => shV rows t k) t⟩) s.carried.length (fun t => !rowR s t (rows.getD t [])) (fun _ => .inr false) (.inl (vecS s.strips.length fun k => sumTo (fun t => shV rows t k) s.carried.length)) (fun t ht hprev => ?_) ?_ (N := FU) (FU_lt (by omega))
  · have e : (⟨0, vecS s.strips.length fun _ => 0⟩ : m_laurelref09_Fits_S0) = ⟨((0 : Nat) : Int), vecS s.strips.length fun k => sumTo (fun t => shV rows t k) 0⟩ := rfl
    rw [e, key, all_find]
    cases (List.range s.carried.length).find? (fun t => !rowR s t (rows.getD t [])) with
    | none => rfl
    | some k => rfl
  · unfold m_laurelref09_Fits_L0
    have hlt : (t : Int) < (rows.length : Int) := by omega
    simp only
    rw [if_pos hlt, ix_nat [] (by omega), Option.bind_some]
    by_cases hlen : (rows.getD t []).length = s.strips.length
    · rw [if_pos (by omega)]
      have hbd : ∀ k, 0 ≤ (if k < s.strips.length then sumTo (fun t => shV rows t k) t else 0) ∧ (if k < s.strips.length then sumTo (fun t => shV rows t k) t else 0) ≤ 1000 := fun k => by
        by_cases hk : k < s.strips.length
        · rw [if_pos hk]
          have := sumTo_bound (f := fun t => shV rows t k) (b := 100) (n := t) (fun i hi => by
            have := hprev i hi
            rw [Bool.not_eq_false'] at this
            unfold rowR at this
            rw [Bool.and_eq_true, Bool.and_eq_true] at this
            have := okR_iff.1 (List.all_eq_true.1 this.2.1 k (List.mem_range.2 hk))
            unfold shV
            omega)
          omega
        · rw [if_neg hk]; omega
      have hL := refFits_L1 h6 (rows := rows) (t := t) (by omega) rfl hlen (f := fun k => if k < s.strips.length then sumTo (fun t => shV rows t k) t else 0) hbd (s0 := ⟨(t : Int), vecS s.strips.length fun k => sumTo (fun t => shV rows t k) t⟩) rfl
      rw [vecS_congr (f := fun k => if k < s.strips.length then sumTo (fun t => shV rows t k) t else 0) (g := fun k => sumTo (fun t => shV rows t k) t) (fun i hi => if_pos hi)] at hL
      rw [vecS_congr (f := fun k => (if k < s.strips.length then sumTo (fun t => shV rows t k) t else 0) + rowV (rows.getD t []) k) (g := fun k => sumTo (fun t => shV rows t k) (t + 1)) (fun i hi => by rw [if_pos hi]; rfl)] at hL
      rw [hL, Option.bind_some]
      unfold rowR
      rw [decide_eq_true hlen, Bool.true_and]
      by_cases hall : (List.range s.strips.length).all (fun k => okR s t k (rowV (rows.getD t []) k)) = true
      · rw [if_pos hall, oc_inl, hall, Bool.true_and]
        simp only
        have hca : ix s.carried (t : Int) = some (hOf s.carried t) := ix_nat default ht
        rw [hca, Option.bind_some, Option.bind_some, refOff_eq, Option.bind_some]
        have e9 : inb (sumTo (rowV (rows.getD t [])) s.strips.length) (hOf s.carried t).lo (hOf s.carried t).hi = decide ((hOf s.carried t).lo ≤ sumTo (rowV (rows.getD t [])) s.strips.length ∧ sumTo (rowV (rows.getD t [])) s.strips.length ≤ (hOf s.carried t).hi) := by
          unfold inb; rw [Bool.decide_and]
        rw [e9]
        cases decide ((hOf s.carried t).lo ≤ sumTo (rowV (rows.getD t [])) s.strips.length ∧ sumTo (rowV (rows.getD t [])) s.strips.length ≤ (hOf s.carried t).hi) with
        | false => rfl
        | true => rw [if_neg (by simp), addc_eq (by omega), Option.bind_some]; rfl
      · have hf : (List.range s.strips.length).all (fun k => okR s t k (rowV (rows.getD t []) k)) = false := by simpa using hall
        rw [if_neg hall, oc_inr, hf]; rfl
    · rw [if_neg (by omega)]
      unfold rowR
      rw [decide_eq_false hlen]; rfl
  · unfold m_laurelref09_Fits_L0
    simp only
    rw [if_neg (by omega)]
theorem refFits_eq {s : Scalps} (h : Right s) (rows : List (List Int)) : m_laurelref09_Fits s rows = some (fitsB s rows) := by
  have h6 := h.net.s6; have h5 := h.net.c5
  have hrr : (List.range s.carried.length).all (fun t => rowR s t (rows.getD t [])) = (List.range s.carried.length).all (fun t => rowB s t (rows.getD t [])) := by
    rw [Bool.eq_iff_iff, List.all_eq_true, List.all_eq_true]
    exact ⟨fun a t ht => by rw [← rowR_eq h (List.mem_range.1 ht)]; exact a t ht, fun a t ht => by rw [rowR_eq h (List.mem_range.1 ht)]; exact a t ht⟩
  unfold m_laurelref09_Fits fitsB
  rw [← hrr]
  by_cases hl : rows.length = s.carried.length
  · rw [if_pos (by omega), makec_eq (by omega), Option.bind_some, decide_eq_true hl, Bool.true_and]
    have e : List.replicate (s.strips.length : Int).toNat (0 : Int) = vecS s.strips.length fun _ => 0 := by
      unfold vecS
      symm
      rw [List.eq_replicate_iff]
      exact ⟨by simp, fun b hb => by obtain ⟨t, _, rfl⟩ := List.mem_map.1 hb; rfl⟩
    rw [e, refFits_L0 h6 h5 hl, Option.bind_some]
    by_cases hall : (List.range s.carried.length).all (fun t => rowR s t (rows.getD t [])) = true
    · rw [if_pos hall, oc_inl, hall, Bool.true_and]
      have key := iterM_any0 (f := m_laurelref09_Fits_L2 (vecS s.strips.length fun k => sumTo (fun t => shV rows t k) s.carried.length) s) s.strips.length (fun k => !colB s rows k) false (fun k hk => ?_) ?_ (N := FU) (FU_lt (by omega))
      · rw [key, Option.bind_some]
        have e2 : (List.range s.strips.length).all (colB s rows) = !(List.range s.strips.length).any fun k => !colB s rows k := (not_any_not).symm
        rw [e2]
        cases (List.range s.strips.length).any fun k => !colB s rows k <;> rfl
      · unfold m_laurelref09_Fits_L2
        rw [vecS_len, if_pos (by omega), refGone_eq h hk, Option.bind_some, vecS_ix hk, Option.bind_some, refOff_eq, Option.bind_some]
        have e9 : inb (sumTo (fun t => shV rows t k) s.carried.length) (gOf s.strips k).lo (gOf s.strips k).hi = colB s rows k := by
          unfold inb colB; rw [Bool.decide_and]
        rw [e9]
        cases colB s rows k with
        | false => rfl
        | true => rw [if_neg (by simp), addc_eq (by omega), Option.bind_some]; rfl
      · unfold m_laurelref09_Fits_L2
        rw [vecS_len, if_neg (by omega)]
    · have hf : (List.range s.carried.length).all (fun t => rowR s t (rows.getD t [])) = false := by simpa using hall
      rw [if_neg hall, oc_inr, hf]; rfl
  · rw [if_neg (by omega), decide_eq_false hl]; rfl
end Go.Proofs.Ws

namespace Go.Proofs.Ws
open Go Go.Fw Go.Gx Go.Sp
set_option linter.unusedVariables false
theorem eq_loop {n : Nat} (hl : n ≤ 1000) {f : Int → Option (Int ⊕ (Unit ⊕ Bool))} (h1 : ∀ k : Nat, k < n → f (k : Int) = some (.inl ((k : Int) + 1))) (h2 : f (n : Int) = some (.inr (.inl ()))) : iterM FU f 0 = some (.inl ()) := by
  have key := iterM_any0 (f := f) n (fun _ => false) false (fun k hk => by rw [h1 k hk]; rfl) h2 (N := FU) (FU_lt (by omega))
  rw [key]
  have : (List.range n).any (fun _ => false) = false := by simp
  rw [this]; rfl
def outB (n : Int) (l : Nat) : Bool := decide (n < 0 ∨ (l : Int) ≤ n)
theorem outB_not {n : Int} {l : Nat} (h : outB n l = false) : ∃ k : Nat, n = (k : Int) ∧ k < l := by
  have := of_decide_eq_false h
  exact ⟨n.toNat, by omega, by omega⟩
theorem outB_inb {n : Int} {l : Nat} : inb n 0 ((l : Int) - 1) = !outB n l := by
  unfold inb outB
  by_cases h1 : 0 ≤ n
  · by_cases h2 : n ≤ (l : Int) - 1
    · rw [decide_eq_true h1, decide_eq_true h2, decide_eq_false (by omega)]; rfl
    · rw [decide_eq_true h1, decide_eq_false h2, decide_eq_true (show n < 0 ∨ (l : Int) ≤ n by omega)]; rfl
  · rw [decide_eq_false h1, decide_eq_true (show n < 0 ∨ (l : Int) ≤ n by omega)]; rfl
end Go.Proofs.Ws

namespace Go.Proofs.Ws
open Go Go.Fw Go.Gx Go.Sp
set_option linter.unusedVariables false
theorem Dup_eq {l : List Int} (h : l.length ≤ 100000) : m_laurelkit_Dup_int l = some l := by
  unfold m_laurelkit_Dup_int
  rw [makec_eq ⟨by omega, by omega, by omega, by omega⟩, Option.bind_some, appc_eq (by simp; omega), Option.bind_some]
  simp
theorem DupRows_eq {l : List (List Int)} (h : l.length ≤ 100000) (hr : ∀ x, x ∈ l → x.length ≤ 100000) : m_laurelkit_DupRows_int l = some l := by
  unfold m_laurelkit_DupRows_int
  rw [makec_eq ⟨by omega, by omega, by omega, by omega⟩, Option.bind_some]
  have key := iterM_run (f := m_laurelkit_DupRows_int_L0 l) (fun j => ⟨(j : Int), l.take j⟩) l.length (b := l) (fun j hj => ?_) ?_ FU (FU_lt (by omega))
  · have e : (⟨0, List.replicate (Int.toNat 0) []⟩ : m_laurelkit_DupRows_int_S0) = ⟨((0 : Nat) : Int), l.take 0⟩ := by simp
    rw [e, key]; rfl
  · unfold m_laurelkit_DupRows_int_L0
    simp only
    have hx : l.getD j [] = l[j] := by simp [List.getD_eq_getElem?_getD, hj]
    rw [if_pos (by omega), ix_nat [] hj, Option.bind_some, hx, Dup_eq (hr _ (List.getElem_mem hj)), Option.bind_some, appc_eq (by simp; omega), Option.bind_some, addc_eq (by omega), Option.bind_some, List.take_append_getElem]
    rfl
  · unfold m_laurelkit_DupRows_int_L0
    simp
theorem eqInt {l : List Int} (h : l.length ≤ 1000) : m_slices_Equal_intint l l = some true := by
  have hloop := eq_loop (f := m_slices_Equal_intint_L0 l l) h (fun k hk => by
    unfold m_slices_Equal_intint_L0
    rw [if_pos (by omega), ix_nat 0 hk, Option.bind_some, Option.bind_some, if_pos rfl, addc_eq (by omega), Option.bind_some]) (by
    unfold m_slices_Equal_intint_L0
    rw [if_neg (by omega)])
  unfold m_slices_Equal_intint
  rw [if_pos rfl, hloop]
  rfl
theorem EqInt_eq {l : List Int} (h : l.length ≤ 1000) : m_laurelkit_Eq_int l l = some true := by
  unfold m_laurelkit_Eq_int; rw [eqInt h]; rfl
theorem EqRows_eq {l : List (List Int)} (h : l.length ≤ 1000) (hr : ∀ x, x ∈ l → x.length ≤ 1000) : m_laurelkit_EqRows_int l l = some true := by
  have hloop := eq_loop (f := m_slices_EqualFunc_intintintint_L0 l l) h (fun k hk => by
    unfold m_slices_EqualFunc_intintintint_L0
    have hx : l.getD k [] = l[k] := by simp [List.getD_eq_getElem?_getD, hk]
    rw [if_pos (by omega), ix_nat [] hk, Option.bind_some, Option.bind_some, hx, eqInt (hr _ (List.getElem_mem hk)), Option.bind_some, if_neg (by simp), addc_eq (by omega), Option.bind_some]) (by
    unfold m_slices_EqualFunc_intintintint_L0
    rw [if_neg (by omega)])
  unfold m_laurelkit_EqRows_int m_slices_EqualFunc_intintintint
  rw [if_pos rfl, hloop]
  rfl
theorem Reach_wrong {s : Scalps} (h : chk s ≠ 0) (t : Int) : m_strip_Reach s t = some ⟨chk s, []⟩ := by
  unfold m_strip_Reach; rw [m_opened_wrong h]; rfl
theorem Gone_wrong {s : Scalps} (h : chk s ≠ 0) (t : Int) : m_strip_Gone s t = some ⟨⟨0, 0⟩, chk s⟩ := by
  unfold m_strip_Gone; rw [m_opened_wrong h]; rfl
theorem great_eq (s : Scalps) : m_laurellaw09_great s = some (decide (12 < s.strips.length ∨ 10 < s.carried.length)) := by
  unfold m_laurellaw09_great
  by_cases h1 : 12 < s.strips.length
  · rw [if_pos (by omega), Option.bind_some, decide_eq_true (.inl h1)]
  · rw [if_neg (by omega), Option.bind_some]
    congr 1
    exact decide_eq_decide.2 ⟨fun h => .inr (by omega), fun h => by omega⟩
theorem reachP {s : Scalps} (h : Right s) (tn : Int) : m_strip_Reach s tn = some (if outB tn s.carried.length = true then ⟨1, []⟩ else ⟨0, filtL (reachB s.strips tn.toNat) s.strips.length⟩) := by
  cases ht : outB tn s.carried.length with
  | true =>
    obtain ⟨mp, hmp, hm⟩ := m_opened_right h
    have h5 := h.net.c5
    unfold m_strip_Reach
    rw [hmp, Option.bind_some, oc_inr, m_tenant_eq (by omega), Option.bind_some, outB_inb, ht]
    rfl
  | false =>
    obtain ⟨t, rfl, ht'⟩ := outB_not ht
    rw [Reach_spec h ht']
    rfl
theorem goneP2 {s : Scalps} (h : Right s) (wh : Int) : m_strip_Gone s wh = some (if outB wh s.strips.length = true then ⟨⟨0, 0⟩, 1⟩ else ⟨gOf s.strips wh.toNat, 0⟩) := by
  cases ht : outB wh s.strips.length with
  | true =>
    obtain ⟨mp, hmp, hm⟩ := m_opened_right h
    have h6 := h.net.s6
    unfold m_strip_Gone
    rw [hmp, Option.bind_some, oc_inr, m_strip_eq (by omega), Option.bind_some, outB_inb, ht]
    rfl
  | false =>
    obtain ⟨t, rfl, ht'⟩ := outB_not ht
    rw [Gone_spec h ht']
    rfl
theorem checks_L1 {s : Scalps} (h : Right s) (own : Scalps) (rows : List (List Int)) (t : Nat) : iterM FU (m_laurellaw09_StripChecks_L1 s ⟨own, s, rows⟩ (t : Int)) ⟨0, []⟩ = some (filtL (reachB s.strips t) s.strips.length) := by
  have h6 := h.net.s6
  have key := iterM_run (f := m_laurellaw09_StripChecks_L1 s ⟨own, s, rows⟩ (t : Int)) (fun k => ⟨(k : Int), filtL (reachB s.strips t) k⟩) s.strips.length (b := filtL (reachB s.strips t) s.strips.length) (fun k hk => ?_) ?_ FU (FU_lt (by omega))
  · exact key
  · unfold m_laurellaw09_StripChecks_L1
    simp only
    rw [if_pos (by omega), refReaches_eq (by omega) hk, Option.bind_some]
    have hl := filtL_len (p := reachB s.strips t) (k := k)
    have e : (if reachB s.strips t k = true then (appc 8 (filtL (reachB s.strips t) k) [(k : Int)]).bind fun t88 => (some t88 : Option (List Int)) else some (filtL (reachB s.strips t) k)) = some (filtL (reachB s.strips t) (k + 1)) := by
      rw [filtL_succ, appc_eq (by simp only [List.length_cons, List.length_nil]; omega), Option.bind_some]
      split <;> rfl
    rw [e, Option.bind_some, addc_eq (by omega), Option.bind_some]
    rfl
  · unfold m_laurellaw09_StripChecks_L1
    simp
theorem in_if (n : Int) (l : Nat) : (if 0 ≤ n then (some (decide (n < (l : Int))) : Option Bool) else some false) = some (!outB n l) := by
  rw [← outB_inb]
  unfold inb
  by_cases h : 0 ≤ n
  · rw [if_pos h, decide_eq_true h, Bool.true_and]
    congr 1
    exact decide_eq_decide.2 (by omega)
  · rw [if_neg h, decide_eq_false h]; rfl
theorem StripChecks_true {s : Scalps} (tn wh : Int) {rows : List (List Int)} : m_laurellaw09_StripChecks s tn wh rows = some true := by
  unfold m_laurellaw09_StripChecks
  rw [great_eq, Option.bind_some]
  by_cases hg : 12 < s.strips.length ∨ 10 < s.carried.length
  · rw [decide_eq_true hg, if_pos rfl, Option.bind_some, if_pos rfl, awake_eq]; rfl
  · rw [decide_eq_false hg, if_neg (by simp), Option.bind_some]
    by_cases h8 : 8 < (rows.length : Int)
    · rw [decide_eq_true h8, if_pos rfl, awake_eq]; rfl
    · rw [decide_eq_false h8, if_neg (by simp)]
      have k0 := iterM_any0 (f := m_laurellaw09_StripChecks_L0 rows) rows.length (fun k => decide (10 < (rows.getD k []).length)) true (fun k hk => ?_) ?_ (N := FU) (FU_lt (by omega))
      · rw [k0, Option.bind_some]
        cases hany : (List.range rows.length).any fun k => decide (10 < (rows.getD k []).length) with
        | true => rfl
        | false =>
          have hr : ∀ x, x ∈ rows → x.length ≤ 10 := fun x hx => by
            obtain ⟨i, hi, rfl⟩ := List.getElem_of_mem hx
            have := List.any_eq_false.1 hany i (List.mem_range.2 hi)
            have e : rows.getD i [] = rows[i] := by simp [List.getD_eq_getElem?_getD, hi]
            rw [e] at this
            have := of_decide_eq_false (by simpa using this : decide (10 < rows[i].length) = false)
            omega
          rw [if_neg (by simp), oc_inl, own_eq (by omega) (by omega), Option.bind_some, theirs_eq (by omega) (by omega), Option.bind_some, DupRows_eq (by omega) (fun x hx => by have := hr x hx; omega), Option.bind_some, Option.bind_some]
          dsimp only
          rw [refCheck_eq (by omega) (by omega), Option.bind_some, m_Check_eq, Option.bind_some, if_pos rfl]
          by_cases hk : chk s = 0
          · have hR := right_of hk
            have h5 := hR.net.c5; have h6 := hR.net.s6
            rw [hk, if_pos rfl, refFits_eq hR, Option.bind_some, in_if, Option.bind_some, in_if]
            have e4 : (if (!outB tn s.carried.length) = true then (iterM FU (m_laurellaw09_StripChecks_L1 s ⟨s, s, rows⟩ tn) ⟨0, []⟩).bind fun o_6 => (some ⟨0, o_6⟩ : Option m_laurellaw09_StripChecks_C4) else some ⟨1, []⟩) = some (if outB tn s.carried.length = true then ⟨1, []⟩ else ⟨0, filtL (reachB s.strips tn.toNat) s.strips.length⟩) := by
              cases ht : outB tn s.carried.length with
              | true => rfl
              | false =>
                obtain ⟨t, rfl, ht'⟩ := outB_not ht
                rw [if_pos (show (!false) = true from rfl), checks_L1 hR]
                rfl
            rw [e4, Option.bind_some, Option.bind_some]
            have e8 : ∀ (u : Int) (want : List Int), (if (!outB wh s.strips.length) = true then (m_laurelref09_Gone s wh).bind fun t101 => (some ⟨u, 0, fitsB s rows, t101.lo, t101.hi, want⟩ : Option m_laurellaw09_StripChecks_C3) else some ⟨u, 1, fitsB s rows, 0, 0, want⟩) = some (if outB wh s.strips.length = true then ⟨u, 1, fitsB s rows, 0, 0, want⟩ else ⟨u, 0, fitsB s rows, (gOf s.strips wh.toNat).lo, (gOf s.strips wh.toNat).hi, want⟩) := fun u want => by
              cases ht : outB wh s.strips.length with
              | true => rfl
              | false =>
                obtain ⟨t, rfl, ht'⟩ := outB_not ht
                rw [if_pos (show (!false) = true from rfl), refGone_eq hR ht']
                rfl
            rw [e8, Option.bind_some, reachP hR, Option.bind_some, goneP2 hR, Option.bind_some, Fits_spec hR, Option.bind_some]
            have hfl := filtL_len (p := reachB s.strips tn.toNat) (k := s.strips.length)
            cases outB tn s.carried.length <;> cases outB wh s.strips.length
            all_goals
              simp only [Bool.false_eq_true, if_false, if_true]
              rw [EqInt_eq (by first | omega | simp), Option.bind_some]
              simp only [if_true, beq_self_eq_true]
              rw [same_self (by omega) (by omega), Option.bind_some, if_pos rfl, EqRows_eq (by omega) (fun x hx => by have := hr x hx; omega), Option.bind_some, if_pos rfl, awake_eq]
              rfl
          · rw [if_neg hk, Option.bind_some, Reach_wrong hk, Option.bind_some, Gone_wrong hk, Option.bind_some, Fits_wrong hk, Option.bind_some]
            dsimp only
            rw [if_pos rfl, if_pos rfl, if_pos rfl, EqInt_eq (by simp), Option.bind_some, if_pos rfl, if_pos rfl, if_pos (by rfl), same_self (by omega) (by omega), Option.bind_some, if_pos rfl, EqRows_eq (by omega) (fun x hx => by have := hr x hx; omega), Option.bind_some, if_pos rfl, awake_eq]
            rfl
      · unfold m_laurellaw09_StripChecks_L0
        rw [if_pos (by omega), ix_nat [] hk, Option.bind_some]
        by_cases h10 : 10 < (rows.getD k []).length
        · rw [if_pos (by omega), awake_eq, decide_eq_true h10]; rfl
        · rw [if_neg (by omega), addc_eq (by omega), decide_eq_false h10]; rfl
      · unfold m_laurellaw09_StripChecks_L0
        rw [if_neg (by omega)]
end Go.Proofs.Ws

namespace Go.Gx
open Go Go.Fw Go.RowKit
section
variable {H : Type} {enc : TypeId × Value → H} {P : Program} {w : World} {base : Nat} {sp : Nat → Bool} {held : Bool}
def Opens (enc : TypeId × Value → H) (P : Program) (w : World) (base : Nat) (sp : Nat → Bool) (held : Bool) {α : Type} (R : Row α) (wf : α → Prop) (t : TypeId) : Prop :=
  ∀ fuel cs x, DataW.trod enc P w base sp held fuel t cs = some x → ∃ a, cs = R.cells a ∧ wf a
def i64P (n : Int) : Prop := -9223372036854775808 ≤ n ∧ n ≤ 9223372036854775807
theorem wf_i64P {n : Int} (h : (Lit.int .i64 n).wf = true) : i64P n := by
  simp [Lit.wf, IntKind.min, IntKind.max, IntKind.signed, IntKind.bits] at h
  unfold i64P; omega
theorem opens_i64 {t : TypeId} (ht : P.underlying t = some (.int .i64)) : Opens enc P w base sp held RI i64P t := fun fuel cs x h => by
  obtain ⟨n, rfl, _, hw⟩ := DataW.trod_int ht h
  exact ⟨n, rfl, wf_i64P hw⟩
theorem fieldAt {fs : Array Field} {t : TypeId} {fuel : Nat} {cs : List Value} {x : DataW H × List MemPlace} (ht : P.underlying t = some (.struct fs)) (h : DataW.trod enc P w base sp held fuel t cs = some x) {α : Type} {R : Row α} {wf : α → Prop} (i : Nat) {T o k : Nat}
    (hf : (fs[i]?).map (fun fd => (fd.type, fd.offset)) = some (T, o)) (hk : P.cellsOf T = k) (hR : Opens enc P w base sp held R wf T) : ∃ a, (cs.drop o).take k = R.cells a ∧ wf a := by
  obtain ⟨xs, n, rfl, _, hlen, hxl, hx⟩ := DataW.trod_struct ht h
  obtain ⟨fd, hfd, he⟩ : ∃ fd, fs[i]? = some fd ∧ (fd.type, fd.offset) = (T, o) := by
    cases hh : fs[i]? with
    | none => simp [hh] at hf
    | some fd => exact ⟨fd, rfl, by simpa [hh] using hf⟩
  simp only [Prod.mk.injEq] at he
  obtain ⟨rfl, rfl⟩ := he
  have h1 := hx i fd hfd
  rw [hk] at h1
  have hi : i < xs.length := by rw [hxl]; exact (Array.getElem?_eq_some_iff.1 hfd).1
  rw [List.getElem?_eq_getElem hi] at h1
  exact hR _ _ _ h1
theorem structLen {fs : Array Field} {t : TypeId} {fuel : Nat} {cs : List Value} {x : DataW H × List MemPlace} (ht : P.underlying t = some (.struct fs)) (h : DataW.trod enc P w base sp held fuel t cs = some x) : cs.length = P.cellsOf t := by
  obtain ⟨xs, n, _, _, hlen, _⟩ := DataW.trod_struct ht h
  exact hlen
structure SlIn {α : Type} (R : Row α) (wf : α → Prop) (w : World) (v : Value) (A : Option Addr) (n c : Nat) (l : List α) : Prop where
  val : v = .slice A n c
  len : l.length = n
  ok : AOK n A
  le : n ≤ c
  max : c ≤ maxLen
  seg : segOK w (aB A, aO A, R.enc l)
  wf : ∀ x, x ∈ l → wf x
theorem choose_list {α : Type} {p : Nat → α → Prop} : ∀ (n : Nat), (∀ i, i < n → ∃ a, p i a) → ∃ l : List α, l.length = n ∧ ∀ i (h : i < l.length), p i l[i]
  | 0, _ => ⟨[], rfl, fun i h => by simp at h⟩
  | n + 1, h => by
    obtain ⟨l, hl, hp⟩ := choose_list n (fun i hi => h i (by omega))
    obtain ⟨a, ha⟩ := h n (by omega)
    refine ⟨l ++ [a], by simp [hl], fun i hi => ?_⟩
    by_cases hil : i < l.length
    · rw [List.getElem_append_left hil]; exact hp i hil
    · have : i = l.length := by simp at hi; omega
      subst this
      rw [List.getElem_append_right (by omega)]
      simp only [Nat.sub_self, List.getElem_cons_zero]
      rw [hl]; exact ha
theorem openSl {α : Type} {R : Row α} {wf : α → Prop} {t e : TypeId} (ht : P.underlying t = some (.slice e)) (hc : P.cellsOf e = R.sz) (hR : Opens enc P w base sp held R wf e) (h0 : Nat.blt 0 R.sz = true)
    {fuel : Nat} {cs : List Value} {x : DataW H × List MemPlace} (h : DataW.trod enc P w base sp held fuel t cs = some x) : ∃ (v : Value) (A : Option Addr) (n c : Nat) (l : List α), cs = [v] ∧ SlIn R wf w v A n c l := by
  have hsz : 0 < R.sz := by simpa using h0
  rcases Go.Deep.open_slice ht h with ⟨rfl, _⟩ | ⟨a, len, cap, m, n, D, Pl, rfl, hb, hl, hm, hmm, _, hi⟩
  · exact ⟨_, none, 0, 0, [], rfl, rfl, rfl, AOK.nil, Nat.le_refl _, Nat.zero_le _, segOK.nil, by simp⟩
  · have hlm : len ≤ m := by rw [hmm]; split <;> omega
    have hcell : ∀ i, i < len → ∃ x : α, (∀ f (hf : f < (R.cells x).length), w.cell? (a.add (i * R.sz + f)) = some (R.cells x)[f]) ∧ wf x := fun i hil => by
      obtain ⟨cs', h1, h2⟩ := hi i (by omega)
      obtain ⟨x, rfl, hw⟩ := hR _ _ _ h2
      obtain ⟨_, _, hat⟩ := World.cells?_some h1
      refine ⟨x, fun f hf => ?_, hw⟩
      have := hat f (by rw [hc, ← R.len x]; exact hf)
      rw [hc] at this
      rw [List.getElem?_eq_getElem hf] at this
      have e : (a.add (i * R.sz)).add f = a.add (i * R.sz + f) := by
        unfold Addr.add
        by_cases h1 : i * R.sz = 0
        · simp [h1]
        · by_cases h2 : f = 0
          · simp [h2]
          · simp [h1, h2, Nat.add_assoc]
      rw [e] at this
      exact this
    obtain ⟨l, hll, hlp⟩ := choose_list len hcell
    have hspot : 0 < len → a.spot = none := fun h0 => by
      obtain ⟨x, hx, _⟩ := hcell 0 h0
      have := World.cell?_spot (hx 0 (by rw [R.len]; exact hsz))
      simpa [Addr.add] using this
    refine ⟨_, some a, len, cap, l, rfl, rfl, hll, fun h0 => ?_, hl, hm, fun j hj => ?_, fun x hx => ?_⟩
    · obtain ⟨b, o, s⟩ := a
      have := hspot h0
      simp only at this
      subst this
      exact ⟨b, o, rfl⟩
    · have hj' : j < l.length * R.sz := by rw [← R.enc_len]; exact hj
      have hpos : 0 < len := by
        rcases Nat.eq_zero_or_pos len with h | h
        · rw [hll, h, Nat.zero_mul] at hj'; omega
        · exact h
      obtain ⟨b, o, s⟩ := a
      have hs := hspot hpos
      simp only at hs
      subst hs
      have hq : j / R.sz < l.length := Nat.div_lt_of_lt_mul (by rw [Nat.mul_comm]; exact hj')
      have hr : j % R.sz < R.sz := Nat.mod_lt _ hsz
      have hd : j / R.sz * R.sz + j % R.sz = j := by rw [Nat.mul_comm]; exact Nat.div_add_mod j R.sz
      have h1 := (hlp (j / R.sz) hq).1 (j % R.sz) (by rw [R.len]; exact hr)
      rw [hd] at h1
      have h2 := R.enc_get l (j / R.sz) (j % R.sz) l[j / R.sz] (List.getElem?_eq_getElem hq) hr
      rw [hd] at h2
      have h3 : (⟨b, o, none⟩ : Addr).add j = ⟨b, o + j, none⟩ := addr_add b o j
      rw [h3] at h1
      simp only [aB, aO, Option.map_some, Option.getD_some]
      rw [h1, ← List.getElem?_eq_getElem, ← h2, List.getElem?_eq_getElem hj]
    · obtain ⟨i, hi', rfl⟩ := List.getElem_of_mem hx
      exact (hlp i hi').2
theorem fieldSl {fs : Array Field} {t : TypeId} {fuel : Nat} {cs : List Value} {x : DataW H × List MemPlace} (ht : P.underlying t = some (.struct fs)) (h : DataW.trod enc P w base sp held fuel t cs = some x) {α : Type} {R : Row α} {wf : α → Prop} (i : Nat) {T o e : Nat}
    (hf : (fs[i]?).map (fun fd => (fd.type, fd.offset)) = some (T, o)) (hk : P.cellsOf T = 1) (hT : P.underlying T = some (.slice e)) (hc : P.cellsOf e = R.sz) (hR : Opens enc P w base sp held R wf e) (h0 : Nat.blt 0 R.sz = true) :
    ∃ (v : Value) (A : Option Addr) (n c : Nat) (l : List α), (cs.drop o).take 1 = [v] ∧ SlIn R wf w v A n c l := by
  obtain ⟨xs, m, rfl, _, hlen, hxl, hx⟩ := DataW.trod_struct ht h
  obtain ⟨fd, hfd, he⟩ : ∃ fd, fs[i]? = some fd ∧ (fd.type, fd.offset) = (T, o) := by
    cases hh : fs[i]? with
    | none => simp [hh] at hf
    | some fd => exact ⟨fd, rfl, by simpa [hh] using hf⟩
  simp only [Prod.mk.injEq] at he
  obtain ⟨rfl, rfl⟩ := he
  have h1 := hx i fd hfd
  rw [hk] at h1
  have hi : i < xs.length := by rw [hxl]; exact (Array.getElem?_eq_some_iff.1 hfd).1
  rw [List.getElem?_eq_getElem hi] at h1
  exact openSl hT hc hR h0 h1
theorem HV.begin {ro : List Sg} (h : ∀ s, s ∈ ro → segOK w s) : HV w (keys [] []) [] [] ro w :=
  ⟨rfl, rfl, rfl, Nat.le_refl _, fun _ _ _ => rfl, by simp [vbl], by simp [vbl], by simp [vbl], h, by simp [vbl]⟩
theorem segCons {s : Sg} {ro : List Sg} (h : segOK w s) (hr : ∀ t, t ∈ ro → segOK w t) : ∀ t, t ∈ s :: ro → segOK w t := fun t ht => by
  rcases List.mem_cons.1 ht with rfl | ht
  · exact h
  · exact hr t ht
theorem segNil : ∀ t, t ∈ ([] : List Sg) → segOK w t := fun t ht => by cases ht
theorem HV.below {w' : World} (h : HV w (keys [] []) [] [] [] w') : Below w.heap.size w w' := by
  have : Ext [] w w' := HS.toExt h
  exact this.below
end
end Go.Gx

namespace Go.Gx
open Go Go.Fw Go.RowKit
section
variable {H : Type} {enc : TypeId × Value → H} {P : Program} {w : World} {base : Nat} {sp : Nat → Bool} {held : Bool}
def RwL (α : Type) : Row (AL × List α) := ⟨1, fun A => [.slice A.1.a A.1.n A.1.cap], fun _ => rfl, fun _ => rfl⟩
theorem RwL_enc {α : Type} : ∀ (l : List (AL × List α)), (RwL α).enc l = RwA.enc (l.map (·.1))
  | [] => rfl
  | x :: l => by
    have := RwL_enc l
    simp only [Row.enc, List.map_cons, List.flatMap_cons] at this ⊢
    rw [this]; rfl
structure SlRow {α : Type} (R : Row α) (w : World) (x : AL × List α) : Prop where
  len : x.2.length = x.1.n
  ok : AOK x.1.n x.1.a
  le : x.1.n ≤ x.1.cap
  max : x.1.cap ≤ maxLen
  seg : segOK w (aB x.1.a, aO x.1.a, R.enc x.2)
theorem opens_sl {α : Type} {R : Row α} {wf : α → Prop} {t e : TypeId} (ht : P.underlying t = some (.slice e)) (hc : P.cellsOf e = R.sz) (hR : Opens enc P w base sp held R wf e) (h0 : Nat.blt 0 R.sz = true) : Opens enc P w base sp held (RwL α) (SlRow R w) t := fun fuel cs x h => by
  obtain ⟨v, A, n, c, l, rfl, hs⟩ := openSl ht hc hR h0 h
  have hv := hs.val
  subst hv
  exact ⟨(⟨A, n, c⟩, l), rfl, hs.len, hs.ok, hs.le, hs.max, hs.seg⟩
structure SlIn2 {α : Type} (R : Row α) (w : World) (v : Value) (A : Option Addr) (n c : Nat) (l : List (List α)) (ar : List AL) : Prop where
  val : v = .slice A n c
  len : l.length = n
  ok : AOK n A
  le : n ≤ c
  max : c ≤ maxLen
  seg : segOK w (aB A, aO A, RwA.enc ar)
  dro : DRO l ar
  rows : ∀ t, t ∈ rsg R l ar → segOK w t ∧ (t.2.2 ≠ [] → t.1 ∉ keys [] [])
  short : ∀ x, x ∈ l → x.length ≤ 9223372036854775807
theorem openSl2 {α : Type} {R : Row α} {wf : α → Prop} {t e e2 : TypeId} (ht : P.underlying t = some (.slice e)) (hc : P.cellsOf e = 1) (he : P.underlying e = some (.slice e2)) (hc2 : P.cellsOf e2 = R.sz) (hR : Opens enc P w base sp held R wf e2) (h0 : Nat.blt 0 R.sz = true)
    {fuel : Nat} {cs : List Value} {x : DataW H × List MemPlace} (h : DataW.trod enc P w base sp held fuel t cs = some x) : ∃ (v : Value) (A : Option Addr) (n c : Nat) (l : List (List α)) (ar : List AL), cs = [v] ∧ SlIn2 R w v A n c l ar := by
  obtain ⟨v, A, n, c, ps, rfl, hs⟩ := openSl (R := RwL α) ht hc (opens_sl he hc2 hR h0) rfl h
  have hget : ∀ (k : Nat) (y : List α) (N : AL), (ps.map (·.2))[k]? = some y → (ps.map (·.1))[k]? = some N → SlRow R w (N, y) := fun k y N hy hN => by
    rw [List.getElem?_map, Option.map_eq_some_iff] at hy hN
    obtain ⟨p, hp, rfl⟩ := hy
    obtain ⟨q, hq, rfl⟩ := hN
    rw [hp] at hq
    cases hq
    exact hs.wf p (List.mem_of_getElem? hp)
  refine ⟨v, A, n, c, ps.map (·.2), ps.map (·.1), rfl, hs.val, by rw [List.length_map]; exact hs.len, hs.ok, hs.le, hs.max, by rw [← RwL_enc]; exact hs.seg, ⟨by simp, fun k y N hy hN => ?_⟩, fun t ht => ?_, fun y hy => ?_⟩
  · have := hget k y N hy hN
    exact ⟨this.len, this.ok, this.le⟩
  · obtain ⟨k, y, N, hy, hN, rfl⟩ := rsg_of _ _ t ht
    exact ⟨(hget k y N hy hN).seg, fun _ hm => by cases hm⟩
  · obtain ⟨p, hp, rfl⟩ := List.mem_map.1 hy
    have h1 := hs.wf p hp
    have h2 := h1.len; have h3 := h1.le; have h4 := h1.max
    unfold maxLen at h4
    omega
end
end Go.Gx

