/- What the functions that the law StripShares reaches come to, and why it holds: part 7. -/
import Derived.Test.YtnkphlgohnlooaaStripShares6
import Derived.Deep.Slices
import Derived.ChangeArms
namespace Go.Proofs.Ws
set_option maxHeartbeats 4000000
set_option maxRecDepth 100000
open Go Go.Fw Go.Gx Go.Sp
set_option linter.unusedVariables false
def yr (a0 : (List Span)) (b1 : (List Span)) : Option Bool :=
 (Jo a0 b1).bind fun t7 =>
 some t7
theorem YH (a0 : (List Span)) (b1 : (List Span)) (qa0 : Option Addr) (na0 ca0 : Nat) (qa1 : Option Addr) (na1 ca1 : Nat) (w : World) (hw : HV w (keys [] []) [] [] [(aB qa0, aO qa0, RSp.enc a0), (aB qa1, aO qa1, RSp.enc b1)] w) (hna0 : a0.length = na0) (hqa0 : AOK na0 qa0) (hla0 : na0 ≤ ca0) (hna1 : b1.length = na1) (hqa1 : AOK na1 qa1) (hla1 : na1 ≤ ca1) {res : Bool} (hm : yr a0 b1 = some res) :
    Calls Try.prog 89 #[.slice qa0 na0 ca0, .slice qa1 na1 ca1] w (fun en w' => ∃ l : Unit, en = .returned (.bool res) ∧ (True) ∧ HV w (keys [] []) [] [] [] w') := by
  unfold yr at hm
  refine kb Try.func89 rfl Try.ntmps89 rfl (e := [(0, _), (1, _)]) rfl hw (jp (jm rfl rfl (j1 (jf rfl rfl (jf rfl rfl ?_)))))
  obtain ⟨t7, h1, hm⟩ := bindO hm
  refine jd [] [] rfl rfl rfl rfl rfl rfl rfl Try.call126 (fun w hh => Y4 a0 b1 qa0 na0 ca0 qa1 na1 ca1 w (HV.callee (S0 := []) (vs0 := []) hh (roR hh 0 rfl (roR hh 1 rfl roN))) hna0 hqa0 hla0 hna1 hqa1 hla1 h1) (fun l h2 => ?_)
  refine jm rfl rfl (jo (jw ?_))
  obtain rfl := sj hm
  refine jn rfl (fun w hh => (.tmp rfl .nil)) (fun w hh => ⟨(), rfl, trivial, hh.se [] [] 2 rfl rfl rfl rfl⟩)
def Qh (a0 : Scalps) (b1 : Scalps) : Option Bool :=
 ((qb a0.strips b1.strips).bind fun t9 =>
 if t9 = true then
 ((yr a0.carried b1.carried).bind fun t15 =>
 some t15) else
 (some false)).bind fun o =>
 some o
theorem ZJ (a0 : Scalps) (b1 : Scalps) (qa0 : Option Addr) (na0 ca0 : Nat) (qa1 : Option Addr) (na1 ca1 : Nat) (qa2 : Option Addr) (na2 ca2 : Nat) (qa3 : Option Addr) (na3 ca3 : Nat) (w : World) (hw : HV w (keys [] []) [] [] [(aB qa0, aO qa0, RSt.enc a0.strips), (aB qa1, aO qa1, RSp.enc a0.carried), (aB qa2, aO qa2, RSt.enc b1.strips), (aB qa3, aO qa3, RSp.enc b1.carried)] w) (hna0 : a0.strips.length = na0) (hqa0 : AOK na0 qa0) (hla0 : na0 ≤ ca0) (hna1 : a0.carried.length = na1) (hqa1 : AOK na1 qa1) (hla1 : na1 ≤ ca1) (hna2 : b1.strips.length = na2) (hqa2 : AOK na2 qa2) (hla2 : na2 ≤ ca2) (hna3 : b1.carried.length = na3) (hqa3 : AOK na3 qa3) (hla3 : na3 ≤ ca3) {res : Bool} (hm : Qh a0 b1 = some res) :
    Calls Try.prog 30 #[.agg #[.slice qa0 na0 ca0, .slice qa1 na1 ca1], .agg #[.slice qa2 na2 ca2, .slice qa3 na3 ca3]] w (fun en w' => ∃ l : Unit, en = .returned (.bool res) ∧ (True) ∧ HV w (keys [] []) [] [] [] w') := by
  unfold Qh at hm
  refine kb Try.func30 rfl Try.ntmps30 rfl (e := [(0, _), (1, _)]) rfl hw (jp ?_)
  refine jH rfl rfl (fun b h1 => ?_)
  refine jH rfl rfl (fun b_1 h2 => ?_)
  refine jm rfl rfl (jo (jj ?_))
  obtain ⟨o, h3, h4⟩ := bindO hm
  refine jC (ι := Unit) (fun l => True) (fun l => [(4, .bool o)]) (fun l => [(b_1, .cells #[.slice qa2 na2 ca2, .slice qa3 na3 ca3] 28 (0, 0)), (b, .cells #[.slice qa0 na0 ca0, .slice qa1 na1 ca1] 28 (0, 0))]) (fun l => []) ?_ ?_
  ·replace hm := h3
   refine jh (jL 0 Try.runUnderlying28 rfl Try.sizeOf25 rfl rfl (jU 1 Try.isAgg25 rfl rfl rfl rfl (jL 0 Try.runUnderlying28 rfl Try.sizeOf25 rfl rfl (jU 0 Try.isAgg25 rfl rfl rfl rfl ?_))))
   obtain ⟨t9, h5, hm⟩ := bindO hm
   refine jd [] [] rfl rfl rfl rfl rfl rfl rfl Try.call88 (fun w hh => QY a0.strips b1.strips qa0 na0 ca0 qa2 na2 ca2 w (HV.callee (S0 := []) (vs0 := []) hh (roR hh 0 rfl (roR hh 2 rfl roN))) hna0 hqa0 hla0 hna2 hqa2 hla2 h5) (fun l_1 h6 => ?_)
   refine jf rfl rfl ?_
   refine jD 10 rfl (fun h7 => ?_) (fun h7 => ?_)
   ·replace hm := ifT (h7) hm
    refine ja rfl rfl (jL 1 Try.runUnderlying28 rfl Try.sizeOf26 rfl rfl (ja rfl rfl (jU 1 Try.isAgg26 rfl rfl rfl rfl (ja rfl rfl (jL 1 Try.runUnderlying28 rfl Try.sizeOf26 rfl rfl (ja rfl rfl (jU 0 Try.isAgg26 rfl rfl rfl rfl ?_)))))))
    refine ja rfl rfl ?_
    obtain ⟨t15, h8, hm⟩ := bindO hm
    refine jd [] [] rfl rfl rfl rfl rfl rfl rfl Try.call89 (fun w hh => YH a0.carried b1.carried qa1 na1 ca1 qa3 na3 ca3 w (HV.callee (S0 := []) (vs0 := []) hh (roR hh 1 rfl (roR hh 3 rfl roN))) hna1 hqa1 hla1 hna3 hqa3 hla3 h8) (fun l_2 h9 => ?_)
    refine j3 rfl rfl rfl (jm rfl rfl (jv ?_))
    obtain rfl := sj hm
    exact jg () (trivial) (sE rfl) (fun w hh => hh)
   ·replace hm := ifN h7 hm
    refine g_k rfl rfl rfl rfl (g_k rfl rfl rfl rfl (g_k rfl rfl rfl rfl (g_k rfl rfl rfl rfl (g_k rfl rfl rfl rfl (ki rfl rfl rfl (jm rfl rfl (jv ?_)))))))
    obtain rfl := sj hm
    exact jg () (trivial) (sE rfl) (fun w hh => hh)
  ·intro l hj
   replace hm := h4
   refine jb (jw ?_)
   obtain rfl := sj hm
   refine jn rfl (fun w hh => (.tmp rfl .nil)) (fun w hh => ⟨(), rfl, trivial, hh.se [] [] 4 rfl rfl rfl rfl⟩)
structure yE where
  t6 : Int
  t21 : (List Int)
structure Ky where
  sum7 : Int
  t21 : (List Int)
structure JG where
  sum7 : Int
  k8 : Int
  t21 : (List Int)
def zw (shares1 : (List (List Int))) (s : yE) (s0 : Scalps) (s_1 : JG) : Option (JG ⊕ (Ky ⊕ Bool)) :=
 if s_1.k8 < (s_1.t21.length : Int) then
 ((ix shares1 s.t6).bind fun t45 =>
 (ix t45 s_1.k8).bind fun t48 =>
 ((zl t48 0 100).bind fun t51 =>
 if t51 = true then
 (some true) else
 (if 0 < t48 then
 ((j5 s0 s.t6 s_1.k8).bind fun t59 =>
 some (!t59)) else
 (some false))).bind fun o_2 =>
 if o_2 = true then
 (some (.inr (.inr false))) else
 ((addc s_1.sum7 t48).bind fun t65 =>
 (ix s_1.t21 s_1.k8).bind fun t70 =>
 (addc t70 t48).bind fun t73 =>
 (ix s_1.t21 s_1.k8).bind fun t74 =>
 (some (s_1.t21.set (Int.toNat s_1.k8) t73)).bind fun t21_1 =>
 (addc s_1.k8 1).bind fun t42 =>
 some (.inl (⟨t65, t42, t21_1⟩ : JG)))) else
 (some (.inr (.inl (⟨s_1.sum7, s_1.t21⟩ : Ky))))
def zD (shares1 : (List (List Int))) (s0 : Scalps) (s : yE) : Option (yE ⊕ ((List Int) ⊕ Bool)) :=
 if s.t6 < (shares1.length : Int) then
 ((ix shares1 s.t6).bind fun t30 =>
 if (t30.length : Int) = (s0.strips.length : Int) then
 ((iterM FU (zw shares1 s s0) (⟨0, 0, s.t21⟩ : JG)).bind fun o_1 =>
 oc o_1 (fun j_1 => (ix s0.carried s.t6).bind fun t79 =>
 (ix s0.carried s.t6).bind fun t85 =>
 (zl j_1.sum7 t79.lo t85.hi).bind fun t88 =>
 if t88 = true then
 (some (.inr (.inr false))) else
 ((addc s.t6 1).bind fun t27 =>
 some (.inl (⟨t27, j_1.t21⟩ : yE)))) (fun r_2 => some (.inr (.inr r_2)))) else
 (some (.inr (.inr false)))) else
 (some (.inr (.inl s.t21)))
def JF (j : (List Int)) (s0 : Scalps) (s_2 : Int) : Option (Int ⊕ (Unit ⊕ Bool)) :=
 if s_2 < (j.length : Int) then
 ((zK s0 s_2).bind fun t97 =>
 (ix j s_2).bind fun t100 =>
 (zl t100 t97.lo t97.hi).bind fun t106 =>
 if t106 = true then
 (some (.inr (.inr false))) else
 ((addc s_2 1).bind fun t94 =>
 some (.inl t94))) else
 (some (.inr (.inl ())))
def KH (s0 : Scalps) (shares1 : (List (List Int))) : Option Bool :=
 if (shares1.length : Int) = (s0.carried.length : Int) then
 ((makec 8 0 (s0.strips.length : Int) (s0.strips.length : Int)).bind fun t21 =>
 (iterM FU (zD shares1 s0) (⟨0, t21⟩ : yE)).bind fun o =>
 oc o (fun j => (iterM FU (JF j s0) 0).bind fun o_3 =>
 oc o_3 (fun j_2 => some true) (fun r_4 => some r_4)) (fun r_5 => some r_5)) else
 (some false)
theorem YS (s0 : Scalps) (shares1 : (List (List Int))) (qa0 : Option Addr) (na0 ca0 : Nat) (qa1 : Option Addr) (na1 ca1 : Nat) (qa2 : Option Addr) (na2 ca2 : Nat) (ar2 : List AL) (w : World) (hw : HV w (keys [] []) [] [] [(aB qa0, aO qa0, RSt.enc s0.strips), (aB qa1, aO qa1, RSp.enc s0.carried), (aB qa2, aO qa2, RwA.enc ar2)] w) (hna0 : s0.strips.length = na0) (hqa0 : AOK na0 qa0) (hla0 : na0 ≤ ca0) (hna1 : s0.carried.length = na1) (hqa1 : AOK na1 qa1) (hla1 : na1 ≤ ca1) (hna2 : shares1.length = na2) (hqa2 : AOK na2 qa2) (hla2 : na2 ≤ ca2) (hda2 : DRO shares1 ar2) (hTa2 : ∀ t, t ∈ rsg RI shares1 ar2 → segOK w t ∧ (t.2.2 ≠ [] → t.1 ∉ keys [] [])) {res : Bool} (hm : KH s0 shares1 = some res) :
    Calls Try.prog 31 #[.agg #[.slice qa0 na0 ca0, .slice qa1 na1 ca1], .slice qa2 na2 ca2] w (fun en w' => ∃ l : Unit, en = .returned (.bool res) ∧ (True) ∧ HV w (keys [] []) [] [] [] w') := by
  unfold KH at hm
  refine kb Try.func31 rfl Try.ntmps31 rfl (e := [(0, _), (1, _)]) rfl hw (jp ?_)
  refine jH rfl rfl (fun b h1 => ?_)
  refine jm rfl rfl (jo (jj (jp (jf rfl rfl (jc rfl rfl rfl (fun w _ => jB hna2 (Try.runUnderlying29 w) rfl) (jL 1 Try.runUnderlying50 rfl Try.sizeOf26 rfl rfl (jU 0 Try.isAgg26 rfl rfl rfl rfl ?_)))))))
  refine jc rfl rfl rfl (fun w _ => jB hna1 (Try.runUnderlying26 w) rfl) (jc rfl rfl rfl (fun _ _ => kv rfl rfl) (jo ?_))
  refine jq rfl (fun h2 => ?_) (fun h2 => ?_)
  ·replace hm := ifF (of_ndec_true h2) hm
   refine jp (jm rfl rfl (jo (jw (je ?_))))
   obtain rfl := sj hm
   refine jn rfl (fun w hh => (.tmp rfl .nil)) (fun w hh => ⟨(), rfl, trivial, hh.se [] [] 3 rfl rfl rfl rfl⟩)
  ·replace hm := ifT (of_ndec_false h2) hm
   refine jr (jb (jp (jL 0 Try.runUnderlying50 rfl Try.sizeOf48 rfl rfl (jU 0 Try.isAgg48 rfl rfl rfl rfl (jc rfl rfl rfl (fun w _ => jB hna0 (Try.runUnderlying48 w) rfl) ?_)))))
   obtain ⟨t21, h3, hm⟩ := bindO hm
   refine km RI 0 h3 Try.underlying32 JJ rfl rfl rfl rfl rfl (fun L h4 => ?_)
   refine jm rfl rfl (jo (jj (jp (jm rfl rfl (jo ?_)))))
   obtain ⟨o, h5, h6⟩ := bindO hm
   refine jC (ι := (List Int)) (fun j => o = .inl j ∧ VOK 1 L.n L.cap (RI.enc j) L.sp L.q) (fun j => [(2, ptr b 0), (5, slv L.q L.n L.cap)]) (fun j => [(b, .cells #[.slice qa0 na0 ca0, .slice qa1 na1 ca1] 50 (0, 0))]) (fun j => [⟨3, RI.enc j, L.sp, L.q, []⟩]) ?_ ?_
   ·replace hm := h5
    refine jl ?_
    refine jF (ι := Unit) hm (fun s l => VOK 1 L.n L.cap (RI.enc s.t21) L.sp L.q) (fun s l => [(1, .slice qa2 na2 ca2), (2, ptr b 0), (5, slv L.q L.n L.cap), (6, .int .i64 s.t6)]) (fun s l => [(b, .cells #[.slice qa0 na0 ca0, .slice qa1 na1 ca1] 50 (0, 0))]) (fun s l => [⟨3, RI.enc s.t21, L.sp, L.q, []⟩]) () (h4) (sE rfl) (fun w hh => hh) (fun s l r hpl hm h9 => ?_)
    have h8 := hpl
    unfold zD at hm
    refine jj (jp (jf rfl rfl (jf rfl rfl (jc rfl rfl rfl (fun w _ => jB hna2 (Try.runUnderlying29 w) rfl) (qv rfl rfl rfl (jo ?_))))))
    refine jq rfl (fun h10 => ?_) (fun h10 => ?_)
    ·replace hm := ifD h10 hm
     refine jr (jb (jj (jl (jj (jj ?_)))))
     refine jX none (.free 0 (.free 1 (.free 2 (.hoist 3 (.free 4 (.free 5 (.hoist 6 (.free 7 (.free 8 .done))))))))) _ rfl (by decide +kernel) (fun w k hh => hh.draw k) (fun w hh => hh) ?_
     refine kg rfl rfl rfl (kg rfl rfl rfl ?_)
     obtain ⟨t30, h11, hm⟩ := bindO hm
     obtain ⟨A, h12, h13, h14, h15⟩ := (hda2).row h11
     refine jk rfl rfl rfl rfl (fun w _ => jW h12 (Try.runUnderlying29 w) (Try.sizeOf32 w) rfl rfl (Eq.trans (hda2).len.symm hna2) hqa2) (jA rfl rfl rfl rfl (fun w hh => jV RwA 0 h12 (Try.isAgg32 w) rfl (hh.seg 2 rfl) rfl (Nat.add_zero _).symm) (jk rfl rfl rfl rfl (fun w _ => jB h13 (Try.runUnderlying32 w) rfl) (kO 0 Try.runUnderlying50 Try.sizeOf48 rfl rfl rfl rfl (qq 0 Try.isAgg48 rfl rfl rfl rfl rfl (jk rfl rfl rfl rfl (fun w _ => jB hna0 (Try.runUnderlying48 w) rfl) (jk rfl rfl rfl rfl (fun _ _ => kv rfl rfl) (jI ?_)))))))
     refine jb ?_
     refine jq rfl (fun h16 => ?_) (fun h16 => ?_)
     ·replace hm := ifF (of_ndec_true h16) hm
      refine jp (jm rfl rfl (jo (jw (je (jx (je (je ?_)))))))
      refine jx ?_
      obtain rfl := sj hm
      have hbo := h9 _ rfl
      subst hbo
      refine je ?_
      replace hm := ocR h6
      refine je ?_
      obtain rfl := sj hm
      refine jn rfl (fun w hh => (.tmp rfl .nil)) (fun w hh => ⟨(), rfl, trivial, hh.se [] [] 3 rfl rfl rfl rfl⟩)
     ·replace hm := ifT (of_ndec_false h16) hm
      refine jr (jb (jp (jm rfl rfl (jo (jj (jp (jm rfl rfl ?_)))))))
      refine jo ?_
      obtain ⟨o_1, h17, h18⟩ := bindO hm
      refine jC (ι := Ky) (fun j_1 => o_1 = .inl j_1 ∧ VOK 1 L.n L.cap (RI.enc j_1.t21) L.sp L.q) (fun j_1 => [(1, .slice qa2 na2 ca2), (2, ptr b 0), (5, slv L.q L.n L.cap), (6, .int .i64 s.t6), (7, .int .i64 j_1.sum7)]) (fun j_1 => [(b, .cells #[.slice qa0 na0 ca0, .slice qa1 na1 ca1] 50 (0, 0))]) (fun j_1 => [⟨3, RI.enc j_1.t21, L.sp, L.q, []⟩]) ?_ ?_
      ·replace hm := h17
       refine jl ?_
       refine jF (ι := Unit) hm (fun s_1 l_1 => VOK 1 L.n L.cap (RI.enc s_1.t21) L.sp L.q) (fun s_1 l_1 => [(1, .slice qa2 na2 ca2), (2, ptr b 0), (5, slv L.q L.n L.cap), (6, .int .i64 s.t6), (7, .int .i64 s_1.sum7), (8, .int .i64 s_1.k8)]) (fun s_1 l_1 => [(b, .cells #[.slice qa0 na0 ca0, .slice qa1 na1 ca1] 50 (0, 0))]) (fun s_1 l_1 => [⟨3, RI.enc s_1.t21, L.sp, L.q, []⟩]) () (h8) (sE rfl) (fun w hh => hh) (fun s_1 l_1 r_1 hpl hm h21 => ?_)
       have h20 := hpl
       unfold zw at hm
       refine jj (jp (jf rfl rfl (jf rfl rfl (jc rfl rfl rfl (fun w _ => JI (vlen RI h20 rfl) (Try.runUnderlying32 w) rfl) (qv rfl rfl rfl (jo ?_))))))
       refine jq rfl (fun h22 => ?_) (fun h22 => ?_)
       ·replace hm := ifD h22 hm
        refine jr (jb (jj (jl (jp (jf rfl rfl (jf rfl rfl ?_))))))
        obtain ⟨t45, h23, hm⟩ := bindO hm
        obtain ⟨A_1, h24, h25, h26, h27⟩ := (hda2).row h23
        refine jc rfl rfl rfl (fun w _ => jW h24 (Try.runUnderlying29 w) (Try.sizeOf32 w) rfl rfl (Eq.trans (hda2).len.symm hna2) hqa2) (jc rfl rfl rfl (fun w hh => jV RwA 0 h24 (Try.isAgg32 w) rfl (hh.seg 2 rfl) rfl (Nat.add_zero _).symm) (jf rfl rfl ?_))
        obtain ⟨t48, h28, hm⟩ := bindO hm
        refine jc rfl rfl rfl (fun w _ => jW h28 (Try.runUnderlying32 w) (Try.sizeOf3 w) rfl rfl h25 h26) (jc rfl rfl rfl (fun w hh => jV RI 0 h28 (Try.isAgg3 w) rfl (hh.oldseg (hTa2 _ (rsg_ix h23 h24))) rfl (Nat.add_zero _).symm) (jm rfl rfl (jo (jj (jj ?_)))))
        obtain ⟨o_2, h29, h30⟩ := bindO hm
        refine jC (ι := Unit) (fun l_2 => True) (fun l_2 => [(1, .slice qa2 na2 ca2), (2, ptr b 0), (5, slv L.q L.n L.cap), (6, .int .i64 s.t6), (7, .int .i64 s_1.sum7), (8, .int .i64 s_1.k8), (9, .int .i64 t48), (62, .bool o_2)]) (fun l_2 => [(b, .cells #[.slice qa0 na0 ca0, .slice qa1 na1 ca1] 50 (0, 0))]) (fun l_2 => [⟨3, RI.enc s_1.t21, L.sp, L.q, []⟩]) ?_ ?_
        ·replace hm := h29
         refine jh (jf rfl rfl ?_)
         obtain ⟨t51, h31, hm⟩ := bindO hm
         refine jd [] [] rfl rfl rfl rfl rfl rfl rfl Try.call80 (fun w hh => KB t48 0 100 w (HV.callee (S0 := []) (vs0 := []) hh roN)  h31) (fun l_3 h32 => ?_)
         refine jf rfl rfl ?_
         refine jD 52 rfl (fun h33 => ?_) (fun h33 => ?_)
         ·replace hm := ifT (h33) hm
          refine g_k rfl rfl rfl rfl (g_k rfl rfl rfl rfl (g_k rfl rfl rfl rfl ?_))
          refine jZ rfl rfl rfl rfl rfl ?_
          refine jZ rfl rfl rfl rfl rfl ?_
          refine jZ rfl rfl rfl rfl rfl ?_
          refine jZ rfl rfl rfl rfl rfl ?_
          refine jZ rfl rfl rfl rfl rfl ?_
          refine g_k rfl rfl rfl rfl (j3 rfl rfl rfl (jv ?_))
          obtain rfl := sj hm
          exact jg () (trivial) (sE rfl) (fun w hh => hh)
         ·replace hm := ifN h33 hm
          refine ja rfl rfl (jf rfl rfl (ja rfl rfl (jc rfl rfl rfl (fun _ _ => Qq rfl rfl) (ja rfl rfl (jf rfl rfl ?_)))))
          refine jD 55 rfl (fun h34 => ?_) (fun h34 => ?_)
          ·replace hm := ifD h34 hm
           refine ja rfl rfl (kG [_, _] 0 Try.isAgg50 Try.sizeOf50 rfl rfl rfl rfl (ja rfl rfl (jf rfl rfl (ja rfl rfl (jf rfl rfl (ja rfl rfl ?_))))))
           obtain ⟨t59, h35, hm⟩ := bindO hm
           refine jd [] [] rfl rfl rfl rfl rfl rfl rfl Try.call87 (fun w hh => Jz s0 s.t6 s_1.k8 qa0 na0 ca0 qa1 na1 ca1 w (HV.callee (S0 := []) (vs0 := []) hh (roR hh 0 rfl (roR hh 1 rfl roN))) hna0 hqa0 hla0 hna1 hqa1 hla1 h35) (fun l_4 h36 => ?_)
           refine ja rfl rfl (jc rfl rfl rfl (fun _ _ => kq rfl) (ja rfl rfl (j3 rfl rfl rfl (ki rfl rfl rfl (jv ?_)))))
           obtain rfl := sj hm
           exact jg () (trivial) (sE rfl) (fun w hh => hh)
          ·replace hm := ifE h34 hm
           refine g_k rfl rfl rfl rfl (g_k rfl rfl rfl rfl (g_k rfl rfl rfl rfl (g_k rfl rfl rfl rfl (g_k rfl rfl rfl rfl (ja rfl rfl (ki rfl rfl rfl (ki rfl rfl rfl ?_)))))))
           refine jv ?_
           obtain rfl := sj hm
           exact jg () (trivial) (sE rfl) (fun w hh => hh)
        ·intro l_2 hj
         replace hm := h30
         refine jb ?_
         refine jq rfl (fun h37 => ?_) (fun h37 => ?_)
         ·replace hm := ifT (h37) hm
          refine jp (jm rfl rfl (jo (jw (je (jx (je (je ?_)))))))
          refine jx ?_
          obtain rfl := sj hm
          have hbo := h21 _ rfl
          subst hbo
          refine je ?_
          replace hm := ocR h18
          refine je (jx (je (je (jx ?_))))
          obtain rfl := sj hm
          have hbo := h9 _ rfl
          subst hbo
          refine je ?_
          replace hm := ocR h6
          refine je ?_
          obtain rfl := sj hm
          refine jn rfl (fun w hh => (.tmp rfl .nil)) (fun w hh => ⟨(), rfl, trivial, hh.se [] [] 3 rfl rfl rfl rfl⟩)
         ·replace hm := ifN h37 hm
          refine jr (jb (jp (jf rfl rfl (jf rfl rfl ?_))))
          obtain ⟨t65, h38, hm⟩ := bindO hm
          refine kt h38 rfl rfl rfl (jm rfl rfl (jo (jh (jf rfl rfl (jf rfl rfl (jf rfl rfl (jf rfl rfl ?_)))))))
          obtain ⟨t70, h39, hm⟩ := bindO hm
          refine jc rfl rfl rfl (fun w _ => qe h39 (Try.runUnderlying32 w) (Try.sizeOf3 w) rfl rfl (vlen RI h20 rfl) (vne h20)) (jc rfl rfl rfl (fun w hh => jV RI 0 h39 (Try.isAgg3 w) rfl (hh.vseg 0 rfl h20) rfl (Nat.add_zero _).symm) (jf rfl rfl ?_))
          obtain ⟨t73, h40, hm⟩ := bindO hm
          refine kt h40 rfl rfl rfl ?_
          obtain ⟨t74, h41, hm⟩ := bindO hm
          refine jc rfl rfl rfl (fun w _ => qe h41 (Try.runUnderlying32 w) (Try.sizeOf3 w) rfl rfl (vlen RI h20 rfl) (vne h20)) ?_
          obtain ⟨t21_1, ht21_1, hm⟩ := bindO hm
          refine KU RI 0 0 t73 (fun w => Try.sizeOf3 w) rfl rfl rfl rfl h20 rfl (Nat.add_zero _).symm rfl h41 rfl rfl (Option.some.inj ht21_1) (fun h42 => ?_)
          refine jS (S' := [_]) (vs' := [_]) [0] [0] 0 rfl rfl rfl rfl (jv (js (jb (jh (jf rfl rfl ?_)))))
          obtain ⟨t42, h43, hm⟩ := bindO hm
          refine kt h43 rfl rfl rfl (jm rfl rfl (jv ?_))
          obtain rfl := sj hm
          refine jb ?_
          exact jy _ () rfl (h42) (sE rfl) (fun w hh => hh)
       ·replace hm := ifE h22 hm
        refine jM (ji (ji (jz ?_)))
        obtain rfl := sj hm
        have hbo := h21 _ rfl
        subst hbo
        exact jg (⟨s_1.sum7, s_1.t21⟩ : Ky) (⟨rfl, h20⟩) (sE rfl) (fun w hh => hh)
      ·intro j_1 hj
       obtain ⟨h44, h19⟩ := hj
       subst h44
       replace hm := ocL h18
       refine jb (jj ?_)
       refine jX none (.free 0 (.free 1 (.hoist 2 (.free 3 (.free 4 (.free 5 (.hoist 6 (.free 7 (.hoist 8 (.free 9 (.free 10 (.free 11 (.hoist 12 (.one 13 .done)))))))))))))) _ rfl (by decide +kernel) (fun w k hh => hh.draw k) (fun w hh => hh) ?_
       refine kg rfl rfl rfl (kO 1 Try.runUnderlying50 Try.sizeOf26 rfl rfl rfl rfl (qq 0 Try.isAgg26 rfl rfl rfl rfl rfl (kg rfl rfl rfl ?_)))
       obtain ⟨t79, h45, hm⟩ := bindO hm
       refine jk rfl rfl rfl rfl (fun w _ => jW h45 (Try.runUnderlying26 w) (Try.sizeOf37 w) rfl rfl hna1 hqa1) (kO 0 Try.runUnderlying37 Try.sizeOf3 rfl rfl rfl rfl (jA rfl rfl rfl rfl (fun w hh => jV RSp 0 h45 (Try.isAgg3 w) rfl (hh.seg 1 rfl) rfl rfl) (kO 1 Try.runUnderlying50 Try.sizeOf26 rfl rfl rfl rfl (qq 0 Try.isAgg26 rfl rfl rfl rfl rfl (kg rfl rfl rfl ?_)))))
       obtain ⟨t85, h46, hm⟩ := bindO hm
       refine jk rfl rfl rfl rfl (fun w _ => jW h46 (Try.runUnderlying26 w) (Try.sizeOf37 w) rfl rfl hna1 hqa1) (kO 1 Try.runUnderlying37 Try.sizeOf3 rfl rfl rfl rfl (jA rfl rfl rfl rfl (fun w hh => jV RSp 1 h46 (Try.isAgg3 w) rfl (hh.seg 1 rfl) rfl rfl) (jK rfl ?_)))
       obtain ⟨t88, h47, hm⟩ := bindO hm
       refine jd [] [] rfl rfl rfl rfl rfl rfl rfl Try.call80 (fun w hh => KB j_1.sum7 t79.lo t85.hi w (HV.callee (S0 := []) (vs0 := []) hh roN)  h47) (fun l_5 h48 => ?_)
       refine ju (fun w hh => hh) (jI (jb ?_))
       refine jq rfl (fun h49 => ?_) (fun h49 => ?_)
       ·replace hm := ifT (h49) hm
        refine jp (jm rfl rfl (jo (jw (jx (je (je (jx ?_)))))))
        obtain rfl := sj hm
        have hbo := h9 _ rfl
        subst hbo
        refine je ?_
        replace hm := ocR h6
        refine je ?_
        obtain rfl := sj hm
        refine jn rfl (fun w hh => (.tmp rfl .nil)) (fun w hh => ⟨(), rfl, trivial, hh.se [] [] 3 rfl rfl rfl rfl⟩)
       ·replace hm := ifN h49 hm
        refine jr (js (jb (jh (jf rfl rfl ?_))))
        obtain ⟨t27, h50, hm⟩ := bindO hm
        refine kt h50 rfl rfl rfl (jm rfl rfl (jv ?_))
        obtain rfl := sj hm
        refine jb ?_
        exact jy _ () rfl (h19) (sE rfl) (fun w hh => hh)
    ·replace hm := ifE h10 hm
     refine jM (ji (ji (jz ?_)))
     obtain rfl := sj hm
     have hbo := h9 _ rfl
     subst hbo
     exact jg s.t21 (⟨rfl, h8⟩) (sE rfl) (fun w hh => hh)
   ·intro j hj
    obtain ⟨h51, h7⟩ := hj
    subst h51
    replace hm := ocL h6
    refine jb (jj (jp (jm rfl rfl (jo ?_))))
    obtain ⟨o_3, h52, h53⟩ := bindO hm
    refine jC (ι := Unit) (fun j_2 => o_3 = .inl j_2) (fun j_2 => []) (fun j_2 => [(b, .cells #[.slice qa0 na0 ca0, .slice qa1 na1 ca1] 50 (0, 0))]) (fun j_2 => []) ?_ ?_
    ·replace hm := h52
     refine jl ?_
     refine jF (ι := Unit) hm (fun s_2 l_6 => True) (fun s_2 l_6 => [(2, ptr b 0), (5, slv L.q L.n L.cap), (10, .int .i64 s_2)]) (fun s_2 l_6 => [(b, .cells #[.slice qa0 na0 ca0, .slice qa1 na1 ca1] 50 (0, 0))]) (fun s_2 l_6 => [⟨3, RI.enc j, L.sp, L.q, []⟩]) () (trivial) (sE rfl) (fun w hh => hh) (fun s_2 l_6 r_3 hpl hm h54 => ?_)
     unfold JF at hm
     refine jj (jp (jf rfl rfl (jf rfl rfl (jc rfl rfl rfl (fun w _ => JI (vlen RI h7 rfl) (Try.runUnderlying32 w) rfl) (qv rfl rfl rfl (jo ?_))))))
     refine jq rfl (fun h55 => ?_) (fun h55 => ?_)
     ·replace hm := ifD h55 hm
      refine jr (jb (jj (jl (jp (kG [_, _] 0 Try.isAgg50 Try.sizeOf50 rfl rfl rfl rfl (jf rfl rfl ?_))))))
      obtain ⟨t97, h56, hm⟩ := bindO hm
      refine jd [] [] rfl rfl rfl rfl rfl rfl rfl Try.call86 (fun w hh => Ye s0 s_2 qa0 na0 ca0 qa1 na1 ca1 w (HV.callee (S0 := []) (vs0 := []) hh (roR hh 0 rfl (roR hh 1 rfl roN))) hna0 hqa0 hla0 hna1 hqa1 hla1 h56) (fun l_7 h57 => ?_)
      refine jt (fun w => Try.zeroValue37 w) rfl (fun b_1 h58 => ?_)
      refine jE (us := #[_, _]) (cs' := [_, _]) (S' := [_, _]) 0 (fun w => Try.sizeOf37 w) rfl rfl rfl rfl rfl rfl rfl (jo (jj ?_))
      refine jX none (.free 0 (.free 1 (.free 2 (.hoist 3 (.free 4 (.hoist 5 (.free 6 (.hoist 7 (.one 8 .done))))))))) _ rfl (by decide +kernel) (fun w k hh => hh.draw k) (fun w hh => hh) ?_
      refine kg rfl rfl rfl (kg rfl rfl rfl ?_)
      obtain ⟨t100, h59, hm⟩ := bindO hm
      refine jk rfl rfl rfl rfl (fun w _ => qe h59 (Try.runUnderlying32 w) (Try.sizeOf3 w) rfl rfl (vlen RI h7 rfl) (vne h7)) (jA rfl rfl rfl rfl (fun w hh => jV RI 0 h59 (Try.isAgg3 w) rfl (hh.vseg 0 rfl h7) rfl (Nat.add_zero _).symm) (kO 0 Try.runUnderlying37 Try.sizeOf3 rfl rfl rfl rfl (qq 0 Try.isAgg3 rfl rfl rfl rfl rfl (kO 1 Try.runUnderlying37 Try.sizeOf3 rfl rfl rfl rfl (qq 0 Try.isAgg3 rfl rfl rfl rfl rfl (jK rfl ?_))))))
      obtain ⟨t106, h60, hm⟩ := bindO hm
      refine jd [] [] rfl rfl rfl rfl rfl rfl rfl Try.call80 (fun w hh => KB t100 t97.lo t97.hi w (HV.callee (S0 := []) (vs0 := []) hh roN)  h60) (fun l_8 h61 => ?_)
      refine ju (fun w hh => hh) (jI (jb ?_))
      refine jq rfl (fun h62 => ?_) (fun h62 => ?_)
      ·replace hm := ifT (h62) hm
       refine jp (jm rfl rfl (jo (jw (jx (je (je (jx ?_)))))))
       obtain rfl := sj hm
       have hbo := h54 _ rfl
       subst hbo
       refine je ?_
       replace hm := ocR h53
       refine je ?_
       obtain rfl := sj hm
       refine jn rfl (fun w hh => (.tmp rfl .nil)) (fun w hh => ⟨(), rfl, trivial, hh.se [] [] 3 rfl rfl rfl rfl⟩)
      ·replace hm := ifN h62 hm
       refine jr (js (jb (jh (jf rfl rfl ?_))))
       obtain ⟨t94, h63, hm⟩ := bindO hm
       refine kt h63 rfl rfl rfl (jm rfl rfl (jv ?_))
       obtain rfl := sj hm
       refine jb ?_
       exact jy _ () rfl (trivial) (sE rfl) (hsE [1] [0] 0 rfl rfl rfl rfl)
     ·replace hm := ifE h55 hm
      refine jM (ji (ji (jz ?_)))
      obtain rfl := sj hm
      have hbo := h54 _ rfl
      subst hbo
      exact jg () (rfl) (.nil) (hsE [0] [] 0 rfl rfl rfl rfl)
    ·intro j_2 hj
     have h64 := hj
     subst h64
     replace hm := ocL h53
     refine jb (jp (jm rfl rfl (jo (jw ?_))))
     obtain rfl := sj hm
     refine jn rfl (fun w hh => (.tmp rfl .nil)) (fun w hh => ⟨(), rfl, trivial, hh.se [] [] 3 rfl rfl rfl rfl⟩)
structure yS where
  sum9 : Int
  t10 : Int
structure zM where
  sum9 : Int
  k11 : Int
def zO (shares1 : (List (List Int))) (s : yS) (tenant2 : Int) (strip3 : Int) (s0 : Scalps) (s_1 : zM) : Option (zM ⊕ Int) :=
 (ix shares1 s.t10).bind fun t21 =>
 if s_1.k11 < (t21.length : Int) then
 (((if tenant2 < 0 then
 (if strip3 < 0 then
 ((ix s0.strips s_1.k11).bind fun t47 =>
 some (!decide (t47.tenant = s.t10))) else
 (if s_1.k11 = strip3 then
 ((ix s0.strips s_1.k11).bind fun t47_1 =>
 some (!decide (t47_1.tenant = s.t10))) else
 (some false))) else
 (if s.t10 = tenant2 then
 (if strip3 < 0 then
 ((ix s0.strips s_1.k11).bind fun t47_2 =>
 some (!decide (t47_2.tenant = s.t10))) else
 (if s_1.k11 = strip3 then
 ((ix s0.strips s_1.k11).bind fun t47_3 =>
 some (!decide (t47_3.tenant = s.t10))) else
 (some false))) else
 (some false))).bind fun o_3 =>
 if o_3 = true then
 ((ix shares1 s.t10).bind fun t56 =>
 (ix t56 s_1.k11).bind fun t59 =>
 (addc s_1.sum9 t59).bind fun t61 =>
 some t61) else
 (some s_1.sum9)).bind fun o_2 =>
 (addc s_1.k11 1).bind fun t26 =>
 some (.inl (⟨o_2, t26⟩ : zM))) else
 (some (.inr s_1.sum9))
def z5 (shares1 : (List (List Int))) (tenant2 : Int) (strip3 : Int) (s0 : Scalps) (s : yS) : Option (yS ⊕ Int) :=
 if s.t10 < (shares1.length : Int) then
 ((iterM FU (zO shares1 s tenant2 strip3 s0) (⟨s.sum9, 0⟩ : zM)).bind fun o_1 =>
 (addc s.t10 1).bind fun t17 =>
 some (.inl (⟨o_1, t17⟩ : yS))) else
 (some (.inr s.sum9))
def Ke (s0 : Scalps) (shares1 : (List (List Int))) (tenant2 : Int) (strip3 : Int) : Option Int :=
 (iterM FU (z5 shares1 tenant2 strip3 s0) (⟨0, 0⟩ : yS)).bind fun o =>
 some o
theorem Zc (s0 : Scalps) (shares1 : (List (List Int))) (tenant2 : Int) (strip3 : Int) (qa0 : Option Addr) (na0 ca0 : Nat) (qa1 : Option Addr) (na1 ca1 : Nat) (qa2 : Option Addr) (na2 ca2 : Nat) (ar2 : List AL) (w : World) (hw : HV w (keys [] []) [] [] [(aB qa0, aO qa0, RSt.enc s0.strips), (aB qa1, aO qa1, RSp.enc s0.carried), (aB qa2, aO qa2, RwA.enc ar2)] w) (hna0 : s0.strips.length = na0) (hqa0 : AOK na0 qa0) (hla0 : na0 ≤ ca0) (hna1 : s0.carried.length = na1) (hqa1 : AOK na1 qa1) (hla1 : na1 ≤ ca1) (hna2 : shares1.length = na2) (hqa2 : AOK na2 qa2) (hla2 : na2 ≤ ca2) (hda2 : DRO shares1 ar2) (hTa2 : ∀ t, t ∈ rsg RI shares1 ar2 → segOK w t ∧ (t.2.2 ≠ [] → t.1 ∉ keys [] [])) {res : Int} (hm : Ke s0 shares1 tenant2 strip3 = some res) :
    Calls Try.prog 32 #[.agg #[.slice qa0 na0 ca0, .slice qa1 na1 ca1], .slice qa2 na2 ca2, .int .i64 tenant2, .int .i64 strip3] w (fun en w' => ∃ l : Unit, en = .returned (.int .i64 res) ∧ (True) ∧ HV w (keys [] []) [] [] [] w') := by
  unfold Ke at hm
  refine kb Try.func32 rfl Try.ntmps32 rfl (e := [(0, _), (1, _), (2, _), (3, _)]) rfl hw (jp ?_)
  refine jH rfl rfl (fun b h1 => ?_)
  refine jm rfl rfl (j1 (jm rfl rfl (jo (jj (jp (jm rfl rfl (jo ?_)))))))
  obtain ⟨o, h2, h3⟩ := bindO hm
  refine jC (ι := Unit) (fun l => True) (fun l => [(9, .int .i64 o)]) (fun l => [(b, .cells #[.slice qa0 na0 ca0, .slice qa1 na1 ca1] 50 (0, 0))]) (fun l => []) ?_ ?_
  ·replace hm := h2
   refine jl ?_
   refine jF (ι := Unit) hm (fun s l_1 => True) (fun s l_1 => [(1, .slice qa2 na2 ca2), (2, .int .i64 tenant2), (3, .int .i64 strip3), (4, ptr b 0), (9, .int .i64 s.sum9), (10, .int .i64 s.t10)]) (fun s l_1 => [(b, .cells #[.slice qa0 na0 ca0, .slice qa1 na1 ca1] 50 (0, 0))]) (fun s l_1 => []) () (trivial) (sE rfl) (fun w hh => hh) (fun s l_1 r hpl hm h4 => ?_)
   unfold z5 at hm
   refine jj (jp (jf rfl rfl (jf rfl rfl (jc rfl rfl rfl (fun w _ => jB hna2 (Try.runUnderlying29 w) rfl) (qv rfl rfl rfl (jo ?_))))))
   refine jq rfl (fun h5 => ?_) (fun h5 => ?_)
   ·replace hm := ifD h5 hm
    refine jr (jb (jj (jl (jp (jm rfl rfl (jo ?_))))))
    obtain ⟨o_1, h6, h7⟩ := bindO hm
    refine jC (ι := Unit) (fun l_2 => True) (fun l_2 => [(1, .slice qa2 na2 ca2), (2, .int .i64 tenant2), (3, .int .i64 strip3), (4, ptr b 0), (9, .int .i64 o_1), (10, .int .i64 s.t10)]) (fun l_2 => [(b, .cells #[.slice qa0 na0 ca0, .slice qa1 na1 ca1] 50 (0, 0))]) (fun l_2 => []) ?_ ?_
    ·replace hm := h6
     refine jl ?_
     refine jF (ι := Unit) hm (fun s_1 l_3 => True) (fun s_1 l_3 => [(1, .slice qa2 na2 ca2), (2, .int .i64 tenant2), (3, .int .i64 strip3), (4, ptr b 0), (9, .int .i64 s_1.sum9), (10, .int .i64 s.t10), (11, .int .i64 s_1.k11)]) (fun s_1 l_3 => [(b, .cells #[.slice qa0 na0 ca0, .slice qa1 na1 ca1] 50 (0, 0))]) (fun s_1 l_3 => []) () (trivial) (sE rfl) (fun w hh => hh) (fun s_1 l_3 r_1 hpl hm h8 => ?_)
     unfold zO at hm
     refine jj (jp (jf rfl rfl (jf rfl rfl (jf rfl rfl ?_))))
     obtain ⟨t21, h9, hm⟩ := bindO hm
     obtain ⟨A, h10, h11, h12, h13⟩ := (hda2).row h9
     refine jc rfl rfl rfl (fun w _ => jW h10 (Try.runUnderlying29 w) (Try.sizeOf32 w) rfl rfl (Eq.trans (hda2).len.symm hna2) hqa2) (jc rfl rfl rfl (fun w hh => jV RwA 0 h10 (Try.isAgg32 w) rfl (hh.seg 2 rfl) rfl (Nat.add_zero _).symm) (jc rfl rfl rfl (fun w _ => jB h11 (Try.runUnderlying32 w) rfl) (qv rfl rfl rfl (jo ?_))))
     refine jq rfl (fun h14 => ?_) (fun h14 => ?_)
     ·replace hm := ifD h14 hm
      refine jr (jb (jj ?_))
      obtain ⟨o_2, h15, h16⟩ := bindO hm
      refine jC (ι := Unit) (fun l_4 => True) (fun l_4 => [(1, .slice qa2 na2 ca2), (2, .int .i64 tenant2), (3, .int .i64 strip3), (4, ptr b 0), (9, .int .i64 o_2), (10, .int .i64 s.t10), (11, .int .i64 s_1.k11)]) (fun l_4 => [(b, .cells #[.slice qa0 na0 ca0, .slice qa1 na1 ca1] 50 (0, 0))]) (fun l_4 => []) ?_ ?_
      ·replace hm := h15
       refine jl (jj ?_)
       obtain ⟨o_3, h17, h18⟩ := bindO hm
       refine jC (ι := Unit) (fun l_5 => True) (fun l_5 => [(1, .slice qa2 na2 ca2), (2, .int .i64 tenant2), (3, .int .i64 strip3), (4, ptr b 0), (9, .int .i64 s_1.sum9), (10, .int .i64 s.t10), (11, .int .i64 s_1.k11), (52, .bool o_3)]) (fun l_5 => [(b, .cells #[.slice qa0 na0 ca0, .slice qa1 na1 ca1] 50 (0, 0))]) (fun l_5 => []) ?_ ?_
       ·replace hm := h17
        refine jh (jf rfl rfl (qv rfl rfl rfl (jf rfl rfl ?_)))
        refine jD 29 rfl (fun h19 => ?_) (fun h19 => ?_)
        ·replace hm := ifD h19 hm
         refine g_k rfl rfl rfl rfl (g_k rfl rfl rfl rfl (g_k rfl rfl rfl rfl (j3 rfl rfl rfl (jf rfl rfl (ja rfl rfl (jf rfl rfl (ja rfl rfl ?_)))))))
         refine qv rfl rfl rfl (ja rfl rfl (jf rfl rfl ?_))
         refine jD 37 rfl (fun h20 => ?_) (fun h20 => ?_)
         ·replace hm := ifD h20 hm
          refine g_k rfl rfl rfl rfl (g_k rfl rfl rfl rfl (g_k rfl rfl rfl rfl (ja rfl rfl (j3 rfl rfl rfl (j3 rfl rfl rfl (jf rfl rfl (ja rfl rfl ?_)))))))
          refine jL 0 Try.runUnderlying50 rfl Try.sizeOf48 rfl rfl (ja rfl rfl (jU 0 Try.isAgg48 rfl rfl rfl rfl (ja rfl rfl (jf rfl rfl (ja rfl rfl ?_)))))
          obtain ⟨t47, h21, hm⟩ := bindO hm
          refine jc rfl rfl rfl (fun w _ => jW h21 (Try.runUnderlying48 w) (Try.sizeOf135 w) rfl rfl hna0 hqa0) (ja rfl rfl (jL 0 Try.runUnderlying135 rfl Try.sizeOf3 rfl rfl (ja rfl rfl (jc rfl rfl rfl (fun w hh => jV RSt 0 h21 (Try.isAgg3 w) rfl (hh.seg 0 rfl) rfl rfl) (ja rfl rfl (jf rfl rfl (ja rfl rfl ?_)))))))
          refine jc rfl rfl rfl (fun _ _ => kv rfl rfl) (j3 rfl rfl rfl (jv ?_))
          obtain rfl := sj hm
          exact jg () (trivial) (sE rfl) (fun w hh => hh)
         ·replace hm := ifE h20 hm
          refine ja rfl rfl (jf rfl rfl (ja rfl rfl (jf rfl rfl (ja rfl rfl (jc rfl rfl rfl (fun _ _ => zr rfl rfl) (ja rfl rfl (ki rfl rfl rfl ?_)))))))
          refine j3 rfl rfl rfl (jf rfl rfl ?_)
          refine jD 43 rfl (fun h22 => ?_) (fun h22 => ?_)
          ·replace hm := ifD h22 hm
           refine ja rfl rfl (jL 0 Try.runUnderlying50 rfl Try.sizeOf48 rfl rfl (ja rfl rfl (jU 0 Try.isAgg48 rfl rfl rfl rfl (ja rfl rfl (jf rfl rfl (ja rfl rfl ?_))))))
           obtain ⟨t47_1, h23, hm⟩ := bindO hm
           refine jc rfl rfl rfl (fun w _ => jW h23 (Try.runUnderlying48 w) (Try.sizeOf135 w) rfl rfl hna0 hqa0) (ja rfl rfl (jL 0 Try.runUnderlying135 rfl Try.sizeOf3 rfl rfl (ja rfl rfl (jc rfl rfl rfl (fun w hh => jV RSt 0 h23 (Try.isAgg3 w) rfl (hh.seg 0 rfl) rfl rfl) (ja rfl rfl (jf rfl rfl (ja rfl rfl ?_)))))))
           refine jc rfl rfl rfl (fun _ _ => kv rfl rfl) (j3 rfl rfl rfl (jv ?_))
           obtain rfl := sj hm
           exact jg () (trivial) (sE rfl) (fun w hh => hh)
          ·replace hm := ifE h22 hm
           refine g_k rfl rfl rfl rfl (g_k rfl rfl rfl rfl (g_k rfl rfl rfl rfl (g_k rfl rfl rfl rfl (g_k rfl rfl rfl rfl (g_k rfl rfl rfl rfl (g_k rfl rfl rfl rfl (g_k rfl rfl rfl rfl ?_)))))))
           refine ki rfl rfl rfl (jv ?_)
           obtain rfl := sj hm
           exact jg () (trivial) (sE rfl) (fun w hh => hh)
        ·replace hm := ifE h19 hm
         refine ja rfl rfl (jf rfl rfl (ja rfl rfl (jf rfl rfl (ja rfl rfl (jc rfl rfl rfl (fun _ _ => zr rfl rfl) (ki rfl rfl rfl (jf rfl rfl ?_)))))))
         refine jD 34 rfl (fun h24 => ?_) (fun h24 => ?_)
         ·replace hm := ifD h24 hm
          refine ja rfl rfl (jf rfl rfl (ja rfl rfl (qv rfl rfl rfl (ja rfl rfl (jf rfl rfl ?_)))))
          refine jD 37 rfl (fun h25 => ?_) (fun h25 => ?_)
          ·replace hm := ifD h25 hm
           refine g_k rfl rfl rfl rfl (g_k rfl rfl rfl rfl (g_k rfl rfl rfl rfl (ja rfl rfl (j3 rfl rfl rfl (j3 rfl rfl rfl (jf rfl rfl (ja rfl rfl ?_)))))))
           refine jL 0 Try.runUnderlying50 rfl Try.sizeOf48 rfl rfl (ja rfl rfl (jU 0 Try.isAgg48 rfl rfl rfl rfl (ja rfl rfl (jf rfl rfl (ja rfl rfl ?_)))))
           obtain ⟨t47_2, h26, hm⟩ := bindO hm
           refine jc rfl rfl rfl (fun w _ => jW h26 (Try.runUnderlying48 w) (Try.sizeOf135 w) rfl rfl hna0 hqa0) (ja rfl rfl (jL 0 Try.runUnderlying135 rfl Try.sizeOf3 rfl rfl (ja rfl rfl (jc rfl rfl rfl (fun w hh => jV RSt 0 h26 (Try.isAgg3 w) rfl (hh.seg 0 rfl) rfl rfl) (ja rfl rfl (jf rfl rfl (ja rfl rfl ?_)))))))
           refine jc rfl rfl rfl (fun _ _ => kv rfl rfl) (j3 rfl rfl rfl (jv ?_))
           obtain rfl := sj hm
           exact jg () (trivial) (sE rfl) (fun w hh => hh)
          ·replace hm := ifE h25 hm
           refine ja rfl rfl (jf rfl rfl (ja rfl rfl (jf rfl rfl (ja rfl rfl (jc rfl rfl rfl (fun _ _ => zr rfl rfl) (ja rfl rfl (ki rfl rfl rfl ?_)))))))
           refine j3 rfl rfl rfl (jf rfl rfl ?_)
           refine jD 43 rfl (fun h27 => ?_) (fun h27 => ?_)
           ·replace hm := ifD h27 hm
            refine ja rfl rfl (jL 0 Try.runUnderlying50 rfl Try.sizeOf48 rfl rfl (ja rfl rfl (jU 0 Try.isAgg48 rfl rfl rfl rfl (ja rfl rfl (jf rfl rfl (ja rfl rfl ?_))))))
            obtain ⟨t47_3, h28, hm⟩ := bindO hm
            refine jc rfl rfl rfl (fun w _ => jW h28 (Try.runUnderlying48 w) (Try.sizeOf135 w) rfl rfl hna0 hqa0) (ja rfl rfl (jL 0 Try.runUnderlying135 rfl Try.sizeOf3 rfl rfl (ja rfl rfl (jc rfl rfl rfl (fun w hh => jV RSt 0 h28 (Try.isAgg3 w) rfl (hh.seg 0 rfl) rfl rfl) (ja rfl rfl (jf rfl rfl (ja rfl rfl ?_)))))))
            refine jc rfl rfl rfl (fun _ _ => kv rfl rfl) (j3 rfl rfl rfl (jv ?_))
            obtain rfl := sj hm
            exact jg () (trivial) (sE rfl) (fun w hh => hh)
           ·replace hm := ifE h27 hm
            refine g_k rfl rfl rfl rfl (g_k rfl rfl rfl rfl (g_k rfl rfl rfl rfl (g_k rfl rfl rfl rfl (g_k rfl rfl rfl rfl (g_k rfl rfl rfl rfl (g_k rfl rfl rfl rfl (g_k rfl rfl rfl rfl ?_)))))))
            refine ki rfl rfl rfl (jv ?_)
            obtain rfl := sj hm
            exact jg () (trivial) (sE rfl) (fun w hh => hh)
         ·replace hm := ifE h24 hm
          refine g_k rfl rfl rfl rfl (g_k rfl rfl rfl rfl (g_k rfl rfl rfl rfl ?_))
          refine jZ rfl rfl rfl rfl rfl ?_
          refine jZ rfl rfl rfl rfl rfl ?_
          refine jZ rfl rfl rfl rfl rfl ?_
          refine g_k rfl rfl rfl rfl (ki rfl rfl rfl (jf rfl rfl (g_k rfl rfl rfl rfl (g_k rfl rfl rfl rfl (g_k rfl rfl rfl rfl (g_k rfl rfl rfl rfl (g_k rfl rfl rfl rfl ?_)))))))
          refine g_k rfl rfl rfl rfl (g_k rfl rfl rfl rfl (g_k rfl rfl rfl rfl (ki rfl rfl rfl (jv ?_))))
          obtain rfl := sj hm
          exact jg () (trivial) (sE rfl) (fun w hh => hh)
       ·intro l_5 hj
        replace hm := h18
        refine jb ?_
        refine jq rfl (fun h29 => ?_) (fun h29 => ?_)
        ·replace hm := ifT (h29) hm
         refine jh (jf rfl rfl (jf rfl rfl (jf rfl rfl ?_)))
         obtain ⟨t56, h30, hm⟩ := bindO hm
         obtain ⟨A_1, h31, h32, h33, h34⟩ := (hda2).row h30
         refine jc rfl rfl rfl (fun w _ => jW h31 (Try.runUnderlying29 w) (Try.sizeOf32 w) rfl rfl (Eq.trans (hda2).len.symm hna2) hqa2) (jc rfl rfl rfl (fun w hh => jV RwA 0 h31 (Try.isAgg32 w) rfl (hh.seg 2 rfl) rfl (Nat.add_zero _).symm) (jf rfl rfl ?_))
         obtain ⟨t59, h35, hm⟩ := bindO hm
         refine jc rfl rfl rfl (fun w _ => jW h35 (Try.runUnderlying32 w) (Try.sizeOf3 w) rfl rfl h32 h33) (jc rfl rfl rfl (fun w hh => jV RI 0 h35 (Try.isAgg3 w) rfl (hh.oldseg (hTa2 _ (rsg_ix h30 h31))) rfl (Nat.add_zero _).symm) ?_)
         obtain ⟨t61, h36, hm⟩ := bindO hm
         refine kt h36 rfl rfl rfl (jm rfl rfl (jv (js ?_)))
         obtain rfl := sj hm
         exact jg () (trivial) (sE rfl) (fun w hh => hh)
        ·replace hm := ifN h29 hm
         refine jr (js ?_)
         obtain rfl := sj hm
         exact jg () (trivial) (sE rfl) (fun w hh => hh)
      ·intro l_4 hj
       replace hm := h16
       refine jb (jh (jf rfl rfl ?_))
       obtain ⟨t26, h37, hm⟩ := bindO hm
       refine kt h37 rfl rfl rfl (jm rfl rfl (jv ?_))
       obtain rfl := sj hm
       refine jb ?_
       exact jy _ () rfl (trivial) (sE rfl) (fun w hh => hh)
     ·replace hm := ifE h14 hm
      refine jM (ji (ji (jz ?_)))
      obtain rfl := sj hm
      have hbo := h8 _ rfl
      subst hbo
      exact jg () (trivial) (sE rfl) (fun w hh => hh)
    ·intro l_2 hj
     replace hm := h7
     refine js (jb (jh (jf rfl rfl ?_)))
     obtain ⟨t17, h38, hm⟩ := bindO hm
     refine kt h38 rfl rfl rfl (jm rfl rfl (jv ?_))
     obtain rfl := sj hm
     refine jb ?_
     exact jy _ () rfl (trivial) (sE rfl) (fun w hh => hh)
   ·replace hm := ifE h5 hm
    refine jM (ji (ji (jz ?_)))
    obtain rfl := sj hm
    have hbo := h4 _ rfl
    subst hbo
    exact jg () (trivial) (sE rfl) (fun w hh => hh)
  ·intro l hj
   replace hm := h3
   refine jb (jp (jf rfl rfl (jm rfl rfl (jo (jw ?_)))))
   obtain rfl := sj hm
   refine jn rfl (fun w hh => (.tmp rfl .nil)) (fun w hh => ⟨(), rfl, trivial, hh.se [] [] 3 rfl rfl rfl rfl⟩)
structure QA where
  own3 : Scalps
  x4 : Scalps
def y3 : Plan := (.one 1 (.one 3 (.one 6 (.one 7 .done))))
def zh : Plan := (.br (.alt 3 (.one 4 (.one 6 (.one 7 .done))) (.alt 4 (.one 3 (.one 6 (.one 7 .done))) .nil)))
def QJ : Plan := (.br (.alt 1 zh (.alt 4 y3 .nil)))
def zn : Plan := (.br (.alt 3 (.one 5 (.one 6 (.one 7 .done))) (.alt 5 (.one 3 (.one 6 (.one 7 .done))) .nil)))
def QM : Plan := (.br (.alt 1 zn (.alt 5 y3 .nil)))
def QD : Plan := (.br (.alt 4 (.one 5 (.one 6 (.one 7 .done))) (.alt 5 (.one 4 (.one 6 (.one 7 .done))) .nil)))
def QO : Plan := (.br (.alt 3 QD (.alt 4 zn (.alt 5 zh .nil))))
structure y9 where
  w5 : Int
  u6 : Int
  lo7 : Int
  hi8 : Int
def zk (s0 : Scalps) : Option Bool :=
 (Qz s0).bind fun t25 =>
 if t25 = true then
 ((Kc).bind fun t26 =>
 some t26) else
 (((Yu s0).bind fun t28 =>
 (Kd s0).bind fun t30 =>
 some (⟨t28, t30⟩ : QA)).bind fun o =>
 (K9 o.x4).bind fun t32 =>
 (if t32 = 0 then
 ((Jv o.x4 (-1) (-1)).bind fun t39 =>
 (z7 o.x4 t39).bind fun t40 =>
 if (!t40.r2) = true then
 (some (⟨7, t32, t40.r0, t40.r1⟩ : y9)) else
 (some (⟨t32, 6, t40.r0, t40.r1⟩ : y9))) else
 (some (⟨t32, t32, 0, 0⟩ : y9))).bind fun o_1 =>
 (Ju o.own3).bind fun t48 =>
 (qZ o.own3).bind fun t53 =>
 (Js o.own3).bind fun t59 =>
 (z8 o.own3).bind fun t65 =>
 (if t48.r1 = o_1.w5 then
 (if t53.r2 = o_1.w5 then
 (if t59.r2 = o_1.w5 then
 (if t65.r1 = o_1.u6 then
 (if t53.r1 = o_1.lo7 then
 (if t59.r1 = o_1.hi8 then
 (some (decide (12 < (t65.r0.of_.length : Int)))) else
 (some true)) else
 (some true)) else
 (some true)) else
 (some true)) else
 (some true)) else
 (some true)).bind fun o_2 =>
 if o_2 = true then
 (some false) else
 ((if o_1.u6 = 0 then
 ((KX o.x4 t65.r0.tenants t65.r0.of_).bind fun t110 =>
 (if t110.r1 = 0 then
 (some (decide (t110.r0 < 1))) else
 (some true)).bind fun o_4 =>
 if o_4 = true then
 (some (.inr false)) else
 (some (.inl ()))) else
 ((if t65.r0.tenants = true then
 (some true) else
 (some (decide (0 < (t65.r0.of_.length : Int))))).bind fun o_5 =>
 if o_5 = true then
 (some (.inr false)) else
 (some (.inl ())))).bind fun o_3 =>
 oc o_3 (fun j => if o_1.w5 = 0 then
 ((KH o.x4 t48.r0).bind fun t157 =>
 if (!t157) = true then
 (some false) else
 ((KH o.x4 t53.r0).bind fun t157_1 =>
 if (!t157_1) = true then
 (some false) else
 ((KH o.x4 t59.r0).bind fun t157_2 =>
 if (!t157_2) = true then
 (some false) else
 (((Ke o.x4 t53.r0 (-1) (-1)).bind fun t162 =>
 if t162 = o_1.lo7 then
 ((Ke o.x4 t59.r0 (-1) (-1)).bind fun t168 =>
 if t168 = o_1.hi8 then
 ((Qh o.own3 s0).bind fun t175 =>
 if t175 = true then
 ((Kc).bind fun t178 =>
 some t178) else
 (some false)) else
 (some false)) else
 (some false)).bind fun o_7 =>
 some o_7)))) else
 (((addc (t48.r0.length : Int) (t53.r0.length : Int)).bind fun t133 =>
 (addc t133 (t59.r0.length : Int)).bind fun t136 =>
 if t136 = 0 then
 ((Qh o.own3 s0).bind fun t141 =>
 if t141 = true then
 ((Kc).bind fun t144 =>
 some t144) else
 (some false)) else
 (some false)).bind fun o_6 =>
 some o_6)) (fun r => some r)))
theorem Yh (s0 : Scalps) (qa0 : Option Addr) (na0 ca0 : Nat) (qa1 : Option Addr) (na1 ca1 : Nat) (w : World) (hw : HV w (keys [] []) [] [] [(aB qa0, aO qa0, RSt.enc s0.strips), (aB qa1, aO qa1, RSp.enc s0.carried)] w) (hna0 : s0.strips.length = na0) (hqa0 : AOK na0 qa0) (hla0 : na0 ≤ ca0) (hna1 : s0.carried.length = na1) (hqa1 : AOK na1 qa1) (hla1 : na1 ≤ ca1) {res : Bool} (hm : zk s0 = some res) :
    Calls Try.prog 4 #[.agg #[.slice qa0 na0 ca0, .slice qa1 na1 ca1]] w (fun en w' => ∃ l : Unit, en = .returned (.bool res) ∧ (True) ∧ HV w (keys [] []) [] [] [] w') := by
  unfold zk at hm
  refine kb Try.func4 rfl Try.ntmps4 rfl (e := [(0, _)]) rfl hw (jp ?_)
  refine jH rfl rfl (fun b h1 => ?_)
  refine jm rfl rfl (jo (jj (jp (kG [_, _] 0 Try.isAgg28 Try.sizeOf28 rfl rfl rfl rfl ?_))))
  obtain ⟨t25, h2, hm⟩ := bindO hm
  refine jd [] [] rfl rfl rfl rfl rfl rfl rfl Try.call21 (fun w hh => jam s0 qa0 na0 ca0 qa1 na1 ca1 w (HV.callee (S0 := []) (vs0 := []) hh (roR hh 0 rfl (roR hh 1 rfl roN))) hna0 hqa0 hla0 hna1 hqa1 hla1 h2) (fun l h3 => ?_)
  refine jo ?_
  refine jq rfl (fun h4 => ?_) (fun h4 => ?_)
  ·replace hm := ifT (h4) hm
   refine jp ?_
   obtain ⟨t26, h5, hm⟩ := bindO hm
   refine jd [] [] rfl rfl rfl rfl rfl rfl rfl Try.call20 (fun w hh => Yw  w (HV.callee (S0 := []) (vs0 := []) hh roN)  h5) (fun l_1 h6 => ?_)
   refine jm rfl rfl (jo (jw (je ?_)))
   obtain rfl := sj hm
   refine jn rfl (fun w hh => (.tmp rfl .nil)) (fun w hh => ⟨(), rfl, trivial, hh.se [] [] 2 rfl rfl rfl rfl⟩)
  ·replace hm := ifN h4 hm
   refine jr (jb (jj ?_))
   obtain ⟨o, h7, h8⟩ := bindO hm
   refine jC (ι := Nat × Nat × VL × VL × VL × VL) (fun l_2 => VOK 7 l_2.2.2.1.n l_2.2.2.1.cap (RSt.enc o.own3.strips) l_2.2.2.1.sp l_2.2.2.1.q ∧ VOK 2 l_2.2.2.2.1.n l_2.2.2.2.1.cap (RSp.enc o.own3.carried) l_2.2.2.2.1.sp l_2.2.2.2.1.q ∧ VOK 7 l_2.2.2.2.2.1.n l_2.2.2.2.2.1.cap (RSt.enc o.x4.strips) l_2.2.2.2.2.1.sp l_2.2.2.2.2.1.q ∧ VOK 2 l_2.2.2.2.2.2.n l_2.2.2.2.2.2.cap (RSp.enc o.x4.carried) l_2.2.2.2.2.2.sp l_2.2.2.2.2.2.q) (fun l_2 => [(1, ptr b 0), (3, ptr l_2.1 0), (4, ptr l_2.2.1 0)]) (fun l_2 => [(b, .cells #[.slice qa0 na0 ca0, .slice qa1 na1 ca1] 28 (0, 0)), (l_2.1, .cells #[slv l_2.2.2.1.q l_2.2.2.1.n l_2.2.2.1.cap, slv l_2.2.2.2.1.q l_2.2.2.2.1.n l_2.2.2.2.1.cap] 28 (0, 0)), (l_2.2.1, .cells #[slv l_2.2.2.2.2.1.q l_2.2.2.2.2.1.n l_2.2.2.2.2.1.cap, slv l_2.2.2.2.2.2.q l_2.2.2.2.2.2.n l_2.2.2.2.2.2.cap] 50 (0, 0))]) (fun l_2 => [⟨77, RSt.enc o.own3.strips, l_2.2.2.1.sp, l_2.2.2.1.q, []⟩, ⟨37, RSp.enc o.own3.carried, l_2.2.2.2.1.sp, l_2.2.2.2.1.q, []⟩, ⟨135, RSt.enc o.x4.strips, l_2.2.2.2.2.1.sp, l_2.2.2.2.2.1.q, []⟩, ⟨37, RSp.enc o.x4.carried, l_2.2.2.2.2.2.sp, l_2.2.2.2.2.2.q, []⟩]) ?_ ?_
   ·replace hm := h7
    obtain ⟨t28, h13, hm⟩ := bindO hm
    obtain ⟨t30, h14, hm⟩ := bindO hm
    refine jX none (.hoist 0 (.hoist 2 (.br (.alt 1 QO (.alt 4 QM (.alt 5 QJ .nil)))))) _ rfl (by decide +kernel) (fun w k hh => hh.draw k) (fun w hh => hh) ?_
    refine jA rfl rfl rfl rfl (fun w hh => kl (vs := [_, _]) (Try.isAgg28 w) (Try.sizeOf28 w) rfl (hh.cells 0 rfl rfl)) (jA rfl rfl rfl rfl (fun w hh => kl (vs := [_, _]) (Try.isAgg28 w) (Try.sizeOf28 w) rfl (hh.cells 0 rfl rfl)) ?_)
    refine Qg (.one 7 .done) (fun g => ∀ (b_1 : Nat) (b_2 : Nat) (L : VL) (L_1 : VL) (L_2 : VL) (L_3 : VL), vk 7 L (RSt.enc t30.strips) → vk 2 L_1 (RSp.enc t30.carried) → vk 7 L_2 (RSt.enc t28.strips) → vk 2 L_3 (RSp.enc t28.carried) → g [(1, ptr b 0), (3, ptr b_1 0), (4, ptr b_2 0), (30, .agg #[sL L, sL L_1])] [(b, .cells #[.slice qa0 na0 ca0, .slice qa1 na1 ca1] 28 (0, 0)), (b_1, .cells #[sL L_2, sL L_3] 28 (0, 0)), (b_2, .cells #[slv none 0 0, slv none 0 0] 50 (0, 0))] [vL 135 L (RSt.enc t30.strips), vL 37 L_1 (RSp.enc t30.carried), vL 77 L_2 (RSt.enc t28.strips), vL 37 L_3 (RSp.enc t28.carried)]) ?_ (fun h19 => ?_)
    ·intro b_1 b_2 L L_1 L_2 L_3 h15 h16 h17 h18
     refine jK rfl (jE (us := #[_, _]) (cs' := [_, _]) (S' := [_, _, _]) 2 (fun w => Try.sizeOf50 w) rfl rfl rfl rfl rfl rfl rfl (ju (hsE [0] [] 0 rfl rfl rfl rfl) (jI ?_)))
     obtain rfl := sj hm
     exact jg (b_1, b_2, L_2, L_3, L, L_1) (⟨h17, h18, h15, h16⟩) (sE rfl) (hsE [0, 1, 2] [2, 3, 0, 1] 0 rfl rfl rfl rfl)
    refine Qg (.one 6 (.one 7 .done)) (fun g => ∀ (b_3 : Nat) (b_4 : Nat) (L_4 : VL) (L_5 : VL) (L_6 : VL) (L_7 : VL), vk 7 L_4 (RSt.enc t28.strips) → vk 2 L_5 (RSp.enc t28.carried) → vk 7 L_6 (RSt.enc t30.strips) → vk 2 L_7 (RSp.enc t30.carried) → g [(1, ptr b 0), (3, ptr b_3 0), (4, ptr b_4 0), (28, .agg #[sL L_4, sL L_5]), (30, .agg #[sL L_6, sL L_7])] [(b, .cells #[.slice qa0 na0 ca0, .slice qa1 na1 ca1] 28 (0, 0)), (b_3, .cells #[slv none 0 0, slv none 0 0] 28 (0, 0)), (b_4, .cells #[slv none 0 0, slv none 0 0] 50 (0, 0))] [vL 77 L_4 (RSt.enc t28.strips), vL 37 L_5 (RSp.enc t28.carried), vL 135 L_6 (RSt.enc t30.strips), vL 37 L_7 (RSp.enc t30.carried)]) ?_ (fun h24 => ?_)
    ·intro b_3 b_4 L_4 L_5 L_6 L_7 h20 h21 h22 h23
     refine jK rfl (jE (us := #[_, _]) (cs' := [_, _]) (S' := [_, _, _]) 1 (fun w => Try.sizeOf28 w) rfl rfl rfl rfl rfl rfl rfl (ju (hsE [0] [] 0 rfl rfl rfl rfl) ?_))
     exact K5 (h19 b_3 b_4 L_6 L_7 L_4 L_5 h22 h23 h20 h21) (sE rfl) (hsE [0, 1, 2] [2, 3, 0, 1] 0 rfl rfl rfl rfl)
    refine Qg (.one 3 (.one 6 (.one 7 .done))) (fun g => ∀ (b_5 : Nat) (b_6 : Nat) (L_8 : VL) (L_9 : VL), vk 7 L_8 (RSt.enc t28.strips) → vk 2 L_9 (RSp.enc t28.carried) → g [(1, ptr b 0), (3, ptr b_5 0), (4, ptr b_6 0), (28, .agg #[sL L_8, sL L_9]), (29, .agg #[.slice qa0 na0 ca0, .slice qa1 na1 ca1])] [(b, .cells #[.slice qa0 na0 ca0, .slice qa1 na1 ca1] 28 (0, 0)), (b_5, .cells #[slv none 0 0, slv none 0 0] 28 (0, 0)), (b_6, .cells #[slv none 0 0, slv none 0 0] 50 (0, 0))] [vL 77 L_8 (RSt.enc t28.strips), vL 37 L_9 (RSp.enc t28.carried)]) ?_ (fun h27 => ?_)
    ·intro b_5 b_6 L_8 L_9 h25 h26
     refine jK rfl ?_
     refine jd [] [] rfl rfl rfl rfl rfl rfl rfl Try.call23 (fun w hh => Qj s0 qa0 na0 ca0 qa1 na1 ca1 w (HV.callee (S0 := []) (vs0 := []) hh (roR hh 0 rfl (roR hh 1 rfl roN))) hna0 hqa0 hla0 hna1 hqa1 hla1 h14) (fun l_3 h28 => ?_)
     obtain ⟨h29, h30⟩ := h28
     refine jS (S' := [_, _, _]) (vs' := [_, _, _, _]) [0, 1, 2] [0, 1, 2, 3] 0 rfl rfl rfl rfl (ju (hsE [0] [] 0 rfl rfl rfl rfl) ?_)
     exact K5 (h24 b_5 b_6 L_8 L_9 l_3.1 l_3.2 h25 h26 h29 h30) (sE rfl) (hsE [0, 1, 2] [2, 3, 0, 1] 0 rfl rfl rfl rfl)
    refine Qg (.one 4 (.one 6 (.one 7 .done))) (fun g => ∀ (b_7 : Nat) (L_10 : VL) (L_11 : VL) (L_12 : VL) (L_13 : VL), vk 7 L_10 (RSt.enc t28.strips) → vk 2 L_11 (RSp.enc t28.carried) → vk 7 L_12 (RSt.enc t30.strips) → vk 2 L_13 (RSp.enc t30.carried) → g [(1, ptr b 0), (4, ptr b_7 0), (28, .agg #[sL L_10, sL L_11]), (30, .agg #[sL L_12, sL L_13])] [(b, .cells #[.slice qa0 na0 ca0, .slice qa1 na1 ca1] 28 (0, 0)), (b_7, .cells #[slv none 0 0, slv none 0 0] 50 (0, 0))] [vL 77 L_10 (RSt.enc t28.strips), vL 37 L_11 (RSp.enc t28.carried), vL 135 L_12 (RSt.enc t30.strips), vL 37 L_13 (RSp.enc t30.carried)]) ?_ (fun h35 => ?_)
    ·intro b_7 L_10 L_11 L_12 L_13 h31 h32 h33 h34
     refine jK rfl ?_
     refine jt (fun w => Try.zeroValue28 w) rfl (fun b_8 h36 => ?_)
     refine ju (hsE [1] [] 0 rfl rfl rfl rfl) ?_
     exact K5 (h24 b_8 b_7 L_10 L_11 L_12 L_13 h31 h32 h33 h34) (sE rfl) (hsE [1, 0, 2] [0, 1, 2, 3] 0 rfl rfl rfl rfl)
    refine Qg (.one 5 (.one 6 (.one 7 .done))) (fun g => ∀ (b_9 : Nat) (L_14 : VL) (L_15 : VL) (L_16 : VL) (L_17 : VL), vk 7 L_14 (RSt.enc t28.strips) → vk 2 L_15 (RSp.enc t28.carried) → vk 7 L_16 (RSt.enc t30.strips) → vk 2 L_17 (RSp.enc t30.carried) → g [(1, ptr b 0), (3, ptr b_9 0), (28, .agg #[sL L_14, sL L_15]), (30, .agg #[sL L_16, sL L_17])] [(b, .cells #[.slice qa0 na0 ca0, .slice qa1 na1 ca1] 28 (0, 0)), (b_9, .cells #[slv none 0 0, slv none 0 0] 28 (0, 0))] [vL 77 L_14 (RSt.enc t28.strips), vL 37 L_15 (RSp.enc t28.carried), vL 135 L_16 (RSt.enc t30.strips), vL 37 L_17 (RSp.enc t30.carried)]) ?_ (fun h41 => ?_)
    ·intro b_9 L_14 L_15 L_16 L_17 h37 h38 h39 h40
     refine jK rfl ?_
     refine jt (fun w => Try.zeroValue50 w) rfl (fun b_10 h42 => ?_)
     refine ju (hsE [1] [] 0 rfl rfl rfl rfl) ?_
     exact K5 (h24 b_9 b_10 L_14 L_15 L_16 L_17 h37 h38 h39 h40) (sE rfl) (hsE [1, 2, 0] [0, 1, 2, 3] 0 rfl rfl rfl rfl)
    refine Qg y3 (fun g => ∀ (b_11 : Nat) (b_12 : Nat), g [(1, ptr b 0), (3, ptr b_11 0), (4, ptr b_12 0), (27, .agg #[.slice qa0 na0 ca0, .slice qa1 na1 ca1]), (29, .agg #[.slice qa0 na0 ca0, .slice qa1 na1 ca1])] [(b, .cells #[.slice qa0 na0 ca0, .slice qa1 na1 ca1] 28 (0, 0)), (b_11, .cells #[slv none 0 0, slv none 0 0] 28 (0, 0)), (b_12, .cells #[slv none 0 0, slv none 0 0] 50 (0, 0))] []) ?_ (fun h43 => ?_)
    ·intro b_11 b_12
     refine jK rfl ?_
     refine jd [] [] rfl rfl rfl rfl rfl rfl rfl Try.call22 (fun w hh => YU s0 qa0 na0 ca0 qa1 na1 ca1 w (HV.callee (S0 := []) (vs0 := []) hh (roR hh 0 rfl (roR hh 1 rfl roN))) hna0 hqa0 hla0 hna1 hqa1 hla1 h13) (fun l_4 h44 => ?_)
     obtain ⟨h45, h46⟩ := h44
     refine jS (S' := [_, _, _]) (vs' := [_, _]) [0, 1, 2] [0, 1] 0 rfl rfl rfl rfl (ju (hsE [0] [] 0 rfl rfl rfl rfl) ?_)
     exact K5 (h27 b_11 b_12 l_4.1 l_4.2 h45 h46) (sE rfl) (fun w hh => hh)
    refine Qg zh (fun g => ∀ (b_13 : Nat) (L_18 : VL) (L_19 : VL), vk 7 L_18 (RSt.enc t28.strips) → vk 2 L_19 (RSp.enc t28.carried) → g [(1, ptr b 0), (4, ptr b_13 0), (28, .agg #[sL L_18, sL L_19]), (29, .agg #[.slice qa0 na0 ca0, .slice qa1 na1 ca1])] [(b, .cells #[.slice qa0 na0 ca0, .slice qa1 na1 ca1] 28 (0, 0)), (b_13, .cells #[slv none 0 0, slv none 0 0] 50 (0, 0))] [vL 77 L_18 (RSt.enc t28.strips), vL 37 L_19 (RSp.enc t28.carried)]) ?_ (fun h49 => ?_)
    ·intro b_13 L_18 L_19 h47 h48
     refine YX ?_
     refine kQ rfl ?_ ?_
     ·refine jd [] [] rfl rfl rfl rfl rfl rfl rfl Try.call23 (fun w hh => Qj s0 qa0 na0 ca0 qa1 na1 ca1 w (HV.callee (S0 := []) (vs0 := []) hh (roR hh 0 rfl (roR hh 1 rfl roN))) hna0 hqa0 hla0 hna1 hqa1 hla1 h14) (fun l_5 h50 => ?_)
      obtain ⟨h51, h52⟩ := h50
      refine jS (S' := [_, _]) (vs' := [_, _, _, _]) [0, 1] [0, 1, 2, 3] 0 rfl rfl rfl rfl (ju (hsE [0] [] 0 rfl rfl rfl rfl) ?_)
      exact K5 (h35 b_13 L_18 L_19 l_5.1 l_5.2 h47 h48 h51 h52) (sE rfl) (hsE [0, 1] [2, 3, 0, 1] 0 rfl rfl rfl rfl)
     refine kQ rfl ?_ ?_
     ·refine jt (fun w => Try.zeroValue28 w) rfl (fun b_14 h53 => ?_)
      refine ju (hsE [1] [] 0 rfl rfl rfl rfl) ?_
      exact K5 (h27 b_14 b_13 L_18 L_19 h47 h48) (sE rfl) (hsE [1, 0, 2] [0, 1] 0 rfl rfl rfl rfl)
     exact Ks
    refine Qg zn (fun g => ∀ (b_15 : Nat) (L_20 : VL) (L_21 : VL), vk 7 L_20 (RSt.enc t28.strips) → vk 2 L_21 (RSp.enc t28.carried) → g [(1, ptr b 0), (3, ptr b_15 0), (28, .agg #[sL L_20, sL L_21]), (29, .agg #[.slice qa0 na0 ca0, .slice qa1 na1 ca1])] [(b, .cells #[.slice qa0 na0 ca0, .slice qa1 na1 ca1] 28 (0, 0)), (b_15, .cells #[slv none 0 0, slv none 0 0] 28 (0, 0))] [vL 77 L_20 (RSt.enc t28.strips), vL 37 L_21 (RSp.enc t28.carried)]) ?_ (fun h56 => ?_)
    ·intro b_15 L_20 L_21 h54 h55
     refine YX ?_
     refine kQ rfl ?_ ?_
     ·refine jd [] [] rfl rfl rfl rfl rfl rfl rfl Try.call23 (fun w hh => Qj s0 qa0 na0 ca0 qa1 na1 ca1 w (HV.callee (S0 := []) (vs0 := []) hh (roR hh 0 rfl (roR hh 1 rfl roN))) hna0 hqa0 hla0 hna1 hqa1 hla1 h14) (fun l_6 h57 => ?_)
      obtain ⟨h58, h59⟩ := h57
      refine jS (S' := [_, _]) (vs' := [_, _, _, _]) [0, 1] [0, 1, 2, 3] 0 rfl rfl rfl rfl (ju (hsE [0] [] 0 rfl rfl rfl rfl) ?_)
      exact K5 (h41 b_15 L_20 L_21 l_6.1 l_6.2 h54 h55 h58 h59) (sE rfl) (hsE [0, 1] [2, 3, 0, 1] 0 rfl rfl rfl rfl)
     refine kQ rfl ?_ ?_
     ·refine jt (fun w => Try.zeroValue50 w) rfl (fun b_16 h60 => ?_)
      refine ju (hsE [1] [] 0 rfl rfl rfl rfl) ?_
      exact K5 (h27 b_15 b_16 L_20 L_21 h54 h55) (sE rfl) (hsE [1, 2, 0] [0, 1] 0 rfl rfl rfl rfl)
     exact Ks
    refine YX ?_
    refine kQ rfl ?_ ?_
    ·refine jd [] [] rfl rfl rfl rfl rfl rfl rfl Try.call22 (fun w hh => YU s0 qa0 na0 ca0 qa1 na1 ca1 w (HV.callee (S0 := []) (vs0 := []) hh (roR hh 0 rfl (roR hh 1 rfl roN))) hna0 hqa0 hla0 hna1 hqa1 hla1 h13) (fun l_7 h61 => ?_)
     obtain ⟨h62, h63⟩ := h61
     refine jS (S' := [_]) (vs' := [_, _]) [0] [0, 1] 0 rfl rfl rfl rfl (ju (hsE [0] [] 0 rfl rfl rfl rfl) (YX ?_))
     refine kQ rfl ?_ ?_
     ·refine jd [] [] rfl rfl rfl rfl rfl rfl rfl Try.call23 (fun w hh => Qj s0 qa0 na0 ca0 qa1 na1 ca1 w (HV.callee (S0 := []) (vs0 := []) hh (roR hh 0 rfl (roR hh 1 rfl roN))) hna0 hqa0 hla0 hna1 hqa1 hla1 h14) (fun l_8 h64 => ?_)
      obtain ⟨h65, h66⟩ := h64
      refine jS (S' := [_]) (vs' := [_, _, _, _]) [0] [0, 1, 2, 3] 0 rfl rfl rfl rfl (ju (hsE [0] [] 0 rfl rfl rfl rfl) (YX ?_))
      refine kQ rfl ?_ ?_
      ·refine jt (fun w => Try.zeroValue28 w) rfl (fun b_17 h67 => ?_)
       refine ju (hsE [1] [] 0 rfl rfl rfl rfl) ?_
       exact K5 (h41 b_17 l_7.1 l_7.2 l_8.1 l_8.2 h62 h63 h65 h66) (sE rfl) (hsE [1, 0] [2, 3, 0, 1] 0 rfl rfl rfl rfl)
      refine kQ rfl ?_ ?_
      ·refine jt (fun w => Try.zeroValue50 w) rfl (fun b_18 h68 => ?_)
       refine ju (hsE [1] [] 0 rfl rfl rfl rfl) ?_
       exact K5 (h35 b_18 l_7.1 l_7.2 l_8.1 l_8.2 h62 h63 h65 h66) (sE rfl) (hsE [1, 0] [2, 3, 0, 1] 0 rfl rfl rfl rfl)
      exact Ks
     refine kQ rfl ?_ ?_
     ·refine jt (fun w => Try.zeroValue28 w) rfl (fun b_19 h69 => ?_)
      refine ju (hsE [1] [] 0 rfl rfl rfl rfl) ?_
      exact K5 (h56 b_19 l_7.1 l_7.2 h62 h63) (sE rfl) (hsE [1, 0] [0, 1] 0 rfl rfl rfl rfl)
     refine kQ rfl ?_ ?_
     ·refine jt (fun w => Try.zeroValue50 w) rfl (fun b_20 h70 => ?_)
      refine ju (hsE [1] [] 0 rfl rfl rfl rfl) ?_
      exact K5 (h49 b_20 l_7.1 l_7.2 h62 h63) (sE rfl) (hsE [1, 0] [0, 1] 0 rfl rfl rfl rfl)
     exact Ks
    refine kQ rfl ?_ ?_
    ·refine jt (fun w => Try.zeroValue28 w) rfl (fun b_21 h71 => ?_)
     refine ju (hsE [1] [] 0 rfl rfl rfl rfl) (YX ?_)
     refine kQ rfl ?_ ?_
     ·refine jd [] [] rfl rfl rfl rfl rfl rfl rfl Try.call22 (fun w hh => YU s0 qa0 na0 ca0 qa1 na1 ca1 w (HV.callee (S0 := []) (vs0 := []) hh (roR hh 0 rfl (roR hh 1 rfl roN))) hna0 hqa0 hla0 hna1 hqa1 hla1 h13) (fun l_9 h72 => ?_)
      obtain ⟨h73, h74⟩ := h72
      refine jS (S' := [_, _]) (vs' := [_, _]) [0, 1] [0, 1] 0 rfl rfl rfl rfl (ju (hsE [1] [] 0 rfl rfl rfl rfl) ?_)
      exact K5 (h56 b_21 l_9.1 l_9.2 h73 h74) (sE rfl) (hsE [1, 0] [0, 1] 0 rfl rfl rfl rfl)
     refine kQ rfl ?_ ?_
     ·refine jt (fun w => Try.zeroValue50 w) rfl (fun b_22 h75 => ?_)
      refine ju (hsE [2] [] 0 rfl rfl rfl rfl) ?_
      exact K5 (h43 b_21 b_22) (sE rfl) (hsE [2, 1, 0] [] 0 rfl rfl rfl rfl)
     exact Ks
    refine kQ rfl ?_ ?_
    ·refine jt (fun w => Try.zeroValue50 w) rfl (fun b_23 h76 => ?_)
     refine ju (hsE [1] [] 0 rfl rfl rfl rfl) (YX ?_)
     refine kQ rfl ?_ ?_
     ·refine jd [] [] rfl rfl rfl rfl rfl rfl rfl Try.call22 (fun w hh => YU s0 qa0 na0 ca0 qa1 na1 ca1 w (HV.callee (S0 := []) (vs0 := []) hh (roR hh 0 rfl (roR hh 1 rfl roN))) hna0 hqa0 hla0 hna1 hqa1 hla1 h13) (fun l_10 h77 => ?_)
      obtain ⟨h78, h79⟩ := h77
      refine jS (S' := [_, _]) (vs' := [_, _]) [0, 1] [0, 1] 0 rfl rfl rfl rfl (ju (hsE [1] [] 0 rfl rfl rfl rfl) ?_)
      exact K5 (h49 b_23 l_10.1 l_10.2 h78 h79) (sE rfl) (hsE [1, 0] [0, 1] 0 rfl rfl rfl rfl)
     refine kQ rfl ?_ ?_
     ·refine jt (fun w => Try.zeroValue28 w) rfl (fun b_24 h80 => ?_)
      refine ju (hsE [2] [] 0 rfl rfl rfl rfl) ?_
      exact K5 (h43 b_24 b_23) (sE rfl) (hsE [2, 0, 1] [] 0 rfl rfl rfl rfl)
     exact Ks
    exact Ks
   ·intro l_2 hj
    obtain ⟨h9, h10, h11, h12⟩ := hj
    replace hm := h8
    refine jb (jp (kG [_, _] 2 Try.isAgg50 Try.sizeOf50 rfl rfl rfl rfl ?_))
    obtain ⟨t32, h81, hm⟩ := bindO hm
    refine jd [] [] rfl rfl rfl rfl rfl rfl rfl Try.call24 (fun w hh => jai o.x4 (qA l_2.2.2.2.2.1.q) l_2.2.2.2.2.1.n l_2.2.2.2.2.1.cap (qA l_2.2.2.2.2.2.q) l_2.2.2.2.2.2.n l_2.2.2.2.2.2.cap w (HV.callee (S0 := []) (vs0 := []) hh (roC (hh.vsepA 2 rfl h11) (roC (hh.vsepA 3 rfl h12) roN))) (vlen RSt h11 rfl) (AOK.q (vne h11)) (h11).hle (vlen RSp h12 rfl) (AOK.q (vne h12)) (h12).hle h81) (fun l_11 h82 => ?_)
    refine jm rfl rfl (j1 (jf rfl rfl (jm rfl rfl (j1 (jm rfl rfl (jm rfl rfl (jo ?_)))))))
    refine jj ?_
    obtain ⟨o_1, h83, h84⟩ := bindO hm
    refine jC (ι := Unit) (fun l_12 => True) (fun l_12 => [(1, ptr b 0), (3, ptr l_2.1 0), (4, ptr l_2.2.1 0), (5, .int .i64 o_1.w5), (6, .int .i64 o_1.u6), (7, .int .i64 o_1.lo7), (8, .int .i64 o_1.hi8)]) (fun l_12 => [(b, .cells #[.slice qa0 na0 ca0, .slice qa1 na1 ca1] 28 (0, 0)), (l_2.1, .cells #[slv l_2.2.2.1.q l_2.2.2.1.n l_2.2.2.1.cap, slv l_2.2.2.2.1.q l_2.2.2.2.1.n l_2.2.2.2.1.cap] 28 (0, 0)), (l_2.2.1, .cells #[slv l_2.2.2.2.2.1.q l_2.2.2.2.2.1.n l_2.2.2.2.2.1.cap, slv l_2.2.2.2.2.2.q l_2.2.2.2.2.2.n l_2.2.2.2.2.2.cap] 50 (0, 0))]) (fun l_12 => [⟨77, RSt.enc o.own3.strips, l_2.2.2.1.sp, l_2.2.2.1.q, []⟩, ⟨37, RSp.enc o.own3.carried, l_2.2.2.2.1.sp, l_2.2.2.2.1.q, []⟩, ⟨135, RSt.enc o.x4.strips, l_2.2.2.2.2.1.sp, l_2.2.2.2.2.1.q, []⟩, ⟨37, RSp.enc o.x4.carried, l_2.2.2.2.2.2.sp, l_2.2.2.2.2.2.q, []⟩]) ?_ ?_
    ·replace hm := h83
     refine jp (jf rfl rfl (jc rfl rfl rfl (fun _ _ => zr rfl rfl) (jo ?_)))
     refine jq rfl (fun h85 => ?_) (fun h85 => ?_)
     ·replace hm := ifD h85 hm
      refine jp (jm rfl rfl (jo (jj ?_)))
      refine jX none (.hoist 0 (.hoist 1 (.one 2 (.one 3 (.free 4 (.free 5 (.free 6 (.free 7 (.free 8 (.free 9 (.free 10 .done))))))))))) _ rfl (by decide +kernel) (fun w k hh => hh.draw k) (fun w hh => hh) ?_
      refine jA rfl rfl rfl rfl (fun w hh => kl (vs := [_, _]) (Try.isAgg50 w) (Try.sizeOf50 w) rfl (hh.cells 2 rfl rfl)) (jA rfl rfl rfl rfl (fun w hh => kl (vs := [_, _]) (Try.isAgg50 w) (Try.sizeOf50 w) rfl (hh.cells 2 rfl rfl)) (jK rfl ?_))
      obtain ⟨t39, h86, hm⟩ := bindO hm
      refine jd [] [] rfl rfl rfl rfl rfl rfl rfl Try.call26 (fun w hh => ZV o.x4 (-1) (-1) (qA l_2.2.2.2.2.1.q) l_2.2.2.2.2.1.n l_2.2.2.2.2.1.cap (qA l_2.2.2.2.2.2.q) l_2.2.2.2.2.2.n l_2.2.2.2.2.2.cap w (HV.callee (S0 := []) (vs0 := []) hh (roC (hh.vsepA 2 rfl h11) (roC (hh.vsepA 3 rfl h12) roN))) (vlen RSt h11 rfl) (AOK.q (vne h11)) (h11).hle (vlen RSp h12 rfl) (AOK.q (vne h12)) (h12).hle h86) (fun l_13 h87 => ?_)
      obtain ⟨h88, h89⟩ := h87
      refine jS (S' := [_, _, _]) (vs' := [_, _, _, _, _]) [0, 1, 2] [0, 1, 2, 3, 4] 0 rfl rfl rfl rfl (ju (hsE [0, 1, 2] [1, 2, 3, 4] 0 rfl rfl rfl rfl) (jK rfl ?_))
      obtain ⟨t40, h90, hm⟩ := bindO hm
      refine jd [] [] rfl rfl rfl rfl rfl rfl rfl Try.call25 (fun w hh => jak o.x4 t39 (qA l_2.2.2.2.2.1.q) l_2.2.2.2.2.1.n l_2.2.2.2.2.1.cap (qA l_2.2.2.2.2.2.q) l_2.2.2.2.2.2.n l_2.2.2.2.2.2.cap (qA l_13.v.q) l_13.v.n l_13.v.cap (toAL l_13.rs) w (HV.callee (S0 := []) (vs0 := []) hh (roC (hh.vsepA 3 rfl h11) (roC (hh.vsepA 4 rfl h12) (roC (hh.vsepD 0 rfl h88) roN)))) (vlen RSt h11 rfl) (AOK.q (vne h11)) (h11).hle (vlen RSp h12 rfl) (AOK.q (vne h12)) (h12).hle (Eq.trans (h89).len (vlen RwH h88 rfl)) (AOK.q (vne h88)) (h88).hle ((h89).toDRO rfl) (hh.dsepT 0 rfl h89) h90) (fun l_14 h91 => ?_)
      refine ju (hsE [0, 1, 2] [1, 2, 3, 4] 0 rfl rfl rfl rfl) (kg rfl rfl rfl (jk rfl rfl rfl rfl (fun _ _ => yy rfl rfl) (jk rfl rfl rfl rfl (fun _ _ => yy rfl rfl) (jk rfl rfl rfl rfl (fun _ _ => yy rfl rfl) (jk rfl rfl rfl rfl (fun _ _ => jN rfl) (jk rfl rfl rfl rfl (fun _ _ => jN rfl) (jk rfl rfl rfl rfl (fun _ _ => jN rfl) ?_)))))))
      refine jI (jb (jp (jf rfl rfl (jc rfl rfl rfl (fun _ _ => kq rfl) (jo ?_)))))
      refine jq rfl (fun h92 => ?_) (fun h92 => ?_)
      ·replace hm := ifT (h92) hm
       refine jh (jm rfl rfl (jv ?_))
       obtain rfl := sj hm
       exact jg () (trivial) (sE rfl) (hsE [0, 1, 2] [1, 2, 3, 4] 0 rfl rfl rfl rfl)
      ·replace hm := ifN h92 hm
       refine jh (jm rfl rfl (jv ?_))
       obtain rfl := sj hm
       exact jg () (trivial) (sE rfl) (hsE [0, 1, 2] [1, 2, 3, 4] 0 rfl rfl rfl rfl)
     ·replace hm := ifE h85 hm
      refine jr ?_
      obtain rfl := sj hm
      exact jg () (trivial) (sE rfl) (fun w hh => hh)
    ·intro l_12 hj
     replace hm := h84
     refine jb (jp (kG [_, _] 1 Try.isAgg28 Try.sizeOf28 rfl rfl rfl rfl ?_))
     obtain ⟨t48, h93, hm⟩ := bindO hm
     refine jd [] [] rfl rfl rfl rfl rfl rfl rfl Try.call27 (fun w hh => YM o.own3 (qA l_2.2.2.1.q) l_2.2.2.1.n l_2.2.2.1.cap (qA l_2.2.2.2.1.q) l_2.2.2.2.1.n l_2.2.2.2.1.cap w (HV.callee (S0 := []) (vs0 := []) hh (roC (hh.vsepA 0 rfl h9) (roC (hh.vsepA 1 rfl h10) roN))) (vlen RSt h9 rfl) (AOK.q (vne h9)) (h9).hle (vlen RSp h10 rfl) (AOK.q (vne h10)) (h10).hle h93) (fun l_15 h94 => ?_)
     obtain ⟨h95, h96⟩ := h94
     refine jS (S' := [_, _, _]) (vs' := [_, _, _, _, _]) [0, 1, 2] [0, 1, 2, 3, 4] 0 rfl rfl rfl rfl (jf rfl rfl (kj rfl rfl rfl (kj rfl rfl rfl (jm rfl rfl (jm rfl rfl (j1 (kG [_, _] 1 Try.isAgg28 Try.sizeOf28 rfl rfl rfl rfl ?_)))))))
     obtain ⟨t53, h97, hm⟩ := bindO hm
     refine jd [] [] rfl rfl rfl rfl rfl rfl rfl Try.call17 (fun w hh => Yp o.own3 (qA l_2.2.2.1.q) l_2.2.2.1.n l_2.2.2.1.cap (qA l_2.2.2.2.1.q) l_2.2.2.2.1.n l_2.2.2.2.1.cap w (HV.callee (S0 := []) (vs0 := []) hh (roC (hh.vsepA 1 rfl h9) (roC (hh.vsepA 2 rfl h10) roN))) (vlen RSt h9 rfl) (AOK.q (vne h9)) (h9).hle (vlen RSp h10 rfl) (AOK.q (vne h10)) (h10).hle h97) (fun l_16 h98 => ?_)
     obtain ⟨h99, h100⟩ := h98
     refine jS (S' := [_, _, _]) (vs' := [_, _, _, _, _, _]) [0, 1, 2] [0, 1, 2, 3, 4, 5] 0 rfl rfl rfl rfl (jf rfl rfl (kj rfl rfl rfl (kj rfl rfl rfl (kj rfl rfl rfl (jm rfl rfl (jm rfl rfl (jm rfl rfl ?_)))))))
     refine j1 (kG [_, _] 1 Try.isAgg28 Try.sizeOf28 rfl rfl rfl rfl ?_)
     obtain ⟨t59, h101, hm⟩ := bindO hm
     refine jd [] [] rfl rfl rfl rfl rfl rfl rfl Try.call18 (fun w hh => ZK o.own3 (qA l_2.2.2.1.q) l_2.2.2.1.n l_2.2.2.1.cap (qA l_2.2.2.2.1.q) l_2.2.2.2.1.n l_2.2.2.2.1.cap w (HV.callee (S0 := []) (vs0 := []) hh (roC (hh.vsepA 2 rfl h9) (roC (hh.vsepA 3 rfl h10) roN))) (vlen RSt h9 rfl) (AOK.q (vne h9)) (h9).hle (vlen RSp h10 rfl) (AOK.q (vne h10)) (h10).hle h101) (fun l_17 h102 => ?_)
     obtain ⟨h103, h104⟩ := h102
     refine jS (S' := [_, _, _]) (vs' := [_, _, _, _, _, _, _]) [0, 1, 2] [0, 1, 2, 3, 4, 5, 6] 0 rfl rfl rfl rfl (jf rfl rfl (kj rfl rfl rfl (kj rfl rfl rfl (kj rfl rfl rfl (jm rfl rfl (jm rfl rfl (jm rfl rfl ?_)))))))
     refine j1 (kG [_, _] 1 Try.isAgg28 Try.sizeOf28 rfl rfl rfl rfl ?_)
     obtain ⟨t65, h105, hm⟩ := bindO hm
     refine jd [] [] rfl rfl rfl rfl rfl rfl rfl Try.call28 (fun w hh => jaj o.own3 (qA l_2.2.2.1.q) l_2.2.2.1.n l_2.2.2.1.cap (qA l_2.2.2.2.1.q) l_2.2.2.2.1.n l_2.2.2.2.1.cap w (HV.callee (S0 := []) (vs0 := []) hh (roC (hh.vsepA 3 rfl h9) (roC (hh.vsepA 4 rfl h10) roN))) (vlen RSt h9 rfl) (AOK.q (vne h9)) (h9).hle (vlen RSp h10 rfl) (AOK.q (vne h10)) (h10).hle h105) (fun l_18 h106 => ?_)
     have h107 := h106
     refine jS (S' := [_, _, _]) (vs' := [_, _, _, _, _, _, _, _]) [0, 1, 2] [0, 1, 2, 3, 4, 5, 6, 7] 0 rfl rfl rfl rfl (jf rfl rfl (kj rfl rfl rfl (kj rfl rfl rfl ?_)))
     refine jt (fun w => Try.zeroValue61 w) rfl (fun b_25 h108 => ?_)
     refine jE (us := #[_, _]) (cs' := [_, _]) (S' := [_, _, _, _]) 0 (fun w => Try.sizeOf61 w) rfl rfl rfl rfl rfl rfl rfl (jm rfl rfl (jo (jj (jj ?_))))
     obtain ⟨o_2, h109, h110⟩ := bindO hm
     refine jC (ι := Unit) (fun l_19 => True) (fun l_19 => [(1, ptr b 0), (3, ptr l_2.1 0), (4, ptr l_2.2.1 0), (5, .int .i64 o_1.w5), (6, .int .i64 o_1.u6), (7, .int .i64 o_1.lo7), (8, .int .i64 o_1.hi8), (10, slv l_15.v.q l_15.v.n l_15.v.cap), (12, slv l_16.v.q l_16.v.n l_16.v.cap), (15, slv l_17.v.q l_17.v.n l_17.v.cap), (18, ptr b_25 0), (101, .bool o_2)]) (fun l_19 => [(b_25, .cells #[.bool t65.r0.tenants, slv l_18.q l_18.n l_18.cap] 61 (0, 0)), (b, .cells #[.slice qa0 na0 ca0, .slice qa1 na1 ca1] 28 (0, 0)), (l_2.1, .cells #[slv l_2.2.2.1.q l_2.2.2.1.n l_2.2.2.1.cap, slv l_2.2.2.2.1.q l_2.2.2.2.1.n l_2.2.2.2.1.cap] 28 (0, 0)), (l_2.2.1, .cells #[slv l_2.2.2.2.2.1.q l_2.2.2.2.2.1.n l_2.2.2.2.2.1.cap, slv l_2.2.2.2.2.2.q l_2.2.2.2.2.2.n l_2.2.2.2.2.2.cap] 50 (0, 0))]) (fun l_19 => [⟨32, RwH.enc l_15.rs, l_15.v.sp, l_15.v.q, dbl 3 RI t48.r0 l_15.rs⟩, ⟨32, RwH.enc l_16.rs, l_16.v.sp, l_16.v.q, dbl 3 RI t53.r0 l_16.rs⟩, ⟨32, RwH.enc l_17.rs, l_17.v.sp, l_17.v.q, dbl 3 RI t59.r0 l_17.rs⟩, ⟨3, RI.enc t65.r0.of_, l_18.sp, l_18.q, []⟩, ⟨77, RSt.enc o.own3.strips, l_2.2.2.1.sp, l_2.2.2.1.q, []⟩, ⟨37, RSp.enc o.own3.carried, l_2.2.2.2.1.sp, l_2.2.2.2.1.q, []⟩, ⟨135, RSt.enc o.x4.strips, l_2.2.2.2.2.1.sp, l_2.2.2.2.2.1.q, []⟩, ⟨37, RSp.enc o.x4.carried, l_2.2.2.2.2.2.sp, l_2.2.2.2.2.2.q, []⟩]) ?_ ?_
     ·replace hm := h109
      refine jh (jf rfl rfl (jf rfl rfl (jc rfl rfl rfl (fun _ _ => kv rfl rfl) (jf rfl rfl ?_))))
      refine jD 71 rfl (fun h111 => ?_) (fun h111 => ?_)
      ·replace hm := ifF (of_ndec_true h111) hm
       refine g_k rfl rfl rfl rfl (g_k rfl rfl rfl rfl (g_k rfl rfl rfl rfl (j3 rfl rfl rfl (jf rfl rfl (g_k rfl rfl rfl rfl (g_k rfl rfl rfl rfl (g_k rfl rfl rfl rfl ?_)))))))
       refine j3 rfl rfl rfl (jf rfl rfl (g_k rfl rfl rfl rfl (g_k rfl rfl rfl rfl (g_k rfl rfl rfl rfl (j3 rfl rfl rfl (jf rfl rfl (g_k rfl rfl rfl rfl ?_)))))))
       refine g_k rfl rfl rfl rfl (g_k rfl rfl rfl rfl (j3 rfl rfl rfl (jf rfl rfl (g_k rfl rfl rfl rfl (g_k rfl rfl rfl rfl (g_k rfl rfl rfl rfl (j3 rfl rfl rfl ?_)))))))
       refine jf rfl rfl (g_k rfl rfl rfl rfl (g_k rfl rfl rfl rfl (g_k rfl rfl rfl rfl (g_k rfl rfl rfl rfl (j3 rfl rfl rfl (jv ?_))))))
       obtain rfl := sj hm
       exact jg () (trivial) (sE rfl) (hsE [0, 1, 2, 3] [3, 2, 1, 0, 4, 5, 6, 7] 0 rfl rfl rfl rfl)
      ·replace hm := ifT (of_ndec_false h111) hm
       refine ja rfl rfl (jf rfl rfl (ja rfl rfl (jf rfl rfl (ja rfl rfl (jc rfl rfl rfl (fun _ _ => kv rfl rfl) (ki rfl rfl rfl (jf rfl rfl ?_)))))))
       refine jD 76 rfl (fun h112 => ?_) (fun h112 => ?_)
       ·replace hm := ifF (of_ndec_true h112) hm
        refine g_k rfl rfl rfl rfl (g_k rfl rfl rfl rfl (g_k rfl rfl rfl rfl (j3 rfl rfl rfl (jf rfl rfl (g_k rfl rfl rfl rfl (g_k rfl rfl rfl rfl (g_k rfl rfl rfl rfl ?_)))))))
        refine j3 rfl rfl rfl (jf rfl rfl (g_k rfl rfl rfl rfl (g_k rfl rfl rfl rfl (g_k rfl rfl rfl rfl (j3 rfl rfl rfl (jf rfl rfl (g_k rfl rfl rfl rfl ?_)))))))
        refine g_k rfl rfl rfl rfl (g_k rfl rfl rfl rfl (j3 rfl rfl rfl (jf rfl rfl (g_k rfl rfl rfl rfl (g_k rfl rfl rfl rfl (g_k rfl rfl rfl rfl (g_k rfl rfl rfl rfl ?_)))))))
        refine j3 rfl rfl rfl (jv ?_)
        obtain rfl := sj hm
        exact jg () (trivial) (sE rfl) (hsE [0, 1, 2, 3] [3, 2, 1, 0, 4, 5, 6, 7] 0 rfl rfl rfl rfl)
       ·replace hm := ifT (of_ndec_false h112) hm
        refine ja rfl rfl (jf rfl rfl (ja rfl rfl (jf rfl rfl (ja rfl rfl (jc rfl rfl rfl (fun _ _ => kv rfl rfl) (ki rfl rfl rfl (jf rfl rfl ?_)))))))
        refine jD 81 rfl (fun h113 => ?_) (fun h113 => ?_)
        ·replace hm := ifF (of_ndec_true h113) hm
         refine g_k rfl rfl rfl rfl (g_k rfl rfl rfl rfl (g_k rfl rfl rfl rfl (j3 rfl rfl rfl (jf rfl rfl (g_k rfl rfl rfl rfl (g_k rfl rfl rfl rfl (g_k rfl rfl rfl rfl ?_)))))))
         refine j3 rfl rfl rfl (jf rfl rfl (g_k rfl rfl rfl rfl (g_k rfl rfl rfl rfl (g_k rfl rfl rfl rfl (j3 rfl rfl rfl (jf rfl rfl (g_k rfl rfl rfl rfl ?_)))))))
         refine g_k rfl rfl rfl rfl (g_k rfl rfl rfl rfl (g_k rfl rfl rfl rfl (j3 rfl rfl rfl (jv ?_))))
         obtain rfl := sj hm
         exact jg () (trivial) (sE rfl) (hsE [0, 1, 2, 3] [3, 2, 1, 0, 4, 5, 6, 7] 0 rfl rfl rfl rfl)
        ·replace hm := ifT (of_ndec_false h113) hm
         refine ja rfl rfl (jf rfl rfl (ja rfl rfl (jf rfl rfl (ja rfl rfl (jc rfl rfl rfl (fun _ _ => kv rfl rfl) (ki rfl rfl rfl (jf rfl rfl ?_)))))))
         refine jD 86 rfl (fun h114 => ?_) (fun h114 => ?_)
         ·replace hm := ifF (of_ndec_true h114) hm
          refine g_k rfl rfl rfl rfl (g_k rfl rfl rfl rfl (g_k rfl rfl rfl rfl (j3 rfl rfl rfl (jf rfl rfl (g_k rfl rfl rfl rfl (g_k rfl rfl rfl rfl (g_k rfl rfl rfl rfl ?_)))))))
          refine j3 rfl rfl rfl (jf rfl rfl (g_k rfl rfl rfl rfl (g_k rfl rfl rfl rfl (g_k rfl rfl rfl rfl (g_k rfl rfl rfl rfl (j3 rfl rfl rfl (jv ?_)))))))
          obtain rfl := sj hm
          exact jg () (trivial) (sE rfl) (hsE [0, 1, 2, 3] [3, 2, 1, 0, 4, 5, 6, 7] 0 rfl rfl rfl rfl)
         ·replace hm := ifT (of_ndec_false h114) hm
          refine ja rfl rfl (jf rfl rfl (ja rfl rfl (jf rfl rfl (ja rfl rfl (jc rfl rfl rfl (fun _ _ => kv rfl rfl) (ki rfl rfl rfl (jf rfl rfl ?_)))))))
          refine jD 91 rfl (fun h115 => ?_) (fun h115 => ?_)
          ·replace hm := ifF (of_ndec_true h115) hm
           refine g_k rfl rfl rfl rfl (g_k rfl rfl rfl rfl (g_k rfl rfl rfl rfl (j3 rfl rfl rfl (jf rfl rfl (g_k rfl rfl rfl rfl (g_k rfl rfl rfl rfl (g_k rfl rfl rfl rfl ?_)))))))
           refine g_k rfl rfl rfl rfl (j3 rfl rfl rfl (jv ?_))
           obtain rfl := sj hm
           exact jg () (trivial) (sE rfl) (hsE [0, 1, 2, 3] [3, 2, 1, 0, 4, 5, 6, 7] 0 rfl rfl rfl rfl)
          ·replace hm := ifT (of_ndec_false h115) hm
           refine ja rfl rfl (jf rfl rfl (ja rfl rfl (jf rfl rfl (ja rfl rfl (jc rfl rfl rfl (fun _ _ => kv rfl rfl) (ki rfl rfl rfl (jf rfl rfl ?_)))))))
           refine jD 96 rfl (fun h116 => ?_) (fun h116 => ?_)
           ·replace hm := ifF (of_ndec_true h116) hm
            refine g_k rfl rfl rfl rfl (g_k rfl rfl rfl rfl (g_k rfl rfl rfl rfl (g_k rfl rfl rfl rfl (j3 rfl rfl rfl (jv ?_)))))
            obtain rfl := sj hm
            exact jg () (trivial) (sE rfl) (hsE [0, 1, 2, 3] [3, 2, 1, 0, 4, 5, 6, 7] 0 rfl rfl rfl rfl)
           ·replace hm := ifT (of_ndec_false h116) hm
            refine ja rfl rfl (jL 1 Try.runUnderlying61 rfl Try.sizeOf32 rfl rfl (ja rfl rfl (jU 0 Try.isAgg32 rfl rfl rfl rfl (ja rfl rfl (jc rfl rfl rfl (fun w _ => JI (vlen RI h107 rfl) (Try.runUnderlying32 w) rfl) (ja rfl rfl (jc rfl rfl rfl (fun _ _ => Qq rfl rfl) ?_)))))))
            refine ki rfl rfl rfl (jv ?_)
            obtain rfl := sj hm
            exact jg () (trivial) (sE rfl) (hsE [0, 1, 2, 3] [3, 2, 1, 0, 4, 5, 6, 7] 0 rfl rfl rfl rfl)
     ·intro l_19 hj
      replace hm := h110
      refine jb ?_
      refine jq rfl (fun h117 => ?_) (fun h117 => ?_)
      ·replace hm := ifT (h117) hm
       refine jp (jm rfl rfl (jo (jw (je ?_))))
       obtain rfl := sj hm
       refine jn rfl (fun w hh => (.tmp rfl .nil)) (fun w hh => ⟨(), rfl, trivial, hh.se [] [] 2 rfl rfl rfl rfl⟩)
      ·replace hm := ifN h117 hm
       refine jr (jb (jj ?_))
       obtain ⟨o_3, h118, h119⟩ := bindO hm
       refine jC (ι := Unit) (fun j => o_3 = .inl j) (fun j => [(1, ptr b 0), (3, ptr l_2.1 0), (4, ptr l_2.2.1 0), (5, .int .i64 o_1.w5), (7, .int .i64 o_1.lo7), (8, .int .i64 o_1.hi8), (10, slv l_15.v.q l_15.v.n l_15.v.cap), (12, slv l_16.v.q l_16.v.n l_16.v.cap), (15, slv l_17.v.q l_17.v.n l_17.v.cap)]) (fun j => [(b_25, .cells #[.bool t65.r0.tenants, slv l_18.q l_18.n l_18.cap] 61 (0, 0)), (b, .cells #[.slice qa0 na0 ca0, .slice qa1 na1 ca1] 28 (0, 0)), (l_2.1, .cells #[slv l_2.2.2.1.q l_2.2.2.1.n l_2.2.2.1.cap, slv l_2.2.2.2.1.q l_2.2.2.2.1.n l_2.2.2.2.1.cap] 28 (0, 0)), (l_2.2.1, .cells #[slv l_2.2.2.2.2.1.q l_2.2.2.2.2.1.n l_2.2.2.2.2.1.cap, slv l_2.2.2.2.2.2.q l_2.2.2.2.2.2.n l_2.2.2.2.2.2.cap] 50 (0, 0))]) (fun j => [⟨32, RwH.enc l_15.rs, l_15.v.sp, l_15.v.q, dbl 3 RI t48.r0 l_15.rs⟩, ⟨32, RwH.enc l_16.rs, l_16.v.sp, l_16.v.q, dbl 3 RI t53.r0 l_16.rs⟩, ⟨32, RwH.enc l_17.rs, l_17.v.sp, l_17.v.q, dbl 3 RI t59.r0 l_17.rs⟩, ⟨3, RI.enc t65.r0.of_, l_18.sp, l_18.q, []⟩, ⟨77, RSt.enc o.own3.strips, l_2.2.2.1.sp, l_2.2.2.1.q, []⟩, ⟨37, RSp.enc o.own3.carried, l_2.2.2.2.1.sp, l_2.2.2.2.1.q, []⟩, ⟨135, RSt.enc o.x4.strips, l_2.2.2.2.2.1.sp, l_2.2.2.2.2.1.q, []⟩, ⟨37, RSp.enc o.x4.carried, l_2.2.2.2.2.2.sp, l_2.2.2.2.2.2.q, []⟩]) ?_ ?_
       ·replace hm := h118
        refine jp (jf rfl rfl (jc rfl rfl rfl (fun _ _ => zr rfl rfl) (jo ?_)))
        refine jq rfl (fun h120 => ?_) (fun h120 => ?_)
        ·replace hm := ifD h120 hm
         refine jp (kG [_, _] 3 Try.isAgg50 Try.sizeOf50 rfl rfl rfl rfl (jL 0 Try.runUnderlying61 rfl Try.sizeOf4 rfl rfl (jU 0 Try.isAgg4 rfl rfl rfl rfl (jL 1 Try.runUnderlying61 rfl Try.sizeOf32 rfl rfl (jU 0 Try.isAgg32 rfl rfl rfl rfl ?_)))))
         obtain ⟨t110, h121, hm⟩ := bindO hm
         refine jd [] [] rfl rfl rfl rfl rfl rfl rfl Try.call29 (fun w hh => Z8 o.x4 t65.r0.tenants t65.r0.of_ (qA l_2.2.2.2.2.1.q) l_2.2.2.2.2.1.n l_2.2.2.2.2.1.cap (qA l_2.2.2.2.2.2.q) l_2.2.2.2.2.2.n l_2.2.2.2.2.2.cap (qA l_18.q) l_18.n l_18.cap w (HV.callee (S0 := []) (vs0 := []) hh (roC (hh.vsepA 6 rfl h11) (roC (hh.vsepA 7 rfl h12) (roC (hh.vsepA 3 rfl h107) roN)))) (vlen RSt h11 rfl) (AOK.q (vne h11)) (h11).hle (vlen RSp h12 rfl) (AOK.q (vne h12)) (h12).hle (vlen RI h107 rfl) (AOK.q (vne h107)) (h107).hle h121) (fun l_20 h122 => ?_)
         refine jf rfl rfl (kj rfl rfl rfl (kj rfl rfl rfl (jm rfl rfl (jm rfl rfl (jo (jj ?_))))))
         obtain ⟨o_4, h123, h124⟩ := bindO hm
         refine jC (ι := Unit) (fun l_21 => True) (fun l_21 => [(1, ptr b 0), (3, ptr l_2.1 0), (4, ptr l_2.2.1 0), (5, .int .i64 o_1.w5), (7, .int .i64 o_1.lo7), (8, .int .i64 o_1.hi8), (10, slv l_15.v.q l_15.v.n l_15.v.cap), (12, slv l_16.v.q l_16.v.n l_16.v.cap), (15, slv l_17.v.q l_17.v.n l_17.v.cap), (118, .bool o_4)]) (fun l_21 => [(b_25, .cells #[.bool t65.r0.tenants, slv l_18.q l_18.n l_18.cap] 61 (0, 0)), (b, .cells #[.slice qa0 na0 ca0, .slice qa1 na1 ca1] 28 (0, 0)), (l_2.1, .cells #[slv l_2.2.2.1.q l_2.2.2.1.n l_2.2.2.1.cap, slv l_2.2.2.2.1.q l_2.2.2.2.1.n l_2.2.2.2.1.cap] 28 (0, 0)), (l_2.2.1, .cells #[slv l_2.2.2.2.2.1.q l_2.2.2.2.2.1.n l_2.2.2.2.2.1.cap, slv l_2.2.2.2.2.2.q l_2.2.2.2.2.2.n l_2.2.2.2.2.2.cap] 50 (0, 0))]) (fun l_21 => [⟨32, RwH.enc l_15.rs, l_15.v.sp, l_15.v.q, dbl 3 RI t48.r0 l_15.rs⟩, ⟨32, RwH.enc l_16.rs, l_16.v.sp, l_16.v.q, dbl 3 RI t53.r0 l_16.rs⟩, ⟨32, RwH.enc l_17.rs, l_17.v.sp, l_17.v.q, dbl 3 RI t59.r0 l_17.rs⟩, ⟨3, RI.enc t65.r0.of_, l_18.sp, l_18.q, []⟩, ⟨77, RSt.enc o.own3.strips, l_2.2.2.1.sp, l_2.2.2.1.q, []⟩, ⟨37, RSp.enc o.own3.carried, l_2.2.2.2.1.sp, l_2.2.2.2.1.q, []⟩, ⟨135, RSt.enc o.x4.strips, l_2.2.2.2.2.1.sp, l_2.2.2.2.2.1.q, []⟩, ⟨37, RSp.enc o.x4.carried, l_2.2.2.2.2.2.sp, l_2.2.2.2.2.2.q, []⟩]) ?_ ?_
         ·replace hm := h123
          refine jh (jf rfl rfl (jc rfl rfl rfl (fun _ _ => kv rfl rfl) (jf rfl rfl ?_)))
          refine jD 115 rfl (fun h125 => ?_) (fun h125 => ?_)
          ·replace hm := ifF (of_ndec_true h125) hm
           refine g_k rfl rfl rfl rfl (g_k rfl rfl rfl rfl (j3 rfl rfl rfl (jv ?_)))
           obtain rfl := sj hm
           exact jg () (trivial) (sE rfl) (fun w hh => hh)
          ·replace hm := ifT (of_ndec_false h125) hm
           refine ja rfl rfl (jf rfl rfl (ja rfl rfl (qv rfl rfl rfl (ki rfl rfl rfl (jv ?_)))))
           obtain rfl := sj hm
           exact jg () (trivial) (sE rfl) (fun w hh => hh)
         ·intro l_21 hj
          replace hm := h124
          refine jb ?_
          refine jq rfl (fun h126 => ?_) (fun h126 => ?_)
          ·replace hm := ifT (h126) hm
           refine jp (jm rfl rfl (jo (jw ?_)))
           obtain rfl := sj hm
           refine je ?_
           replace hm := ocR h119
           refine je ?_
           obtain rfl := sj hm
           refine jn rfl (fun w hh => (.tmp rfl .nil)) (fun w hh => ⟨(), rfl, trivial, hh.se [] [] 2 rfl rfl rfl rfl⟩)
          ·replace hm := ifN h126 hm
           refine jr ?_
           obtain rfl := sj hm
           exact jg () (rfl) (sE rfl) (fun w hh => hh)
        ·replace hm := ifE h120 hm
         refine jj ?_
         obtain ⟨o_5, h127, h128⟩ := bindO hm
         refine jC (ι := Unit) (fun l_22 => True) (fun l_22 => [(1, ptr b 0), (3, ptr l_2.1 0), (4, ptr l_2.2.1 0), (5, .int .i64 o_1.w5), (7, .int .i64 o_1.lo7), (8, .int .i64 o_1.hi8), (10, slv l_15.v.q l_15.v.n l_15.v.cap), (12, slv l_16.v.q l_16.v.n l_16.v.cap), (15, slv l_17.v.q l_17.v.n l_17.v.cap), (126, .bool o_5)]) (fun l_22 => [(b_25, .cells #[.bool t65.r0.tenants, slv l_18.q l_18.n l_18.cap] 61 (0, 0)), (b, .cells #[.slice qa0 na0 ca0, .slice qa1 na1 ca1] 28 (0, 0)), (l_2.1, .cells #[slv l_2.2.2.1.q l_2.2.2.1.n l_2.2.2.1.cap, slv l_2.2.2.2.1.q l_2.2.2.2.1.n l_2.2.2.2.1.cap] 28 (0, 0)), (l_2.2.1, .cells #[slv l_2.2.2.2.2.1.q l_2.2.2.2.2.1.n l_2.2.2.2.2.1.cap, slv l_2.2.2.2.2.2.q l_2.2.2.2.2.2.n l_2.2.2.2.2.2.cap] 50 (0, 0))]) (fun l_22 => [⟨32, RwH.enc l_15.rs, l_15.v.sp, l_15.v.q, dbl 3 RI t48.r0 l_15.rs⟩, ⟨32, RwH.enc l_16.rs, l_16.v.sp, l_16.v.q, dbl 3 RI t53.r0 l_16.rs⟩, ⟨32, RwH.enc l_17.rs, l_17.v.sp, l_17.v.q, dbl 3 RI t59.r0 l_17.rs⟩, ⟨3, RI.enc t65.r0.of_, l_18.sp, l_18.q, []⟩, ⟨77, RSt.enc o.own3.strips, l_2.2.2.1.sp, l_2.2.2.1.q, []⟩, ⟨37, RSp.enc o.own3.carried, l_2.2.2.2.1.sp, l_2.2.2.2.1.q, []⟩, ⟨135, RSt.enc o.x4.strips, l_2.2.2.2.2.1.sp, l_2.2.2.2.2.1.q, []⟩, ⟨37, RSp.enc o.x4.carried, l_2.2.2.2.2.2.sp, l_2.2.2.2.2.2.q, []⟩]) ?_ ?_
         ·replace hm := h127
          refine jh (jL 0 Try.runUnderlying61 rfl Try.sizeOf4 rfl rfl (jU 0 Try.isAgg4 rfl rfl rfl rfl (jf rfl rfl ?_)))
          refine jD 121 rfl (fun h129 => ?_) (fun h129 => ?_)
          ·replace hm := ifT (h129) hm
           refine g_k rfl rfl rfl rfl (g_k rfl rfl rfl rfl (g_k rfl rfl rfl rfl (g_k rfl rfl rfl rfl (j3 rfl rfl rfl (jv ?_)))))
           obtain rfl := sj hm
           exact jg () (trivial) (sE rfl) (fun w hh => hh)
          ·replace hm := ifN h129 hm
           refine ja rfl rfl (jL 1 Try.runUnderlying61 rfl Try.sizeOf32 rfl rfl (ja rfl rfl (jU 0 Try.isAgg32 rfl rfl rfl rfl (ja rfl rfl (jc rfl rfl rfl (fun w _ => JI (vlen RI h107 rfl) (Try.runUnderlying32 w) rfl) (ja rfl rfl (jc rfl rfl rfl (fun _ _ => Qq rfl rfl) ?_)))))))
           refine ki rfl rfl rfl (jv ?_)
           obtain rfl := sj hm
           exact jg () (trivial) (sE rfl) (fun w hh => hh)
         ·intro l_22 hj
          replace hm := h128
          refine jb ?_
          refine jq rfl (fun h130 => ?_) (fun h130 => ?_)
          ·replace hm := ifT (h130) hm
           refine jp (jm rfl rfl (jo (jw ?_)))
           obtain rfl := sj hm
           refine je ?_
           replace hm := ocR h119
           refine je ?_
           obtain rfl := sj hm
           refine jn rfl (fun w hh => (.tmp rfl .nil)) (fun w hh => ⟨(), rfl, trivial, hh.se [] [] 2 rfl rfl rfl rfl⟩)
          ·replace hm := ifN h130 hm
           refine jr ?_
           obtain rfl := sj hm
           exact jg () (rfl) (sE rfl) (fun w hh => hh)
       ·intro j hj
        have h131 := hj
        subst h131
        replace hm := ocL h119
        refine jb (jj (jp (jf rfl rfl (jc rfl rfl rfl (fun _ _ => kv rfl rfl) (jo ?_)))))
        refine jq rfl (fun h132 => ?_) (fun h132 => ?_)
        ·replace hm := ifF (of_ndec_true h132) hm
         refine jj ?_
         obtain ⟨o_6, h133, h134⟩ := bindO hm
         refine jC (ι := Unit) (fun l_23 => True) (fun l_23 => [(2, .bool o_6)]) (fun l_23 => [(b_25, .cells #[.bool t65.r0.tenants, slv l_18.q l_18.n l_18.cap] 61 (0, 0)), (b, .cells #[.slice qa0 na0 ca0, .slice qa1 na1 ca1] 28 (0, 0)), (l_2.1, .cells #[slv l_2.2.2.1.q l_2.2.2.1.n l_2.2.2.1.cap, slv l_2.2.2.2.1.q l_2.2.2.2.1.n l_2.2.2.2.1.cap] 28 (0, 0)), (l_2.2.1, .cells #[slv l_2.2.2.2.2.1.q l_2.2.2.2.2.1.n l_2.2.2.2.2.1.cap, slv l_2.2.2.2.2.2.q l_2.2.2.2.2.2.n l_2.2.2.2.2.2.cap] 50 (0, 0))]) (fun l_23 => [⟨3, RI.enc t65.r0.of_, l_18.sp, l_18.q, []⟩, ⟨77, RSt.enc o.own3.strips, l_2.2.2.1.sp, l_2.2.2.1.q, []⟩, ⟨37, RSp.enc o.own3.carried, l_2.2.2.2.1.sp, l_2.2.2.2.1.q, []⟩, ⟨135, RSt.enc o.x4.strips, l_2.2.2.2.2.1.sp, l_2.2.2.2.2.1.q, []⟩, ⟨37, RSp.enc o.x4.carried, l_2.2.2.2.2.2.sp, l_2.2.2.2.2.2.q, []⟩]) ?_ ?_
         ·replace hm := h133
          refine jh (jf rfl rfl (jc rfl rfl rfl (fun w _ => JI (Eq.trans (h96).len (vlen RwH h95 rfl)) (Try.runUnderlying29 w) rfl) (jf rfl rfl (jc rfl rfl rfl (fun w _ => JI (Eq.trans (h100).len (vlen RwH h99 rfl)) (Try.runUnderlying29 w) rfl) ?_))))
          obtain ⟨t133, h135, hm⟩ := bindO hm
          refine kt h135 rfl rfl rfl (jf rfl rfl (jc rfl rfl rfl (fun w _ => JI (Eq.trans (h104).len (vlen RwH h103 rfl)) (Try.runUnderlying29 w) rfl) ?_))
          obtain ⟨t136, h136, hm⟩ := bindO hm
          refine kt h136 rfl rfl rfl (jc rfl rfl rfl (fun _ _ => zr rfl rfl) (jf rfl rfl ?_))
          refine jD 138 rfl (fun h137 => ?_) (fun h137 => ?_)
          ·replace hm := ifD h137 hm
           refine ja rfl rfl (kG [_, _] 2 Try.isAgg28 Try.sizeOf28 rfl rfl rfl rfl (ja rfl rfl (kG [_, _] 1 Try.isAgg28 Try.sizeOf28 rfl rfl rfl rfl (ja rfl rfl ?_))))
           obtain ⟨t141, h138, hm⟩ := bindO hm
           refine jd [] [] rfl rfl rfl rfl rfl rfl rfl Try.call30 (fun w hh => ZJ o.own3 s0 (qA l_2.2.2.1.q) l_2.2.2.1.n l_2.2.2.1.cap (qA l_2.2.2.2.1.q) l_2.2.2.2.1.n l_2.2.2.2.1.cap qa0 na0 ca0 qa1 na1 ca1 w (HV.callee (S0 := []) (vs0 := []) hh (roC (hh.vsepA 4 rfl h9) (roC (hh.vsepA 5 rfl h10) (roR hh 0 rfl (roR hh 1 rfl roN))))) (vlen RSt h9 rfl) (AOK.q (vne h9)) (h9).hle (vlen RSp h10 rfl) (AOK.q (vne h10)) (h10).hle hna0 hqa0 hla0 hna1 hqa1 hla1 h138) (fun l_24 h139 => ?_)
           refine j3 rfl rfl rfl (jf rfl rfl ?_)
           refine jD 143 rfl (fun h140 => ?_) (fun h140 => ?_)
           ·replace hm := ifT (h140) hm
            refine ja rfl rfl ?_
            obtain ⟨t144, h141, hm⟩ := bindO hm
            refine jd [] [] rfl rfl rfl rfl rfl rfl rfl Try.call20 (fun w hh => Yw  w (HV.callee (S0 := []) (vs0 := []) hh roN)  h141) (fun l_25 h142 => ?_)
            refine j3 rfl rfl rfl (jm rfl rfl (jv ?_))
            obtain rfl := sj hm
            exact jg () (trivial) (sE rfl) (hsE [0, 1, 2, 3] [3, 4, 5, 6, 7] 0 rfl rfl rfl rfl)
           ·replace hm := ifN h140 hm
            refine g_k rfl rfl rfl rfl (ki rfl rfl rfl (jm rfl rfl (jv ?_)))
            obtain rfl := sj hm
            exact jg () (trivial) (sE rfl) (hsE [0, 1, 2, 3] [3, 4, 5, 6, 7] 0 rfl rfl rfl rfl)
          ·replace hm := ifE h137 hm
           refine g_k rfl rfl rfl rfl (g_k rfl rfl rfl rfl (g_k rfl rfl rfl rfl (ki rfl rfl rfl (jf rfl rfl (g_k rfl rfl rfl rfl (ki rfl rfl rfl (jm rfl rfl ?_)))))))
           refine jv ?_
           obtain rfl := sj hm
           exact jg () (trivial) (sE rfl) (hsE [0, 1, 2, 3] [3, 4, 5, 6, 7] 0 rfl rfl rfl rfl)
         ·intro l_23 hj
          replace hm := h134
          refine jb (jw (je ?_))
          obtain rfl := sj hm
          refine jn rfl (fun w hh => (.tmp rfl .nil)) (fun w hh => ⟨(), rfl, trivial, hh.se [] [] 2 rfl rfl rfl rfl⟩)
        ·replace hm := ifT (of_ndec_false h132) hm
         refine jr (jb (jj (jp (jf rfl rfl (jf rfl rfl (jf rfl rfl ?_))))))
         refine jbc (ps := [(0, _), (1, _), (2, _)]) (cells := [_, _, _]) (fun w => Try.runUnderlying67 w) (fun w => Try.sizeOf29 w) (fun w => Try.zeroValue29 w) rfl rfl rfl rfl rfl (fun b_26 h144 => ?_)
         refine jc rfl rfl rfl (fun w _ => jaD (Try.runUnderlying67 w) rfl) (jf rfl rfl (jo (jl (jbk 4 (ZO (jp (qv rfl rfl rfl ?_)))))))
         refine jo (jj (yl rfl rfl (jr (jb (jj (jl (jp ?_)))))))
         refine jc rfl rfl rfl (fun w _ => jaJ (o := 0) (Try.runUnderlying67 w) (Try.sizeOf29 w) rfl rfl 0 rfl rfl rfl) (jU 0 Try.isAgg29 rfl rfl rfl rfl (jm rfl rfl (j1 (kG [_, _] 4 Try.isAgg50 Try.sizeOf50 rfl rfl rfl rfl (jf rfl rfl ?_)))))
         obtain ⟨t157, h145, hm⟩ := bindO hm
         refine jd [] [] rfl rfl rfl rfl rfl rfl rfl Try.call31 (fun w hh => YS o.x4 t48.r0 (qA l_2.2.2.2.2.1.q) l_2.2.2.2.2.1.n l_2.2.2.2.2.1.cap (qA l_2.2.2.2.2.2.q) l_2.2.2.2.2.2.n l_2.2.2.2.2.2.cap (qA l_15.v.q) l_15.v.n l_15.v.cap (toAL l_15.rs) w (HV.callee (S0 := []) (vs0 := []) hh (roC (hh.vsepA 6 rfl h11) (roC (hh.vsepA 7 rfl h12) (roC (hh.vsepD 0 rfl h95) roN)))) (vlen RSt h11 rfl) (AOK.q (vne h11)) (h11).hle (vlen RSp h12 rfl) (AOK.q (vne h12)) (h12).hle (Eq.trans (h96).len (vlen RwH h95 rfl)) (AOK.q (vne h95)) (h95).hle ((h96).toDRO rfl) (hh.dsepT 0 rfl h96) h145) (fun l_26 h146 => ?_)
         refine jc rfl rfl rfl (fun _ _ => kq rfl) (jo ?_)
         refine jq rfl (fun h147 => ?_) (fun h147 => ?_)
         ·replace hm := ifT (h147) hm
          refine jp (jm rfl rfl (jo (jw (jx (je (je (jx ?_)))))))
          refine je ?_
          obtain rfl := sj hm
          refine jn rfl (fun w hh => (.tmp rfl .nil)) (fun w hh => ⟨(), rfl, trivial, hh.se [] [] 2 rfl rfl rfl rfl⟩)
         ·replace hm := ifN h147 hm
          refine jr (js (jb (jh (jc rfl rfl rfl (fun _ _ => Jg (show addc 0 1 = some 1 from rfl) rfl rfl) (jf rfl rfl (jo (ZO ?_)))))))
          refine jp (qv rfl rfl rfl (jo (jj (yl rfl rfl (jr (jb (jj ?_)))))))
          refine jl (jp (jc rfl rfl rfl (fun w _ => jaJ (o := 1) (Try.runUnderlying67 w) (Try.sizeOf29 w) rfl rfl 1 rfl rfl rfl) (jU 0 Try.isAgg29 rfl rfl rfl rfl (jm rfl rfl (j1 (kG [_, _] 4 Try.isAgg50 Try.sizeOf50 rfl rfl rfl rfl (jf rfl rfl ?_)))))))
          obtain ⟨t157_1, h148, hm⟩ := bindO hm
          refine jd [] [] rfl rfl rfl rfl rfl rfl rfl Try.call31 (fun w hh => YS o.x4 t53.r0 (qA l_2.2.2.2.2.1.q) l_2.2.2.2.2.1.n l_2.2.2.2.2.1.cap (qA l_2.2.2.2.2.2.q) l_2.2.2.2.2.2.n l_2.2.2.2.2.2.cap (qA l_16.v.q) l_16.v.n l_16.v.cap (toAL l_16.rs) w (HV.callee (S0 := []) (vs0 := []) hh (roC (hh.vsepA 6 rfl h11) (roC (hh.vsepA 7 rfl h12) (roC (hh.vsepD 1 rfl h99) roN)))) (vlen RSt h11 rfl) (AOK.q (vne h11)) (h11).hle (vlen RSp h12 rfl) (AOK.q (vne h12)) (h12).hle (Eq.trans (h100).len (vlen RwH h99 rfl)) (AOK.q (vne h99)) (h99).hle ((h100).toDRO rfl) (hh.dsepT 1 rfl h100) h148) (fun l_27 h149 => ?_)
          refine jc rfl rfl rfl (fun _ _ => kq rfl) (jo ?_)
          refine jq rfl (fun h150 => ?_) (fun h150 => ?_)
          ·replace hm := ifT (h150) hm
           refine jp (jm rfl rfl (jo (jw (jx (je (je (jx ?_)))))))
           refine je ?_
           obtain rfl := sj hm
           refine jn rfl (fun w hh => (.tmp rfl .nil)) (fun w hh => ⟨(), rfl, trivial, hh.se [] [] 2 rfl rfl rfl rfl⟩)
          ·replace hm := ifN h150 hm
           refine jr (js (jb (jh (jc rfl rfl rfl (fun _ _ => Jg (show addc 1 1 = some 2 from rfl) rfl rfl) (jf rfl rfl (jo (ZO ?_)))))))
           refine jp (qv rfl rfl rfl (jo (jj (yl rfl rfl (jr (jb (jj ?_)))))))
           refine jl (jp (jc rfl rfl rfl (fun w _ => jaJ (o := 2) (Try.runUnderlying67 w) (Try.sizeOf29 w) rfl rfl 2 rfl rfl rfl) (jU 0 Try.isAgg29 rfl rfl rfl rfl (jm rfl rfl (j1 (kG [_, _] 4 Try.isAgg50 Try.sizeOf50 rfl rfl rfl rfl (jf rfl rfl ?_)))))))
           obtain ⟨t157_2, h151, hm⟩ := bindO hm
           refine jd [] [] rfl rfl rfl rfl rfl rfl rfl Try.call31 (fun w hh => YS o.x4 t59.r0 (qA l_2.2.2.2.2.1.q) l_2.2.2.2.2.1.n l_2.2.2.2.2.1.cap (qA l_2.2.2.2.2.2.q) l_2.2.2.2.2.2.n l_2.2.2.2.2.2.cap (qA l_17.v.q) l_17.v.n l_17.v.cap (toAL l_17.rs) w (HV.callee (S0 := []) (vs0 := []) hh (roC (hh.vsepA 6 rfl h11) (roC (hh.vsepA 7 rfl h12) (roC (hh.vsepD 2 rfl h103) roN)))) (vlen RSt h11 rfl) (AOK.q (vne h11)) (h11).hle (vlen RSp h12 rfl) (AOK.q (vne h12)) (h12).hle (Eq.trans (h104).len (vlen RwH h103 rfl)) (AOK.q (vne h103)) (h103).hle ((h104).toDRO rfl) (hh.dsepT 2 rfl h104) h151) (fun l_28 h152 => ?_)
           refine jc rfl rfl rfl (fun _ _ => kq rfl) (jo ?_)
           refine jq rfl (fun h153 => ?_) (fun h153 => ?_)
           ·replace hm := ifT (h153) hm
            refine jp (jm rfl rfl (jo (jw (jx (je (je (jx ?_)))))))
            refine je ?_
            obtain rfl := sj hm
            refine jn rfl (fun w hh => (.tmp rfl .nil)) (fun w hh => ⟨(), rfl, trivial, hh.se [] [] 2 rfl rfl rfl rfl⟩)
           ·replace hm := ifN h153 hm
            refine jr (js (jb (jh (jc rfl rfl rfl (fun _ _ => Jg (show addc 2 1 = some 3 from rfl) rfl rfl) (jf rfl rfl (jo (ZO ?_)))))))
            refine jp (qv rfl rfl rfl (jo (jj (qO rfl rfl (jM (ji (ji ?_)))))))
            refine jz (jb (jj ?_))
            obtain ⟨o_7, h154, h155⟩ := bindO hm
            refine jC (ι := Unit) (fun l_29 => True) (fun l_29 => [(2, .bool o_7)]) (fun l_29 => [(b_26, .cells #[slv l_15.v.q l_15.v.n l_15.v.cap, slv l_16.v.q l_16.v.n l_16.v.cap, slv l_17.v.q l_17.v.n l_17.v.cap] 29 (0, 0)), (b_25, .cells #[.bool t65.r0.tenants, slv l_18.q l_18.n l_18.cap] 61 (0, 0)), (b, .cells #[.slice qa0 na0 ca0, .slice qa1 na1 ca1] 28 (0, 0)), (l_2.1, .cells #[slv l_2.2.2.1.q l_2.2.2.1.n l_2.2.2.1.cap, slv l_2.2.2.2.1.q l_2.2.2.2.1.n l_2.2.2.2.1.cap] 28 (0, 0)), (l_2.2.1, .cells #[slv l_2.2.2.2.2.1.q l_2.2.2.2.2.1.n l_2.2.2.2.2.1.cap, slv l_2.2.2.2.2.2.q l_2.2.2.2.2.2.n l_2.2.2.2.2.2.cap] 50 (0, 0))]) (fun l_29 => [⟨32, RwH.enc l_15.rs, l_15.v.sp, l_15.v.q, dbl 3 RI t48.r0 l_15.rs⟩, ⟨32, RwH.enc l_16.rs, l_16.v.sp, l_16.v.q, dbl 3 RI t53.r0 l_16.rs⟩, ⟨32, RwH.enc l_17.rs, l_17.v.sp, l_17.v.q, dbl 3 RI t59.r0 l_17.rs⟩, ⟨3, RI.enc t65.r0.of_, l_18.sp, l_18.q, []⟩, ⟨77, RSt.enc o.own3.strips, l_2.2.2.1.sp, l_2.2.2.1.q, []⟩, ⟨37, RSp.enc o.own3.carried, l_2.2.2.2.1.sp, l_2.2.2.2.1.q, []⟩, ⟨135, RSt.enc o.x4.strips, l_2.2.2.2.2.1.sp, l_2.2.2.2.2.1.q, []⟩, ⟨37, RSp.enc o.x4.carried, l_2.2.2.2.2.2.sp, l_2.2.2.2.2.2.q, []⟩]) ?_ ?_
            ·replace hm := h154
             refine jh (kG [_, _] 4 Try.isAgg50 Try.sizeOf50 rfl rfl rfl rfl (jf rfl rfl ?_))
             obtain ⟨t162, h156, hm⟩ := bindO hm
             refine jd [] [] rfl rfl rfl rfl rfl rfl rfl Try.call32 (fun w hh => Zc o.x4 t53.r0 (-1) (-1) (qA l_2.2.2.2.2.1.q) l_2.2.2.2.2.1.n l_2.2.2.2.2.1.cap (qA l_2.2.2.2.2.2.q) l_2.2.2.2.2.2.n l_2.2.2.2.2.2.cap (qA l_16.v.q) l_16.v.n l_16.v.cap (toAL l_16.rs) w (HV.callee (S0 := []) (vs0 := []) hh (roC (hh.vsepA 6 rfl h11) (roC (hh.vsepA 7 rfl h12) (roC (hh.vsepD 1 rfl h99) roN)))) (vlen RSt h11 rfl) (AOK.q (vne h11)) (h11).hle (vlen RSp h12 rfl) (AOK.q (vne h12)) (h12).hle (Eq.trans (h100).len (vlen RwH h99 rfl)) (AOK.q (vne h99)) (h99).hle ((h100).toDRO rfl) (hh.dsepT 1 rfl h100) h156) (fun l_30 h157 => ?_)
             refine jf rfl rfl (jc rfl rfl rfl (fun _ _ => zr rfl rfl) (jf rfl rfl ?_))
             refine jD 165 rfl (fun h158 => ?_) (fun h158 => ?_)
             ·replace hm := ifD h158 hm
              refine ja rfl rfl (kG [_, _] 4 Try.isAgg50 Try.sizeOf50 rfl rfl rfl rfl (ja rfl rfl (jf rfl rfl (ja rfl rfl ?_))))
              obtain ⟨t168, h159, hm⟩ := bindO hm
              refine jd [] [] rfl rfl rfl rfl rfl rfl rfl Try.call32 (fun w hh => Zc o.x4 t59.r0 (-1) (-1) (qA l_2.2.2.2.2.1.q) l_2.2.2.2.2.1.n l_2.2.2.2.2.1.cap (qA l_2.2.2.2.2.2.q) l_2.2.2.2.2.2.n l_2.2.2.2.2.2.cap (qA l_17.v.q) l_17.v.n l_17.v.cap (toAL l_17.rs) w (HV.callee (S0 := []) (vs0 := []) hh (roC (hh.vsepA 6 rfl h11) (roC (hh.vsepA 7 rfl h12) (roC (hh.vsepD 2 rfl h103) roN)))) (vlen RSt h11 rfl) (AOK.q (vne h11)) (h11).hle (vlen RSp h12 rfl) (AOK.q (vne h12)) (h12).hle (Eq.trans (h104).len (vlen RwH h103 rfl)) (AOK.q (vne h103)) (h103).hle ((h104).toDRO rfl) (hh.dsepT 2 rfl h104) h159) (fun l_31 h160 => ?_)
              refine ja rfl rfl (jf rfl rfl (ja rfl rfl (jc rfl rfl rfl (fun _ _ => zr rfl rfl) (j3 rfl rfl rfl (jf rfl rfl ?_)))))
              refine jD 172 rfl (fun h161 => ?_) (fun h161 => ?_)
              ·replace hm := ifD h161 hm
               refine ja rfl rfl (kG [_, _] 3 Try.isAgg28 Try.sizeOf28 rfl rfl rfl rfl (ja rfl rfl (kG [_, _] 2 Try.isAgg28 Try.sizeOf28 rfl rfl rfl rfl (ja rfl rfl ?_))))
               obtain ⟨t175, h162, hm⟩ := bindO hm
               refine jd [] [] rfl rfl rfl rfl rfl rfl rfl Try.call30 (fun w hh => ZJ o.own3 s0 (qA l_2.2.2.1.q) l_2.2.2.1.n l_2.2.2.1.cap (qA l_2.2.2.2.1.q) l_2.2.2.2.1.n l_2.2.2.2.1.cap qa0 na0 ca0 qa1 na1 ca1 w (HV.callee (S0 := []) (vs0 := []) hh (roC (hh.vsepA 4 rfl h9) (roC (hh.vsepA 5 rfl h10) (roR hh 0 rfl (roR hh 1 rfl roN))))) (vlen RSt h9 rfl) (AOK.q (vne h9)) (h9).hle (vlen RSp h10 rfl) (AOK.q (vne h10)) (h10).hle hna0 hqa0 hla0 hna1 hqa1 hla1 h162) (fun l_32 h163 => ?_)
               refine j3 rfl rfl rfl (jf rfl rfl ?_)
               refine jD 177 rfl (fun h164 => ?_) (fun h164 => ?_)
               ·replace hm := ifT (h164) hm
                refine ja rfl rfl ?_
                obtain ⟨t178, h165, hm⟩ := bindO hm
                refine jd [] [] rfl rfl rfl rfl rfl rfl rfl Try.call20 (fun w hh => Yw  w (HV.callee (S0 := []) (vs0 := []) hh roN)  h165) (fun l_33 h166 => ?_)
                refine j3 rfl rfl rfl (jm rfl rfl (jv ?_))
                obtain rfl := sj hm
                exact jg () (trivial) (sE rfl) (fun w hh => hh)
               ·replace hm := ifN h164 hm
                refine g_k rfl rfl rfl rfl (ki rfl rfl rfl (jm rfl rfl (jv ?_)))
                obtain rfl := sj hm
                exact jg () (trivial) (sE rfl) (fun w hh => hh)
              ·replace hm := ifE h161 hm
               refine g_k rfl rfl rfl rfl (g_k rfl rfl rfl rfl (g_k rfl rfl rfl rfl (ki rfl rfl rfl (jf rfl rfl (g_k rfl rfl rfl rfl (ki rfl rfl rfl (jm rfl rfl ?_)))))))
               refine jv ?_
               obtain rfl := sj hm
               exact jg () (trivial) (sE rfl) (fun w hh => hh)
             ·replace hm := ifE h158 hm
              refine g_k rfl rfl rfl rfl (g_k rfl rfl rfl rfl (g_k rfl rfl rfl rfl (g_k rfl rfl rfl rfl (g_k rfl rfl rfl rfl (ki rfl rfl rfl (jf rfl rfl (g_k rfl rfl rfl rfl ?_)))))))
              refine g_k rfl rfl rfl rfl (g_k rfl rfl rfl rfl (ki rfl rfl rfl (jf rfl rfl (g_k rfl rfl rfl rfl (ki rfl rfl rfl (jm rfl rfl (jv ?_)))))))
              obtain rfl := sj hm
              exact jg () (trivial) (sE rfl) (fun w hh => hh)
            ·intro l_29 hj
             replace hm := h155
             refine jb (jw ?_)
             obtain rfl := sj hm
             refine jn rfl (fun w hh => (.tmp rfl .nil)) (fun w hh => ⟨(), rfl, trivial, hh.se [] [] 2 rfl rfl rfl rfl⟩)
end Go.Proofs.Ws

namespace Go.Proofs.Ws
set_option maxHeartbeats 4000000
set_option maxRecDepth 100000
open Go Go.Fw Go.Gx Go.Sp
set_option linter.unusedVariables false

structure jaC where
  r0 : Scalps
  b0_1 : Int
  b0_2 : Int
  r1 : (List (List Int))
end Go.Proofs.Ws

namespace Go.Proofs.Ws
open Go Go.Fw Go.Gx Go.Sp
def GapW (S : Int → Bool) (w : Wy) : Int := if S w.fr = false ∧ S w.dst = true then w.lo else if S w.fr = true ∧ S w.dst = false then - w.hi else 0
theorem gap_laid {S T : Nat} {g h : Nat → Span} {R : Nat → Nat → Bool} {c : Nat → Nat → Int} (M : Int → Bool) :
    gap M (laidTo S g h R c T) = sumTo (fun k => GapW M (stripW g k)) S + sumTo (fun t => sumTo (fun k => if R t k = true then GapW M (innerW c t k) else 0) S + GapW M (tenW h t)) T := by
  unfold gap laidTo
  rw [sumI_append, sumI_map, sumI_flat]
  congr 1
  · exact sumI_range' _ S
  · refine sumTo_congr fun t _ => ?_
    unfold tenL
    rw [sumI_append, sumI_map, sumI_filter]
    congr 1
    simp [sumI, GapW]
theorem sumTo_neg_le {f : Nat → Int} {n j : Nat} (h : ∀ i, i < n → f i ≤ 0) (hj : j < n) : sumTo f n ≤ f j := by
  have := sumTo_mem_le (f := fun i => -1 * f i) (n := n) (j := j) (fun i hi => by have := h i hi; omega) hj
  rw [sumTo_mul] at this
  omega
theorem asc_filtL {p : Nat → Bool} : ∀ n, (∀ j, j + 1 < (filtL p n).length → gtI (filtL p n) j < gtI (filtL p n) (j + 1)) ∧ ∀ x, x ∈ filtL p n → 0 ≤ x ∧ x < (n : Int)
  | 0 => ⟨fun j hj => by simp [filtL] at hj, fun x hx => by simp [filtL] at hx⟩
  | n + 1 => by
    obtain ⟨h1, h2⟩ := asc_filtL (p := p) n
    rw [filtL_succ]
    split
    · refine ⟨fun j hj => ?_, fun x hx => ?_⟩
      · rw [List.length_append] at hj
        simp only [List.length_cons, List.length_nil] at hj
        unfold gtI
        have hjl : j < (filtL p n).length := by omega
        rw [List.getD_eq_getElem?_getD, List.getD_eq_getElem?_getD, List.getElem?_append_left hjl]
        by_cases h3 : j + 1 < (filtL p n).length
        · rw [List.getElem?_append_left h3]
          have := h1 j h3
          unfold gtI at this
          rw [List.getD_eq_getElem?_getD, List.getD_eq_getElem?_getD] at this
          exact this
        · rw [List.getElem?_append_right (by omega), show j + 1 - (filtL p n).length = 0 by omega]
          have hm := (h2 _ (List.getElem_mem hjl)).2
          rw [List.getElem?_eq_getElem hjl]
          simpa using hm
      · rcases List.mem_append.1 hx with hx | hx
        · have := h2 x hx; omega
        · rw [List.mem_singleton] at hx; omega
    · exact ⟨h1, fun x hx => by have := h2 x hx; omega⟩
theorem ascB_filtL {p : Nat → Bool} {n : Nat} : ascB (filtL p n) = true := by
  unfold ascB
  rw [List.all_eq_true]
  intro j hj
  have := List.mem_range.1 hj
  exact decide_eq_true ((asc_filtL n).1 j (by omega))
theorem filtL_mem {p : Nat → Bool} {n k : Nat} : (k : Int) ∈ filtL p n ↔ k < n ∧ p k = true := by
  unfold filtL
  rw [List.mem_map]
  constructor
  · rintro ⟨a, h1, h2⟩
    have : a = k := by omega
    subst this
    obtain ⟨h3, h4⟩ := List.mem_filter.1 h1
    exact ⟨by simpa using h3, h4⟩
  · rintro ⟨h1, h2⟩
    exact ⟨k, List.mem_filter.2 ⟨by simpa using h1, h2⟩, rfl⟩
theorem hasZ_iff {l : List Int} {v : Nat} : hasZ l v = true ↔ (v : Int) ∈ l := by
  unfold hasZ
  rw [List.any_eq_true]
  constructor
  · rintro ⟨x, h1, h2⟩
    rw [of_decide_eq_true h2]; exact h1
  · intro h; exact ⟨_, h, decide_eq_true rfl⟩
theorem filtL_nat {p : Nat → Bool} {n : Nat} {x : Int} (h : x ∈ filtL p n) : ∃ k : Nat, x = (k : Int) ∧ k < n ∧ p k = true := by
  unfold filtL at h
  obtain ⟨k, h1, rfl⟩ := List.mem_map.1 h
  obtain ⟨h3, h4⟩ := List.mem_filter.1 h1
  exact ⟨k, rfl, by simpa using h3, h4⟩
theorem lack_is {s : Scalps} (h : Right s) {mp : List (Pair × Bool)} {cf : Pair → Option Int} {w : Wy} {met : List Bool} (hlk : Lk (laidS s.strips s.carried mp cf) w met) : 1 ≤ lackV s mp (lackP s.strips s.carried w met) := by
  have hg := lk_cut hlk
  unfold laidS at hg
  rw [gap_laid, sumTo_add] at hg
  have hS := h.net
  have h6 := hS.s6; have h5 := hS.c5
  obtain ⟨l, hgood, hwl, hlow, hd, hf, _⟩ := hlk.ex
  unfold lackV lackP
  generalize gI false met = M at *
  have hin : ∀ t k, t < s.carried.length → k < s.strips.length → (if rOf mp t k = true then GapW M (innerW (cOf cf) t k) else 0) ≤ 0 := fun t k _ _ => by
    split
    · unfold GapW innerW
      simp only
      split
      · exact Int.le_refl _
      · split <;> omega
    · exact Int.le_refl _
  have hsum1 : sumTo (fun k => GapW M (stripW (gOf s.strips) k)) s.strips.length ≤ 60 * (s.strips.length : Int) := by
    have := sumTo_le (f := fun k => GapW M (stripW (gOf s.strips) k)) (g := fun _ => 60) (k := s.strips.length) (fun k hk => by
      have := gOf_ok hS hk
      unfold GapW stripW
      simp only
      split
      · omega
      · split <;> omega)
    have h2 := sumTo_bound (f := fun _ => 60) (b := 60) (n := s.strips.length) (fun _ _ => by omega)
    omega
  have hsum2 : sumTo (fun t => GapW M (tenW (hOf s.carried) t)) s.carried.length ≤ 30 * (s.carried.length : Int) := by
    have := sumTo_le (f := fun t => GapW M (tenW (hOf s.carried) t)) (g := fun _ => 30) (k := s.carried.length) (fun t ht => by
      have := hOf_ok hS ht
      unfold GapW tenW
      simp only
      split
      · omega
      · split <;> omega)
    have h2 := sumTo_bound (f := fun _ => 30) (b := 30) (n := s.carried.length) (fun _ _ => by omega)
    omega
  have hrow : ∀ t, t < s.carried.length → sumTo (fun k => if rOf mp t k = true then GapW M (innerW (cOf cf) t k) else 0) s.strips.length ≤ 0 := fun t ht => by
    have := sumTo_le (f := fun k => if rOf mp t k = true then GapW M (innerW (cOf cf) t k) else 0) (g := fun _ => 0) (k := s.strips.length) (fun k hk => hin t k ht hk)
    rwa [sumTo_zero] at this
  have htot : sumTo (fun t => sumTo (fun k => if rOf mp t k = true then GapW M (innerW (cOf cf) t k) else 0) s.strips.length) s.carried.length ≤ 0 := by
    have := sumTo_le (f := fun t => sumTo (fun k => if rOf mp t k = true then GapW M (innerW (cOf cf) t k) else 0) s.strips.length) (g := fun _ => 0) (k := s.carried.length) hrow
    rwa [sumTo_zero] at this
  have hno : ∀ t k : Nat, t < s.carried.length → k < s.strips.length → rOf mp t k = true → M (1 + (k : Int)) = true → M (7 + (t : Int)) = true := fun t k ht hk hr hM => by
    cases hM2 : M (7 + (t : Int)) with
    | true => rfl
    | false =>
      exfalso
      have e : (if rOf mp t k = true then GapW M (innerW (cOf cf) t k) else 0) = -1000000 := by
        rw [if_pos hr]
        unfold GapW innerW
        simp only
        rw [if_neg (by simp [hM]), if_pos ⟨hM, hM2⟩]
      have a := sumTo_neg_le (f := fun k => if rOf mp t k = true then GapW M (innerW (cOf cf) t k) else 0) (fun i hi => hin t i ht hi) hk
      have b := sumTo_neg_le (f := fun t => sumTo (fun k => if rOf mp t k = true then GapW M (innerW (cOf cf) t k) else 0) s.strips.length) hrow ht
      simp only [e] at a
      have c : sumTo (fun k => if rOf mp t k = true then GapW M (innerW (cOf cf) t k) else 0) s.strips.length ≤ -1000000 := a
      have d : sumTo (fun t => sumTo (fun k => if rOf mp t k = true then GapW M (innerW (cOf cf) t k) else 0) s.strips.length) s.carried.length ≤ -1000000 := Int.le_trans b c
      omega
  by_cases hw0 : w.dst = 0
  · rw [hw0] at hd
    simp only [hw0, if_true]
    have e1 : sumTo (fun t => GapW M (tenW (hOf s.carried) t)) s.carried.length = sumTo (needT s (filtL (fun t => !M (7 + (t : Int))) s.carried.length)) s.carried.length := sumTo_congr fun t ht => by
      unfold GapW tenW needT
      simp only
      cases hM : M (7 + (t : Int)) with
      | false => rw [if_pos ⟨rfl, hd⟩, if_pos (hasZ_iff.2 (filtL_mem.2 ⟨ht, by rw [hM]; rfl⟩))]
      | true =>
        rw [if_neg (by simp), if_neg (by simp [hd]), if_neg]
        intro hh
        have := (filtL_mem.1 (hasZ_iff.1 hh)).2
        rw [hM] at this; cases this
    have e2 : sumTo (canT s mp (filtL (fun t => !M (7 + (t : Int))) s.carried.length)) s.strips.length ≤ sumTo (fun k => -1 * GapW M (stripW (gOf s.strips) k)) s.strips.length := sumTo_le fun k hk => by
      have hgk := gOf_ok hS hk
      cases hM : M (1 + (k : Int)) with
      | false =>
        have eg : GapW M (stripW (gOf s.strips) k) = - (gOf s.strips k).hi := by
          unfold GapW stripW
          simp only
          rw [if_neg (by simp [hM]), if_pos ⟨hd, hM⟩]
        rw [eg]
        unfold canT
        split <;> omega
      | true =>
        have eg : GapW M (stripW (gOf s.strips) k) = 0 := by
          unfold GapW stripW
          simp only
          rw [if_neg (by simp [hd]), if_neg (by simp [hM])]
        rw [eg]
        unfold canT
        rw [if_neg]
        · omega
        · intro hh
          rw [List.any_eq_true] at hh
          obtain ⟨x, hx, hxr⟩ := hh
          obtain ⟨t, rfl, ht, hMt⟩ := filtL_nat hx
          have := hno t k ht hk hxr hM
          rw [this] at hMt; cases hMt
    rw [sumTo_mul] at e2
    omega
  · have hf0 : M 0 = false := by
      have hm : base w ∈ (laidS s.strips s.carried mp cf).map base := by
        rw [show (laidS s.strips s.carried mp cf).map base = l.map base from hgood.same]
        exact List.mem_map.2 ⟨w, hwl, rfl⟩
      obtain ⟨w', hw', he⟩ := List.mem_map.1 hm
      obtain ⟨e1, e2, e3, e4, e5⟩ := base_eq he
      rcases laid_mem hw' with ⟨k, hk, rfl⟩ | ⟨t, k, ht, hk, _, rfl⟩ | ⟨t, ht, rfl⟩
      · have : w.fr = 0 := e1.symm
        rw [this] at hf; exact hf
      · exfalso
        have : w.lo = 0 := e3.symm
        have := (hgood.ok.2 w hwl).goes
        omega
      · exfalso
        exact hw0 e2.symm
    simp only [hw0, if_false, Bool.false_eq_true]
    have e1 : sumTo (fun k => GapW M (stripW (gOf s.strips) k)) s.strips.length = sumTo (needK s (filtL (fun k => M (1 + (k : Int))) s.strips.length)) s.strips.length := sumTo_congr fun k hk => by
      unfold GapW stripW needK
      simp only
      cases hM : M (1 + (k : Int)) with
      | true => rw [if_pos ⟨hf0, rfl⟩, if_pos (hasZ_iff.2 (filtL_mem.2 ⟨hk, hM⟩))]
      | false =>
        rw [if_neg (by simp), if_neg (by simp [hf0]), if_neg]
        intro hh
        have := (filtL_mem.1 (hasZ_iff.1 hh)).2
        rw [hM] at this; cases this
    have e2 : sumTo (canK s mp (filtL (fun k => M (1 + (k : Int))) s.strips.length)) s.carried.length ≤ sumTo (fun t => -1 * GapW M (tenW (hOf s.carried) t)) s.carried.length := sumTo_le fun t ht => by
      have hgk := hOf_ok hS ht
      cases hM : M (7 + (t : Int)) with
      | true =>
        have eg : GapW M (tenW (hOf s.carried) t) = - (hOf s.carried t).hi := by
          unfold GapW tenW
          simp only
          rw [if_neg (by simp [hM]), if_pos ⟨hM, hf0⟩]
        rw [eg]
        unfold canK
        split <;> omega
      | false =>
        have eg : GapW M (tenW (hOf s.carried) t) = 0 := by
          unfold GapW tenW
          simp only
          rw [if_neg (by simp [hf0]), if_neg (by simp [hM])]
        rw [eg]
        unfold canK
        rw [if_neg]
        · omega
        · intro hh
          rw [List.any_eq_true] at hh
          obtain ⟨x, hx, hxr⟩ := hh
          obtain ⟨k, rfl, hk, hMt⟩ := filtL_nat hx
          have := hno t k ht hk hxr hMt
          rw [hM] at this; cases this
    rw [sumTo_mul] at e2
    omega
def manyL (s : Scalps) (l : Lack) : Int := if l.tenants = true then (s.carried.length : Int) else (s.strips.length : Int)
def showR (s : Scalps) (mp : List (Pair × Bool)) (l : Lack) : kh :=
  if (l.of_.all fun x => inb x 0 (manyL s l - 1)) = true then
    if (decide (l.of_.length ≠ 0) && ascB l.of_) = true then
      if lackV s mp l < 1 then ⟨0, 8⟩ else ⟨lackV s mp l, 0⟩
    else ⟨0, 4⟩
  else ⟨0, 1⟩
theorem lackV_nil {s : Scalps} (h : Right s) {mp : List (Pair × Bool)} {l : Lack} (h0 : l.of_.length = 0) : lackV s mp l ≤ 0 := by
  have e : l.of_ = [] := List.length_eq_zero_iff.1 h0
  have a : sumTo (fun t => needT s ([] : List Int) t) s.carried.length = 0 := by
    rw [← sumTo_zero s.carried.length]; exact sumTo_congr fun t _ => by unfold needT hasZ; simp
  have b : sumTo (fun t => needK s ([] : List Int) t) s.strips.length = 0 := by
    rw [← sumTo_zero s.strips.length]; exact sumTo_congr fun t _ => by unfold needK hasZ; simp
  have c : 0 ≤ sumTo (canT s mp l.of_) s.strips.length := sumTo_nonneg fun k hk => by
    have := gOf_ok h.net hk
    unfold canT; split <;> omega
  have d : 0 ≤ sumTo (canK s mp l.of_) s.carried.length := sumTo_nonneg fun t ht => by
    have := hOf_ok h.net ht
    unfold canK; split <;> omega
  unfold lackV
  rw [e] at c d ⊢
  split
  · have a' : sumTo (needT s []) s.carried.length = 0 := a
    omega
  · have b' : sumTo (needK s []) s.strips.length = 0 := b
    omega
theorem Lacks_spec {s : Scalps} (h : Right s) {mp : List (Pair × Bool)} (hmp : ks s = some (.inr mp)) (hm : MapOK s.strips mp) :
    (z8 s = some ⟨⟨false, []⟩, 6⟩ ∧ ∃ y, FitsS s y) ∨ (∃ l, z8 s = some ⟨l, 0⟩ ∧ NoFit s ∧ l.of_.length ≤ 6 ∧ 1 ≤ lackV s mp l ∧ (l.of_.all fun x => inb x 0 (manyL s l - 1)) = true ∧ (decide (l.of_.length ≠ 0) && ascB l.of_) = true) := by
  have h6 := h.net.s6; have h5 := h.net.c5
  unfold z8
  rw [hmp, Option.bind_some, oc_inr, QW, Option.bind_some]
  rcases filled_min h hm (cf_theft s).ok with ⟨l, y, h1, _, _, _, _, _, h3, _⟩ | ⟨w, met, h1, hlk, h3⟩
  · left
    rw [h1, Option.bind_some, oc_inr]
    exact ⟨rfl, y, h3⟩
  · right
    rw [h1, Option.bind_some, oc_inl]
    refine ⟨_, rfl, h3, ?_, lack_is h hlk, ?_, ?_⟩
    · unfold lackP
      split
      · exact Nat.le_trans filtL_len (by omega)
      · exact Nat.le_trans filtL_len (by omega)
    · unfold lackP manyL
      split
      · simp only [if_true]
        rw [List.all_eq_true]; intro x hx
        have := (asc_filtL s.carried.length).2 x hx
        exact inb_iff.2 (by omega)
      · simp only [Bool.false_eq_true, if_false]
        rw [List.all_eq_true]; intro x hx
        have := (asc_filtL s.strips.length).2 x hx
        exact inb_iff.2 (by omega)
    · rw [Bool.and_eq_true]
      constructor
      · refine decide_eq_true fun h0 => ?_
        have a := lackV_nil h (mp := mp) h0
        have b := lack_is h hlk
        omega
      · unfold lackP
        split <;> exact ascB_filtL
theorem Lacks_wrong {s : Scalps} (h : chk s ≠ 0) : z8 s = some ⟨⟨false, []⟩, chk s⟩ := by
  unfold z8
  rw [J2 h]; rfl
end Go.Proofs.Ws

namespace Go.Proofs.Ws
open Go Go.Fw Go.Gx Go.Sp
set_option linter.unusedVariables false
theorem reachB_congr {a b : List Strip} (h : a.map (·.tenant) = b.map (·.tenant)) (t k : Nat) : reachB a t k = reachB b t k := by
  have hl : a.length = b.length := by have := congrArg List.length h; simpa using this
  unfold reachB
  rw [hl, Bool.eq_iff_iff, List.any_eq_true, List.any_eq_true]
  have hg : ∀ j, j < b.length → (a.getD j default).tenant = (b.getD j default).tenant := fun j hj => by
    have h2 : (a.map (·.tenant))[j]? = (b.map (·.tenant))[j]? := by rw [h]
    rw [List.getElem?_map, List.getElem?_map] at h2
    rw [List.getD_eq_getElem?_getD, List.getD_eq_getElem?_getD, List.getElem?_eq_getElem (by omega), List.getElem?_eq_getElem hj]
    rw [List.getElem?_eq_getElem (by omega), List.getElem?_eq_getElem hj] at h2
    simpa using h2
  constructor
  · rintro ⟨j, h1, h2⟩
    obtain ⟨a1, a2, a3⟩ := of_decide_eq_true h2
    exact ⟨j, h1, decide_eq_true ⟨a1, a2, by rw [← hg j (List.mem_range.1 h1)]; exact a3⟩⟩
  · rintro ⟨j, h1, h2⟩
    obtain ⟨a1, a2, a3⟩ := of_decide_eq_true h2
    exact ⟨j, h1, decide_eq_true ⟨a1, a2, by rw [hg j (List.mem_range.1 h1)]; exact a3⟩⟩
end Go.Proofs.Ws

namespace Go.Proofs.Ws
open Go Go.Fw Go.Gx Go.Sp
set_option linter.unusedVariables false
def okE (s : Scalps) (t k : Nat) (n : Int) : Bool := decide (0 ≤ n ∧ n ≤ 60 ∧ (0 < n → reachB s.strips t k = true))
def rowV (row : List Int) (k : Nat) : Int := row.getD k 0
def rowB (s : Scalps) (t : Nat) (row : List Int) : Bool := decide (row.length = s.strips.length) && ((List.range s.strips.length).all (fun k => okE s t k (rowV row k)) && decide ((hOf s.carried t).lo ≤ sumTo (rowV row) s.strips.length ∧ sumTo (rowV row) s.strips.length ≤ (hOf s.carried t).hi))
def shV (rows : List (List Int)) (t k : Nat) : Int := rowV (rows.getD t []) k
def colB (s : Scalps) (rows : List (List Int)) (k : Nat) : Bool := decide ((gOf s.strips k).lo ≤ sumTo (fun t => shV rows t k) s.carried.length ∧ sumTo (fun t => shV rows t k) s.carried.length ≤ (gOf s.strips k).hi)
def fitsB (s : Scalps) (rows : List (List Int)) : Bool := decide (rows.length = s.carried.length) && ((List.range s.carried.length).all (fun t => rowB s t (rows.getD t [])) && (List.range s.strips.length).all (colB s rows))
theorem okE_iff {s : Scalps} {t k : Nat} {n : Int} : okE s t k n = true ↔ 0 ≤ n ∧ n ≤ 60 ∧ (0 < n → reachB s.strips t k = true) := decide_eq_true_iff
def vecS (S : Nat) (f : Nat → Int) : List Int := (List.range S).map f
theorem vecS_set {S k : Nat} {f : Nat → Int} {v : Int} : (vecS S f).set k v = vecS S fun i => if i = k then v else f i := range_set
theorem vecS_ix {S k : Nat} {f : Nat → Int} (h : k < S) : ix (vecS S f) (k : Int) = some (f k) := range_ix h
theorem vecS_len {S : Nat} {f : Nat → Int} : (vecS S f).length = S := by simp [vecS]
theorem vecS_congr {S : Nat} {f g : Nat → Int} (h : ∀ i, i < S → f i = g i) : vecS S f = vecS S g := List.map_congr_left fun i hi => h i (List.mem_range.1 hi)
theorem all_find {n : Nat} {p : Nat → Bool} : (List.range n).all p = ((List.range n).find? fun k => !p k).isNone := by
  rw [Bool.eq_iff_iff, List.all_eq_true, Option.isNone_iff_eq_none, List.find?_eq_none]
  constructor
  · intro h x hx; simp [h x hx]
  · intro h x hx; simpa using h x hx
theorem mat_getD {T S t : Nat} {y : Nat → Nat → Int} (ht : t < T) : (mat T S y).getD t [] = vecS S (y t) := by
  unfold mat vecS
  simp [List.getD_eq_getElem?_getD, ht]
theorem vecS_get {S k : Nat} {f : Nat → Int} (hk : k < S) : rowV (vecS S f) k = f k := by
  unfold rowV vecS
  simp [List.getD_eq_getElem?_getD, hk]
theorem mat_shV {T S t k : Nat} {y : Nat → Nat → Int} (ht : t < T) (hk : k < S) : shV (mat T S y) t k = y t k := by
  unfold shV
  rw [mat_getD ht, vecS_get hk]
theorem mat_len {T S : Nat} {y : Nat → Nat → Int} : (mat T S y).length = T := by simp [mat]
theorem le60 {s : Scalps} (h : Right s) {y : Nat → Nat → Int} (hy : FitsS s y) {t k : Nat} (ht : t < s.carried.length) (hk : k < s.strips.length) : y t k ≤ 60 := by
  have a := sumTo_mem_le (f := y t) (n := s.strips.length) (j := k) (fun i hi => (hy.pos t i ht hi).1) hk
  have b := (hy.ten t ht).2
  have c := hOf_ok h.net ht
  have e : sumTo (fun k => y t k) s.strips.length = sumTo (y t) s.strips.length := rfl
  omega
theorem fitsB_mat {s : Scalps} (h : Right s) {y : Nat → Nat → Int} : fitsB s (mat s.carried.length s.strips.length y) = true ↔ FitsS s y := by
  unfold fitsB
  rw [mat_len, decide_eq_true rfl, Bool.true_and, Bool.and_eq_true, List.all_eq_true, List.all_eq_true]
  have hrowsum : ∀ t, t < s.carried.length → sumTo (rowV (vecS s.strips.length (y t))) s.strips.length = sumTo (fun k => y t k) s.strips.length := fun t ht => sumTo_congr fun k hk => vecS_get hk
  have hcolsum : ∀ k, k < s.strips.length → sumTo (fun t => shV (mat s.carried.length s.strips.length y) t k) s.carried.length = sumTo (fun t => y t k) s.carried.length := fun k hk => sumTo_congr fun t ht => mat_shV ht hk
  constructor
  · rintro ⟨h1, h2⟩
    have h1' : ∀ t, t < s.carried.length → (∀ k, k < s.strips.length → 0 ≤ y t k ∧ y t k ≤ 60 ∧ (0 < y t k → reachB s.strips t k = true)) ∧ (hOf s.carried t).lo ≤ sumTo (fun k => y t k) s.strips.length ∧ sumTo (fun k => y t k) s.strips.length ≤ (hOf s.carried t).hi := fun t ht => by
      have := h1 t (List.mem_range.2 ht)
      unfold rowB at this
      rw [mat_getD ht, Bool.and_eq_true, Bool.and_eq_true, List.all_eq_true] at this
      refine ⟨fun k hk => ?_, ?_⟩
      · have a := okE_iff.1 (this.2.1 k (List.mem_range.2 hk))
        rwa [vecS_get hk] at a
      · have a := of_decide_eq_true this.2.2
        rwa [hrowsum t ht] at a
    refine ⟨fun t k ht hk => ⟨((h1' t ht).1 k hk).1, ((h1' t ht).1 k hk).2.2⟩, fun t ht => (h1' t ht).2, fun k hk => ?_⟩
    have := of_decide_eq_true (h2 k (List.mem_range.2 hk))
    rwa [hcolsum k hk] at this
  · intro hy
    refine ⟨fun t ht => ?_, fun k hk => ?_⟩
    · have ht' := List.mem_range.1 ht
      unfold rowB
      rw [mat_getD ht', Bool.and_eq_true, Bool.and_eq_true, List.all_eq_true]
      refine ⟨decide_eq_true vecS_len, fun k hk => okE_iff.2 ?_, decide_eq_true ?_⟩
      · have hk' := List.mem_range.1 hk
        rw [vecS_get hk']
        exact ⟨(hy.pos t k ht' hk').1, le60 h hy ht' hk', (hy.pos t k ht' hk').2⟩
      · rw [hrowsum t ht']; exact hy.ten t ht'
    · have hk' := List.mem_range.1 hk
      unfold colB
      rw [hcolsum k hk']
      exact decide_eq_true (hy.str k hk')
end Go.Proofs.Ws

namespace Go.Proofs.Ws
open Go Go.Fw Go.Gx Go.Sp
set_option maxRecDepth 100000 in
theorem awake_eq : Kc = some true := by decide +kernel
end Go.Proofs.Ws

namespace Go.Proofs.Ws
open Go Go.Fw Go.Gx Go.Sp
set_option linter.unusedVariables false
def AscR (l : List Int) (n : Int) : Prop := (∀ j, j + 1 < l.length → gtI l j < gtI l (j + 1)) ∧ ∀ x, x ∈ l → 0 ≤ x ∧ x < n
theorem AscR.nil {n : Int} : AscR [] n := ⟨fun j hj => by simp at hj, fun x hx => by simp at hx⟩
theorem AscR.mono {l : List Int} {n m : Int} (h : AscR l n) (hnm : n ≤ m) : AscR l m := ⟨h.1, fun x hx => by have := h.2 x hx; omega⟩
theorem AscR.inr {l : List Int} {n : Int} (h : AscR l n) : (l.all fun x => inb x 0 (n - 1)) = true := by
  rw [List.all_eq_true]
  intro x hx
  have := h.2 x hx
  exact inb_iff.2 (by omega)
end Go.Proofs.Ws

namespace Go.Proofs.Ws
open Go Go.Fw Go.Gx Go.Sp
set_option linter.unusedVariables false
structure Alike (s s' : Scalps) : Prop where
  ca : s'.carried = s.carried
  ten : s'.strips.map (·.tenant) = s.strips.map (·.tenant)
  gone : ∀ k, k < s.strips.length → gOf s'.strips k = gOf s.strips k
theorem Alike.len {s s' : Scalps} (h : Alike s s') : s'.strips.length = s.strips.length := by have := congrArg List.length h.ten; simpa using this
theorem Alike.fits {s s' : Scalps} (h : Alike s s') {y : Nat → Nat → Int} : FitsS s' y ↔ FitsS s y := by
  have hl := h.len
  have hr : ∀ t k, reachB s'.strips t k = reachB s.strips t k := reachB_congr h.ten
  constructor
  · intro hy
    exact ⟨fun t k ht hk => by rw [← hr]; exact hy.pos t k (by rw [h.ca]; exact ht) (by omega), fun t ht => by have := hy.ten t (by rw [h.ca]; exact ht); rw [h.ca, hl] at this; exact this, fun k hk => by have := hy.str k (by omega); rw [h.gone k hk, h.ca] at this; exact this⟩
  · intro hy
    exact ⟨fun t k ht hk => by rw [hr]; exact hy.pos t k (by rw [← h.ca]; exact ht) (by omega), fun t ht => by rw [h.ca, hl]; exact hy.ten t (by rw [← h.ca]; exact ht), fun k hk => by rw [h.gone k (by omega), h.ca]; exact hy.str k (by omega)⟩
theorem Alike.count {s s' : Scalps} (h : Alike s s') {c c' : Nat → Nat → Int} (hc : ∀ t k, c' t k = c t k) (y : Nat → Nat → Int) : countS s' c' y = countS s c y := by
  unfold countS countY
  rw [h.ca, h.len]
  exact sumTo_congr fun t ht => sumTo_congr fun k hk => by rw [hc]
theorem Alike.range {s s' : Scalps} (h : Alike s s') {c c' : Nat → Nat → Int} (hc : ∀ t k, c' t k = c t k) {lo hi : Int} (hr : IsRange s' c' lo hi) : IsRange s c lo hi := by
  obtain ⟨⟨y1, f1, e1⟩, ⟨y2, f2, e2⟩, h3⟩ := hr
  exact ⟨⟨y1, h.fits.1 f1, by rw [← h.count hc]; exact e1⟩, ⟨y2, h.fits.1 f2, by rw [← h.count hc]; exact e2⟩, fun y hy => by rw [← h.count hc]; exact h3 y (h.fits.2 hy)⟩
end Go.Proofs.Ws

namespace Go.Proofs.Ws
open Go Go.Fw Go.Gx Go.Sp
set_option linter.unusedVariables false
def slack (π : Int → Int) (s : List Int) : Int := sumTo (fun v => gI 0 s (v : Int) - π (v : Int)) 12
end Go.Proofs.Ws

namespace Go.Proofs.Ws
open Go Go.Fw Go.Gx Go.Sp
set_option linter.unusedVariables false
def bsN (ca : List Span) (t : Nat) : Nat := (hOf ca t).hi.toNat + 1
def stepN (ca : List Span) : Nat → Nat
  | 0 => 1
  | t + 1 => stepN ca t * bsN ca t
def digN (ca : List Span) (a t : Nat) : Nat := a / stepN ca t % bsN ca t
theorem stepN_pos (ca : List Span) : ∀ t, 0 < stepN ca t
  | 0 => Nat.one_pos
  | t + 1 => Nat.mul_pos (stepN_pos ca t) (Nat.succ_pos _)
theorem stepN_dvd (ca : List Span) {t : Nat} : ∀ {t'}, t < t' → ∃ m, stepN ca t' = stepN ca t * bsN ca t * m
  | 0, h => by omega
  | t' + 1, h => by
    by_cases he : t = t'
    · subst he; exact ⟨1, by simp [stepN]⟩
    · obtain ⟨m, hm⟩ := stepN_dvd ca (t := t) (t' := t') (by omega)
      exact ⟨m * bsN ca t', by simp only [stepN]; rw [hm, Nat.mul_assoc]⟩
theorem digN_lt (ca : List Span) (a t : Nat) : digN ca a t < bsN ca t := Nat.mod_lt _ (Nat.succ_pos _)
theorem div_add_digit {q n b : Nat} (h : q % b + n < b) : (q + n) / b = q / b ∧ (q + n) % b = q % b + n := by
  have h0 : 0 < b := by omega
  have e : q + n = (q % b + n) + b * (q / b) := by have := Nat.mod_add_div q b; omega
  constructor
  · rw [e, Nat.add_mul_div_left _ _ h0, Nat.div_eq_of_lt h, Nat.zero_add]
  · rw [e, Nat.add_mul_mod_self_left, Nat.mod_eq_of_lt h]
theorem div_up (ca : List Span) {a n t t' : Nat} (ht : t < t') (h : digN ca a t + n < bsN ca t) : (a + n * stepN ca t) / stepN ca t' = a / stepN ca t' := by
  obtain ⟨m, hm⟩ := stepN_dvd ca ht
  unfold digN at h
  rw [hm, ← Nat.div_div_eq_div_mul, ← Nat.div_div_eq_div_mul, Nat.add_mul_div_right _ _ (stepN_pos ca t), (div_add_digit h).1, Nat.div_div_eq_div_mul, Nat.div_div_eq_div_mul, Nat.mul_assoc]
theorem dig_add (ca : List Span) {a n t : Nat} (h : digN ca a t + n < bsN ca t) (t' : Nat) : digN ca (a + n * stepN ca t) t' = if t' = t then digN ca a t + n else digN ca a t' := by
  by_cases he : t' = t
  · subst he
    rw [if_pos rfl]
    unfold digN at h ⊢
    rw [Nat.add_mul_div_right _ _ (stepN_pos ca t'), (div_add_digit h).2]
  · rw [if_neg he]
    unfold digN
    by_cases hlt : t' < t
    · obtain ⟨m, hm⟩ := stepN_dvd ca hlt
      have e : a + n * stepN ca t = a + (n * (bsN ca t' * m)) * stepN ca t' := by
        rw [hm]
        congr 1
        rw [Nat.mul_assoc (stepN ca t'), Nat.mul_comm (stepN ca t'), ← Nat.mul_assoc]
      rw [e, Nat.add_mul_div_right _ _ (stepN_pos ca t'), show n * (bsN ca t' * m) = bsN ca t' * (n * m) by rw [Nat.mul_left_comm], Nat.add_mul_mod_self_left]
    · rw [div_up ca (by omega) h]
theorem at_up (ca : List Span) {a n t T : Nat} (hT : t < T) (ha : a < stepN ca T) (h : digN ca a t + n < bsN ca t) : a + n * stepN ca t < stepN ca T := by
  have h1 := div_up ca hT h
  rw [Nat.div_eq_of_lt ha] at h1
  exact (Nat.div_eq_zero_iff.1 h1).resolve_left (by have := stepN_pos ca T; omega)
theorem dig_zero (ca : List Span) (t : Nat) : digN ca 0 t = 0 := by unfold digN; simp
end Go.Proofs.Ws

namespace Go.Proofs.Ws
open Go Go.Fw Go.Gx Go.Sp
set_option linter.unusedVariables false
def gtB (l : List Bool) (j : Nat) : Bool := l.getD j false
structure BookOK (P : Nat → Int → Prop) (N : Nat) (b : Book) : Prop where
  l1 : b.can.length = N
  l2 : b.least.length = N
  l3 : b.most.length = N
  can : ∀ a, a < N → (gtB b.can a = true ↔ ∃ v, P a v)
  bd : ∀ a v, a < N → P a v → gtI b.least a ≤ v ∧ v ≤ gtI b.most a
  ends : ∀ a, a < N → gtB b.can a = true → P a (gtI b.least a) ∧ P a (gtI b.most a)
theorem BookOK.congr {P P' : Nat → Int → Prop} {N : Nat} {b : Book} (h : BookOK P N b) (hp : ∀ a v, a < N → (P a v ↔ P' a v)) : BookOK P' N b :=
  ⟨h.l1, h.l2, h.l3, fun a ha => (h.can a ha).trans ⟨fun ⟨v, hv⟩ => ⟨v, (hp a v ha).1 hv⟩, fun ⟨v, hv⟩ => ⟨v, (hp a v ha).2 hv⟩⟩, fun a v ha hv => h.bd a v ha ((hp a v ha).2 hv), fun a ha hc => ⟨(hp a _ ha).1 (h.ends a ha hc).1, (hp a _ ha).1 (h.ends a ha hc).2⟩⟩
theorem gtB_set {l : List Bool} {a x : Nat} {v : Bool} (ha : a < l.length) : gtB (l.set a v) x = if x = a then v else gtB l x := by
  unfold gtB
  rw [List.getD_eq_getElem?_getD, List.getD_eq_getElem?_getD, List.getElem?_set]
  by_cases h : a = x
  · subst h; rw [if_pos rfl, if_pos ha, if_pos rfl]; rfl
  · rw [if_neg h, if_neg (fun e => h e.symm)]
theorem gtI_set {l : List Int} {a x : Nat} {v : Int} (ha : a < l.length) : gtI (l.set a v) x = if x = a then v else gtI l x := by
  unfold gtI
  rw [List.getD_eq_getElem?_getD, List.getD_eq_getElem?_getD, List.getElem?_set]
  by_cases h : a = x
  · subst h; rw [if_pos rfl, if_pos ha, if_pos rfl]; rfl
  · rw [if_neg h, if_neg (fun e => h e.symm)]
theorem enter_spec {P : Nat → Int → Prop} {N : Nat} {b : Book} (h : BookOK P N b) {a : Nat} (ha : a < N) {lo hi : Int} {Q : Int → Prop} (q1 : Q lo) (q2 : Q hi) (q3 : ∀ v, Q v → lo ≤ v ∧ v ≤ hi) :
    ∃ r, JC b (a : Int) lo hi = some r ∧ BookOK (fun x v => P x v ∨ (x = a ∧ Q v)) N ⟨r.b0_can, r.b0_least, r.b0_most⟩ := by
  have l1 := h.l1; have l2 := h.l2; have l3 := h.l3
  unfold JC
  rw [ix_nat false (by omega), Option.bind_some, show Int.toNat (a : Int) = a by omega]
  by_cases hc : gtB b.can a = true
  · have hc' : b.can.getD a false = true := hc
    rw [hc', if_neg (by simp), Option.bind_some]
    dsimp only
    rw [ix_nat 0 (by omega), Option.bind_some, Option.bind_some, Option.bind_some, ix_nat 0 (by omega), Option.bind_some, Option.bind_some, Option.bind_some]
    obtain ⟨e1, e2⟩ := h.ends a ha hc
    refine ⟨_, rfl, ⟨l1, by simp only; rw [List.length_set]; exact l2, by simp only; rw [List.length_set]; exact l3, fun x hx => ?_, fun x v hx hv => ?_, fun x hx hxc => ?_⟩⟩
    · simp only
      rw [h.can x hx]
      constructor
      · rintro ⟨v, hv⟩; exact ⟨v, .inl hv⟩
      · rintro ⟨v, hv | ⟨rfl, hv⟩⟩
        · exact ⟨v, hv⟩
        · exact (h.can x hx).1 hc
    · simp only
      rw [gtI_set (by omega), gtI_set (by omega)]
      by_cases hxa : x = a
      · subst hxa
        rw [if_pos rfl, if_pos rfl]
        show min (gtI b.least x) lo ≤ v ∧ v ≤ max (gtI b.most x) hi
        rcases hv with hv | ⟨_, hv⟩
        · have := h.bd x v hx hv; omega
        · have := q3 v hv; omega
      · rw [if_neg hxa, if_neg hxa]
        rcases hv with hv | ⟨rfl, _⟩
        · exact h.bd x v hx hv
        · exact absurd rfl hxa
    · simp only at hxc ⊢
      rw [gtI_set (by omega), gtI_set (by omega)]
      by_cases hxa : x = a
      · subst hxa
        rw [if_pos rfl, if_pos rfl]
        show (P x (min (gtI b.least x) lo) ∨ (x = x ∧ Q (min (gtI b.least x) lo))) ∧ (P x (max (gtI b.most x) hi) ∨ (x = x ∧ Q (max (gtI b.most x) hi)))
        constructor
        · by_cases hm : gtI b.least x ≤ lo
          · rw [Int.min_eq_left hm]; exact .inl e1
          · rw [Int.min_eq_right (by omega)]; exact .inr ⟨rfl, q1⟩
        · by_cases hm : hi ≤ gtI b.most x
          · rw [Int.max_eq_left hm]; exact .inl e2
          · rw [Int.max_eq_right (by omega)]; exact .inr ⟨rfl, q2⟩
      · rw [if_neg hxa, if_neg hxa]
        obtain ⟨f1, f2⟩ := h.ends x hx hxc
        exact ⟨.inl f1, .inl f2⟩
  · have hc' : b.can.getD a false = false := by
      cases hg : b.can.getD a false with
      | false => rfl
      | true => exact absurd hg hc
    have hnP : ∀ v, ¬ P a v := fun v hv => hc ((h.can a ha).2 ⟨v, hv⟩)
    rw [hc', if_pos (show (!false) = true from rfl), Option.bind_some, Option.bind_some, ix_nat 0 (by omega), Option.bind_some, Option.bind_some, ix_nat 0 (by omega), Option.bind_some, Option.bind_some, Option.bind_some]
    dsimp only
    rw [ix_nat 0 (by rw [List.length_set]; omega), Option.bind_some, Option.bind_some, Option.bind_some, ix_nat 0 (by rw [List.length_set]; omega), Option.bind_some, Option.bind_some, Option.bind_some]
    have g1 : (b.least.set a lo).getD a 0 = lo := by
      have := gtI_set (l := b.least) (a := a) (x := a) (v := lo) (by omega)
      rw [if_pos rfl] at this; exact this
    have g2 : (b.most.set a hi).getD a 0 = hi := by
      have := gtI_set (l := b.most) (a := a) (x := a) (v := hi) (by omega)
      rw [if_pos rfl] at this; exact this
    have m1 : min lo lo = lo := by omega
    have m2 : max hi hi = hi := by omega
    rw [g1, g2, List.set_set, List.set_set, m1, m2]
    refine ⟨_, rfl, ⟨by simp only; rw [List.length_set]; exact l1, by simp only; rw [List.length_set]; exact l2, by simp only; rw [List.length_set]; exact l3, fun x hx => ?_, fun x v hx hv => ?_, fun x hx hxc => ?_⟩⟩
    · simp only
      rw [gtB_set (by omega)]
      by_cases hxa : x = a
      · subst hxa
        rw [if_pos rfl]
        exact ⟨fun _ => ⟨lo, .inr ⟨rfl, q1⟩⟩, fun _ => rfl⟩
      · rw [if_neg hxa, h.can x hx]
        constructor
        · rintro ⟨v, hv⟩; exact ⟨v, .inl hv⟩
        · rintro ⟨v, hv | ⟨rfl, hv⟩⟩
          · exact ⟨v, hv⟩
          · exact absurd rfl hxa
    · simp only
      rw [gtI_set (by omega), gtI_set (by omega)]
      by_cases hxa : x = a
      · subst hxa
        rw [if_pos rfl, if_pos rfl]
        rcases hv with hv | ⟨_, hv⟩
        · exact absurd hv (hnP v)
        · exact q3 v hv
      · rw [if_neg hxa, if_neg hxa]
        rcases hv with hv | ⟨rfl, _⟩
        · exact h.bd x v hx hv
        · exact absurd rfl hxa
    · simp only at hxc ⊢
      rw [gtI_set (by omega), gtI_set (by omega)]
      rw [gtB_set (by omega)] at hxc
      by_cases hxa : x = a
      · subst hxa
        rw [if_pos rfl, if_pos rfl]
        exact ⟨.inr ⟨rfl, q1⟩, .inr ⟨rfl, q2⟩⟩
      · rw [if_neg hxa] at hxc
        rw [if_neg hxa, if_neg hxa]
        obtain ⟨f1, f2⟩ := h.ends x hx hxc
        exact ⟨.inl f1, .inl f2⟩
end Go.Proofs.Ws

namespace Go.Proofs.Ws
open Go Go.Fw Go.Gx Go.Sp
set_option linter.unusedVariables false
def sFrom (f : Nat → Int) : Nat → Nat → Int
  | _, 0 => 0
  | t, d + 1 => f t + sFrom f (t + 1) d
theorem sFrom_congr {f g : Nat → Int} : ∀ {d t : Nat}, (∀ i, t ≤ i → i < t + d → f i = g i) → sFrom f t d = sFrom g t d
  | 0, t, _ => rfl
  | d + 1, t, h => by
    simp only [sFrom]
    rw [h t (Nat.le_refl _) (by omega), sFrom_congr (d := d) (t := t + 1) (fun i h1 h2 => h i (by omega) (by omega))]
theorem sFrom_nonneg {f : Nat → Int} : ∀ {d t : Nat}, (∀ i, t ≤ i → i < t + d → 0 ≤ f i) → 0 ≤ sFrom f t d
  | 0, t, _ => Int.le_refl _
  | d + 1, t, h => by
    simp only [sFrom]
    have := h t (Nat.le_refl _) (by omega)
    have := sFrom_nonneg (f := f) (d := d) (t := t + 1) (fun i h1 h2 => h i (by omega) (by omega))
    omega
theorem refGone_eq {s : Scalps} (h : Right s) {k : Nat} (hk : k < s.strips.length) : zK s (k : Int) = some (gOf s.strips k) := by
  have hx : s.strips.getD k default = s.strips[k] := by simp [List.getD_eq_getElem?_getD, hk]
  obtain ⟨b1, b2, b3, b4⟩ := h.net.sp _ (List.getElem_mem hk)
  unfold zK gOf goneP
  unfold In30 at *
  rw [ix_nat default hk, Option.bind_some, hx, addc_eq (by omega), Option.bind_some, subc_eq (by omega), Option.bind_some, addc_eq (by omega), Option.bind_some, subc_eq (by omega), Option.bind_some]
theorem refReaches_eq {s : Scalps} (h6 : s.strips.length ≤ 1000) {t k : Nat} (hk : k < s.strips.length) : j5 s (t : Int) (k : Int) = some (reachB s.strips t k) := by
  unfold j5
  rw [subc_eq (by omega), Option.bind_some]
  have hst : max (0 : Int) ((k : Int) - 1) = ((k - 1 : Nat) : Int) := by omega
  rw [hst]
  generalize hlo : k - 1 = lo
  have key := iterM_any (f := yt (k : Int) s (t : Int)) (lo : Int) (min (k + 1) (s.strips.length - 1) + 1 - lo) (fun j => decide ((s.strips.getD (lo + j) default).tenant = (t : Int))) (fun _ => true) (fun j hj => ?_) ?_ (N := FU) (FU_lt (by omega))
  · rw [key, Option.bind_some]
    have hany : reachB s.strips t k = ((List.range (min (k + 1) (s.strips.length - 1) + 1 - lo)).find? fun j => decide ((s.strips.getD (lo + j) default).tenant = (t : Int))).isSome := by
      unfold reachB
      rw [Bool.eq_iff_iff, List.any_eq_true, List.find?_isSome]
      constructor
      · rintro ⟨j, hj, hb⟩
        have hj' := List.mem_range.1 hj
        obtain ⟨b1, b2, b3⟩ := of_decide_eq_true hb
        refine ⟨j - lo, List.mem_range.2 (by omega), decide_eq_true ?_⟩
        rw [show lo + (j - lo) = j by omega]; exact b3
      · rintro ⟨j, hj, hb⟩
        have hj' := List.mem_range.1 hj
        exact ⟨lo + j, List.mem_range.2 (by omega), decide_eq_true ⟨by omega, by omega, of_decide_eq_true hb⟩⟩
    rw [hany]
    cases (List.range (min (k + 1) (s.strips.length - 1) + 1 - lo)).find? (fun j => decide ((s.strips.getD (lo + j) default).tenant = (t : Int))) <;> rfl
  · unfold yt
    rw [addc_eq (by omega), Option.bind_some, subc_eq (by omega), Option.bind_some, if_pos (by omega), show (lo : Int) + (j : Int) = ((lo + j : Nat) : Int) by omega, ix_nat default (by omega), Option.bind_some]
    by_cases ht : (s.strips.getD (lo + j) default).tenant = (t : Int)
    · rw [if_pos ht, if_pos (decide_eq_true ht)]
    · rw [if_neg ht, if_neg (fun hh => ht (of_decide_eq_true hh)), addc_eq (by omega), Option.bind_some]
  · unfold yt
    rw [addc_eq (by omega), Option.bind_some, subc_eq (by omega), Option.bind_some, if_neg (by omega)]
structure ColOK (s : Scalps) (k src t d : Nat) (taken : Int) (n : Nat → Int) : Prop where
  each : ∀ i, t ≤ i → i < t + d → 0 ≤ n i ∧ (0 < n i → reachB s.strips i k = true) ∧ (digN s.carried src i : Int) + n i ≤ (hOf s.carried i).hi
  lo : (gOf s.strips k).lo ≤ taken + sFrom n t d
  hi : taken + sFrom n t d ≤ (gOf s.strips k).hi
def TakeP (P : Nat → Int → Prop) (s : Scalps) (k src t d a : Nat) (taken : Int) (cS : Nat → Int) (Q : Int → Prop) (x : Nat) (v : Int) : Prop :=
  P x v ∨ ∃ n, ColOK s k src t d taken n ∧ (x : Int) = (a : Int) + sFrom (fun i => n i * (stepN s.carried i : Int)) t d ∧ ∃ v0, Q v0 ∧ v = v0 + sFrom (fun i => cS i * n i) t d
theorem bs_eq {s : Scalps} (h : Right s) {t : Nat} (ht : t < s.carried.length) : (hOf s.carried t).hi + 1 = (bsN s.carried t : Int) := by
  have := hOf_ok h.net ht
  unfold bsN; omega
theorem take_spec {s : Scalps} (h : Right s) {k : Nat} (hk : k < s.strips.length) {N : Nat} (hN : N = stepN s.carried s.carried.length) (hN5 : N ≤ 100000) {cb : List (List Bool)} {bt : Nat → Bool} (hcb : ∀ t, t < s.carried.length → ∃ row, ix cb (t : Int) = some row ∧ ix row (k : Int) = some (bt t)) {src : Nat} (hsrc : src < N) :
    ∀ (d t fuel a : Nat) (rest taken lo hi : Int) (Q : Int → Prop) (P : Nat → Int → Prop) (nb : Book), t + d = s.carried.length → d < fuel → a < N → (∀ i, t ≤ i → digN s.carried a i = digN s.carried src i) → rest = ((src / stepN s.carried t : Nat) : Int) → 0 ≤ taken → taken ≤ (gOf s.strips k).hi → Q lo → Q hi → (∀ v, Q v → lo ≤ v ∧ v ≤ hi) → 0 ≤ lo → hi + 100 * (d : Int) ≤ 1000000 → BookOK P N nb →
      ∃ r, kJ fuel s cb (k : Int) (t : Int) (a : Int) rest taken lo hi nb = some r ∧ BookOK (TakeP P s k src t d a taken (fun i => cnt (bt i)) Q) N ⟨r.next9_can, r.next9_least, r.next9_most⟩
  | 0, t, fuel, a, rest, taken, lo, hi, Q, P, nb, htd, hf, ha, hdig, hrest, ht0, hth, q1, q2, q3, hlo, hhi, hB => by
    obtain ⟨fu, rfl⟩ : ∃ fu, fuel = fu + 1 := ⟨fuel - 1, by omega⟩
    unfold kJ zY
    rw [refGone_eq h hk, Option.bind_some, if_pos (by omega)]
    have hcol : ∀ x v, x < N → ((P x v ∨ ((gOf s.strips k).lo ≤ taken ∧ x = a ∧ Q v)) ↔ TakeP P s k src t 0 a taken (fun i => cnt (bt i)) Q x v) := fun x v hx => by
      unfold TakeP
      constructor
      · rintro (hp | ⟨h1, rfl, hq⟩)
        · exact .inl hp
        · exact .inr ⟨fun _ => 0, ⟨fun i h2 h3 => by omega, by simp only [sFrom]; omega, by simp only [sFrom]; omega⟩, by simp [sFrom], v, hq, by simp [sFrom]⟩
      · rintro (hp | ⟨n, hc, hx2, v0, hq, hv⟩)
        · exact .inl hp
        · have c1 := hc.lo
          simp only [sFrom] at c1 hx2 hv
          refine .inr ⟨by omega, by omega, ?_⟩
          rw [show v = v0 by omega]; exact hq
    by_cases hg : (gOf s.strips k).lo ≤ taken
    · rw [if_pos hg]
      obtain ⟨r, hr, hb⟩ := enter_spec hB ha q1 q2 q3
      rw [hr, Option.bind_some, Option.bind_some]
      refine ⟨_, rfl, hb.congr fun x v hx => ?_⟩
      rw [← hcol x v hx]
      exact ⟨fun hh => hh.elim .inl (fun ⟨a1, a2⟩ => .inr ⟨hg, a1, a2⟩), fun hh => hh.elim .inl (fun ⟨_, a1, a2⟩ => .inr ⟨a1, a2⟩)⟩
    · rw [if_neg hg, Option.bind_some]
      refine ⟨_, rfl, hB.congr fun x v hx => ?_⟩
      rw [← hcol x v hx]
      exact ⟨.inl, fun hh => hh.elim id (fun ⟨a1, _⟩ => absurd a1 hg)⟩
  | d + 1, t, fuel, a, rest, taken, lo, hi, Q, P, nb, htd, hf, ha, hdig, hrest, ht0, hth, q1, q2, q3, hlo, hhi, hB => by
    obtain ⟨fu, rfl⟩ : ∃ fu, fuel = fu + 1 := ⟨fuel - 1, by omega⟩
    have ht : t < s.carried.length := by omega
    have h5 := h.net.c5; have h6 := h.net.s6
    have hho := hOf_ok h.net ht
    have hgo := gOf_ok h.net hk
    have hbs := bs_eq h ht
    have hbp := stepN_pos s.carried t
    have hlh := q3 lo q1
    have hlh2 := q3 hi q2
    unfold kJ zY
    rw [refGone_eq h hk, Option.bind_some, if_neg (by omega)]
    have hstepN : ∀ i, i ≤ s.carried.length → stepN s.carried i ≤ N := fun i hi => by
      by_cases he : i = s.carried.length
      · rw [he, hN]; exact Nat.le_refl _
      · obtain ⟨m, hm⟩ := stepN_dvd s.carried (show i < s.carried.length by omega)
        have hm0 : 0 < m := by
          rcases Nat.eq_zero_or_pos m with hz | hz
          · have := stepN_pos s.carried s.carried.length
            rw [hm, hz] at this; simp at this
          · exact hz
        rw [hN, hm, Nat.mul_assoc]
        exact Nat.le_mul_of_pos_right _ (Nat.mul_pos (Nat.succ_pos _) hm0)
    have k0 : iterM FU (q5 (t : Int) s) ⟨1, 0⟩ = some (stepN s.carried t : Int) := by
      have key := iterM_run (f := q5 (t : Int) s) (fun i => ⟨(stepN s.carried i : Int), (i : Int)⟩) t (b := (stepN s.carried t : Int)) (fun i hi => ?_) ?_ FU (FU_lt (by omega))
      · exact key
      · unfold q5
        have hit : i < s.carried.length := by omega
        have hb2 := bs_eq h hit
        have hoi := hOf_ok h.net hit
        have hle := hstepN (i + 1) (by omega)
        have e : (stepN s.carried i : Int) * (bsN s.carried i : Int) = (stepN s.carried (i + 1) : Int) := by simp [stepN]
        simp only
        unfold hOf at hb2 hoi
        rw [if_pos (by omega), ix_nat default hit, Option.bind_some, addc_eq (by omega), Option.bind_some, hb2, mulc_eq (by rw [e]; omega), Option.bind_some, addc_eq (by omega), Option.bind_some, e]
        rfl
      · unfold q5
        simp
    rw [k0, Option.bind_some]
    have hca : ix s.carried (t : Int) = some (hOf s.carried t) := ix_nat default ht
    have hsrcq : src / stepN s.carried t ≤ src := Nat.div_le_self _ _
    have hrem : (((src / stepN s.carried t : Nat) : Int)).tmod (bsN s.carried t : Int) = (digN s.carried src t : Int) := by
      unfold digN; rw [Int.ofNat_tmod]
    have hquo : (((src / stepN s.carried t : Nat) : Int)).tdiv (bsN s.carried t : Int) = ((src / stepN s.carried (t + 1) : Nat) : Int) := by
      rw [show stepN s.carried (t + 1) = stepN s.carried t * bsN s.carried t from rfl, ← Nat.div_div_eq_div_mul]; exact (Int.ofNat_tdiv _ _).symm
    have hqle : src / stepN s.carried (t + 1) ≤ src := Nat.div_le_self _ _
    have hbpos : 0 < bsN s.carried t := Nat.succ_pos _
    have hq0 : (0 : Int) ≤ ((src / stepN s.carried (t + 1) : Nat) : Int) := Int.natCast_nonneg _
    have hq1 : ((src / stepN s.carried (t + 1) : Nat) : Int) ≤ (src : Int) := Int.ofNat_le.2 hqle
    rw [hca, Option.bind_some, addc_eq (by omega), Option.bind_some, hrest, hbs, remc_eq (by omega), Option.bind_some, Option.bind_some, addc_eq (by omega), Option.bind_some, hbs, quoc_eq (by omega) (by rw [hquo]; omega), Option.bind_some, hrem, hquo, refReaches_eq (by omega) hk, Option.bind_some]
    have hdl := digN_lt s.carried src t
    obtain ⟨room, hroom, hr0, hr1, hr2⟩ : ∃ room : Int, (if reachB s.strips t k = true then ((some (hOf s.carried t) : Option Span).bind fun t83 => (subc t83.hi (digN s.carried src t : Int)).bind fun t87 => (subc (gOf s.strips k).hi taken).bind fun t91 => some (min t87 t91)) else some 0) = some room ∧ 0 ≤ room ∧ (room ≤ 30 ∧ (digN s.carried src t : Int) + room ≤ (hOf s.carried t).hi ∧ taken + room ≤ (gOf s.strips k).hi) ∧ ∀ n : Int, 0 ≤ n → (0 < n → reachB s.strips t k = true) → (digN s.carried src t : Int) + n ≤ (hOf s.carried t).hi → taken + n ≤ (gOf s.strips k).hi → n ≤ room := by
      by_cases hre : reachB s.strips t k = true
      · rw [if_pos hre, Option.bind_some, subc_eq (by omega), Option.bind_some, subc_eq (by omega), Option.bind_some]
        exact ⟨_, rfl, by omega, by omega, fun n _ _ _ _ => by omega⟩
      · rw [if_neg hre]
        exact ⟨0, rfl, by omega, by omega, fun n h1 h2 _ _ => by
          by_cases h3 : 0 < n
          · exact absurd (h2 h3) hre
          · omega⟩
    rw [hroom, Option.bind_some]
    have hreach0 : ∀ n : Int, 0 < n → n ≤ room → reachB s.strips t k = true := fun n h1 h2 => by
      by_cases hre : reachB s.strips t k = true
      · exact hre
      · rw [if_neg hre] at hroom
        have := Option.some.inj hroom
        omega
    have key : ∃ o, iterM FU (zq room cb (t : Int) (k : Int) (stepN s.carried t : Int) (a : Int) taken lo hi (kJ fu) s ((src / stepN s.carried (t + 1) : Nat) : Int)) ⟨0, nb.can, nb.least, nb.most⟩ = some o ∧ BookOK (TakeP P s k src t (d + 1) a taken (fun i => cnt (bt i)) Q) N ⟨o.next9_can, o.next9_least, o.next9_most⟩ := by
      refine iterM_inv (f := zq room cb (t : Int) (k : Int) (stepN s.carried t : Int) (a : Int) taken lo hi (kJ fu) s ((src / stepN s.carried (t + 1) : Nat) : Int)) (fun z => ∃ j : Nat, z.n25 = (j : Int) ∧ (j : Int) ≤ room + 1 ∧ BookOK (fun x v => P x v ∨ ∃ n, (ColOK s k src t (d + 1) taken n ∧ n t < (j : Int)) ∧ (x : Int) = (a : Int) + sFrom (fun i => n i * (stepN s.carried i : Int)) t (d + 1) ∧ ∃ v0, Q v0 ∧ v = v0 + sFrom (fun i => cnt (bt i) * n i) t (d + 1)) N ⟨z.next9_can, z.next9_least, z.next9_most⟩) (fun z => (room + 1 - z.n25).toNat) _ (fun z hz => ?_) FU _ (FU_lt (by simp only; omega)) ⟨0, rfl, by omega, hB.congr fun x v hx => ⟨.inl, fun hh => hh.elim id (fun ⟨n, ⟨hc, hn⟩, _⟩ => by have := (hc.each t (Nat.le_refl _) (by omega)).1; omega)⟩⟩
      obtain ⟨j, hj, hjr, hbk⟩ := hz
      unfold zq
      rw [hj]
      by_cases hlt : (j : Int) ≤ room
      · left
        rw [if_pos hlt]
        obtain ⟨row, e1, e2⟩ := hcb t ht
        have hone : (if bt t = true then (some (j : Int) : Option Int) else some 0) = some (cnt (bt t) * (j : Int)) := by
          unfold cnt; split <;> simp
        have hc01 := cnt_range (bt t)
        have hcj : 0 ≤ cnt (bt t) * (j : Int) ∧ cnt (bt t) * (j : Int) ≤ 30 := by unfold cnt; split <;> omega
        have hdj : digN s.carried a t + j < bsN s.carried t := by
          rw [hdig t (Nat.le_refl _)]
          omega
        have hup := at_up s.carried (T := s.carried.length) ht (by rw [← hN]; exact ha) hdj
        rw [← hN] at hup
        have hmul : (j : Int) * (stepN s.carried t : Int) = ((j * stepN s.carried t : Nat) : Int) := by push_cast; rfl
        rw [e1, Option.bind_some, e2, Option.bind_some, hone, Option.bind_some, addc_eq (by omega), Option.bind_some, mulc_eq (by rw [hmul]; omega), Option.bind_some, hmul, addc_eq (by omega), Option.bind_some, addc_eq (by omega), Option.bind_some, addc_eq (by omega), Option.bind_some, addc_eq (by omega), Option.bind_some]
        have hrec := take_spec h hk hN hN5 hcb hsrc d (t + 1) fu (a + j * stepN s.carried t) ((src / stepN s.carried (t + 1) : Nat) : Int) (taken + (j : Int)) (lo + cnt (bt t) * (j : Int)) (hi + cnt (bt t) * (j : Int)) (fun v => ∃ v0, Q v0 ∧ v = v0 + cnt (bt t) * (j : Int)) _ ⟨z.next9_can, z.next9_least, z.next9_most⟩ (by omega) (by omega) hup (fun i hi => by
          rw [dig_add s.carried hdj, if_neg (by omega)]; exact hdig i (by omega)) rfl (by omega) (by omega) ⟨lo, q1, rfl⟩ ⟨hi, q2, rfl⟩ (fun v ⟨v0, hv0, hv⟩ => by have := q3 v0 hv0; omega) (by omega) (by push_cast at hhi; omega) hbk
        obtain ⟨r, hr, hb⟩ := hrec
        have hr' : kJ fu s cb (k : Int) ((t : Int) + 1) ((a : Int) + ((j * stepN s.carried t : Nat) : Int)) ((src / stepN s.carried (t + 1) : Nat) : Int) (taken + (j : Int)) (lo + cnt (bt t) * (j : Int)) (hi + cnt (bt t) * (j : Int)) ⟨z.next9_can, z.next9_least, z.next9_most⟩ = some r := by
          rw [← hr]; push_cast; rfl
        rw [hr', Option.bind_some, addc_eq (by omega), Option.bind_some]
        refine ⟨_, rfl, ⟨j + 1, by push_cast; rfl, by push_cast; omega, hb.congr fun x v hx => ?_⟩, by simp only; omega⟩
        unfold TakeP
        constructor
        · rintro ((hp | ⟨n, ⟨hc, hn⟩, hrst⟩) | ⟨n, hc, hx2, v1, ⟨v0, hq, hv1⟩, hv⟩)
          · exact .inl hp
          · exact .inr ⟨n, ⟨hc, by push_cast; omega⟩, hrst⟩
          · refine .inr ⟨fun i => if i = t then (j : Int) else n i, ⟨⟨fun i h1 h2 => ?_, ?_, ?_⟩, ?_⟩, ?_, v0, hq, ?_⟩
            · by_cases hit : i = t
              · subst hit
                simp only [if_true]
                refine ⟨by omega, fun h3 => hreach0 _ h3 hlt, by omega⟩
              · simp only [hit, if_false]
                exact hc.each i (by omega) (by omega)
            · have e : sFrom (fun i => if i = t then (j : Int) else n i) (t + 1) d = sFrom n (t + 1) d := sFrom_congr fun i h1 _ => by rw [if_neg (by omega)]
              have := hc.lo
              simp only [sFrom, if_true]
              rw [e]; omega
            · have e : sFrom (fun i => if i = t then (j : Int) else n i) (t + 1) d = sFrom n (t + 1) d := sFrom_congr fun i h1 _ => by rw [if_neg (by omega)]
              have := hc.hi
              simp only [sFrom, if_true]
              rw [e]; omega
            · simp only [if_true]; push_cast; omega
            · have e : sFrom (fun i => (if i = t then (j : Int) else n i) * (stepN s.carried i : Int)) (t + 1) d = sFrom (fun i => n i * (stepN s.carried i : Int)) (t + 1) d := sFrom_congr fun i h1 _ => by rw [if_neg (by omega)]
              simp only [sFrom, if_true]
              rw [e, hx2]; push_cast; omega
            · have e : sFrom (fun i => cnt (bt i) * (if i = t then (j : Int) else n i)) (t + 1) d = sFrom (fun i => cnt (bt i) * n i) (t + 1) d := sFrom_congr fun i h1 _ => by rw [if_neg (by omega)]
              simp only [sFrom, if_true]
              try dsimp only at hv hv1
              rw [e, hv, hv1]; omega
        · rintro (hp | ⟨n, ⟨hc, hn⟩, hx2, v0, hq, hv⟩)
          · exact .inl (.inl hp)
          · by_cases hnj : n t < (j : Int)
            · exact .inl (.inr ⟨n, ⟨hc, hnj⟩, hx2, v0, hq, hv⟩)
            · have hne : n t = (j : Int) := by push_cast at hn; omega
              simp only [sFrom] at hx2 hv
              have c1 := hc.lo
              have c2 := hc.hi
              simp only [sFrom] at c1 c2
              rw [hne] at hx2 hv c1 c2
              refine .inr ⟨n, ⟨fun i h1 h2 => hc.each i (by omega) (by omega), by omega, by omega⟩, ?_, v0 + cnt (bt t) * (j : Int), ⟨v0, hq, rfl⟩, ?_⟩
              · rw [hx2]; push_cast; omega
              · try dsimp only
                try dsimp only at hv
                rw [hv]; omega
      · right
        rw [if_neg hlt]
        refine ⟨_, rfl, hbk.congr fun x v hx => ?_⟩
        unfold TakeP
        constructor
        · rintro (hp | ⟨n, ⟨hc, _⟩, hrst⟩)
          · exact .inl hp
          · exact .inr ⟨n, hc, hrst⟩
        · rintro (hp | ⟨n, hc, hrst⟩)
          · exact .inl hp
          · refine .inr ⟨n, ⟨hc, ?_⟩, hrst⟩
            have e := hc.each t (Nat.le_refl _) (by omega)
            have hnn : 0 ≤ sFrom n (t + 1) d := sFrom_nonneg fun i h1 h2 => (hc.each i (by omega) (by omega)).1
            have c2 := hc.hi
            simp only [sFrom] at c2
            have := hr2 (n t) e.1 e.2.1 e.2.2 (by omega)
            omega
    obtain ⟨o, ho, hb⟩ := key
    rw [ho, Option.bind_some]
    exact ⟨_, rfl, hb⟩
end Go.Proofs.Ws

namespace Go.Proofs.Ws
open Go Go.Fw Go.Gx Go.Sp
set_option linter.unusedVariables false
def valN (ca : List Span) (f : Nat → Nat) : Nat → Nat
  | 0 => 0
  | t + 1 => valN ca f t + f t * stepN ca t
theorem stepN_mono (ca : List Span) {t T : Nat} (h : t ≤ T) : stepN ca t ≤ stepN ca T := by
  by_cases he : t = T
  · rw [he]; exact Nat.le_refl _
  · obtain ⟨m, hm⟩ := stepN_dvd ca (show t < T by omega)
    have hm0 : 0 < m := by
      rcases Nat.eq_zero_or_pos m with hz | hz
      · have := stepN_pos ca T
        rw [hm, hz] at this; simp at this
      · exact hz
    rw [hm, Nat.mul_assoc]
    exact Nat.le_mul_of_pos_right _ (Nat.mul_pos (Nat.succ_pos _) hm0)
theorem dig_big (ca : List Span) {a t : Nat} (h : a < stepN ca t) : digN ca a t = 0 := by
  unfold digN
  rw [Nat.div_eq_of_lt h, Nat.zero_mod]
theorem valN_lt (ca : List Span) {f : Nat → Nat} : ∀ {T : Nat}, (∀ i, i < T → f i < bsN ca i) → valN ca f T < stepN ca T
  | 0, _ => by simp [valN, stepN]
  | T + 1, h => by
    have ih := valN_lt ca (f := f) (T := T) (fun i hi => h i (by omega))
    have hT := h T (Nat.lt_succ_self _)
    simp only [valN, stepN]
    have h1 : f T * stepN ca T + stepN ca T ≤ bsN ca T * stepN ca T := by
      rw [← Nat.succ_mul]; exact Nat.mul_le_mul_right _ hT
    rw [Nat.mul_comm (stepN ca T)]
    omega
theorem valN_dig (ca : List Span) {f : Nat → Nat} : ∀ {T : Nat}, (∀ i, i < T → f i < bsN ca i) → ∀ i, i < T → digN ca (valN ca f T) i = f i
  | 0, _, i, hi => by omega
  | T + 1, h, i, hi => by
    have hb := valN_lt ca (f := f) (T := T) (fun i hi => h i (by omega))
    have h0 := dig_big ca hb
    have hd : digN ca (valN ca f T) T + f T < bsN ca T := by rw [h0, Nat.zero_add]; exact h T (Nat.lt_succ_self _)
    simp only [valN]
    rw [dig_add ca hd]
    by_cases he : i = T
    · subst he; rw [if_pos rfl, h0, Nat.zero_add]
    · rw [if_neg he]
      exact valN_dig ca (fun i hi => h i (by omega)) i (by omega)
theorem dig_val (ca : List Span) {a : Nat} : ∀ {T : Nat}, a % stepN ca T = valN ca (digN ca a) T
  | 0 => by simp [stepN, valN, Nat.mod_one]
  | T + 1 => by
    simp only [stepN, valN]
    rw [Nat.mod_mul, dig_val (T := T)]
    unfold digN
    rw [Nat.mul_comm (stepN ca T)]
theorem dig_val_lt (ca : List Span) {a T : Nat} (h : a < stepN ca T) : a = valN ca (digN ca a) T := by
  rw [← dig_val, Nat.mod_eq_of_lt h]
theorem valN_congr (ca : List Span) {f g : Nat → Nat} : ∀ {T : Nat}, (∀ i, i < T → f i = g i) → valN ca f T = valN ca g T
  | 0, _ => rfl
  | T + 1, h => by
    simp only [valN]
    rw [h T (Nat.lt_succ_self _), valN_congr ca (fun i hi => h i (by omega))]
theorem valN_add (ca : List Span) (f g : Nat → Nat) : ∀ T, valN ca (fun i => f i + g i) T = valN ca f T + valN ca g T
  | 0 => rfl
  | T + 1 => by simp only [valN]; rw [valN_add ca f g T, Nat.add_mul]; omega
theorem sFrom_sumTo (f : Nat → Int) : ∀ d t, sFrom f t d = sumTo f (t + d) - sumTo f t
  | 0, t => by simp [sFrom]
  | d + 1, t => by
    simp only [sFrom]
    rw [sFrom_sumTo f d (t + 1), show t + 1 + d = t + (d + 1) by omega]
    simp only [sumTo]
    omega
theorem sFrom0 (f : Nat → Int) (d : Nat) : sFrom f 0 d = sumTo f d := by
  rw [sFrom_sumTo, Nat.zero_add]; simp [sumTo]
theorem sum_valN (ca : List Span) {n : Nat → Int} : ∀ {T : Nat}, (∀ i, i < T → 0 ≤ n i) → sumTo (fun i => n i * (stepN ca i : Int)) T = (valN ca (fun i => (n i).toNat) T : Int)
  | 0, _ => rfl
  | T + 1, h => by
    simp only [sumTo, valN]
    have := h T (Nat.lt_succ_self _)
    rw [sum_valN ca (fun i hi => h i (by omega))]
    push_cast
    rw [Int.toNat_of_nonneg this]
structure PartP (s : Scalps) (c : Nat → Nat → Int) (k : Nat) (a : Nat) (v : Int) (y : Nat → Nat → Int) : Prop where
  pos : ∀ t j, t < s.carried.length → j < k → 0 ≤ y t j ∧ (0 < y t j → reachB s.strips t j = true)
  row : ∀ t, t < s.carried.length → sumTo (fun j => y t j) k = (digN s.carried a t : Int)
  str : ∀ j, j < k → (gOf s.strips j).lo ≤ sumTo (fun t => y t j) s.carried.length ∧ sumTo (fun t => y t j) s.carried.length ≤ (gOf s.strips j).hi
  val : v = sumTo (fun j => sumTo (fun t => c t j * y t j) s.carried.length) k
theorem part_zero {s : Scalps} {c : Nat → Nat → Int} {a : Nat} {v : Int} (ha : a < stepN s.carried s.carried.length) : (∃ y, PartP s c 0 a v y) ↔ a = 0 ∧ v = 0 := by
  constructor
  · rintro ⟨y, h⟩
    refine ⟨?_, by simpa [sumTo] using h.val⟩
    rw [dig_val_lt s.carried ha]
    have : ∀ T, T ≤ s.carried.length → valN s.carried (digN s.carried a) T = 0 := by
      intro T
      induction T with
      | zero => intro _; rfl
      | succ T ih =>
        intro hT
        simp only [valN]
        have := h.row T (by omega)
        simp only [sumTo] at this
        rw [ih (by omega), show digN s.carried a T = 0 by omega]
        simp
    exact this _ (Nat.le_refl _)
  · rintro ⟨rfl, rfl⟩
    exact ⟨fun _ _ => 0, fun t j _ hj => by omega, fun t _ => by rw [dig_zero]; rfl, fun j hj => by omega, rfl⟩
theorem part_succ {s : Scalps} (h : Right s) {c : Nat → Nat → Int} {k : Nat} (hk : k < s.strips.length) {x : Nat} (hx : x < stepN s.carried s.carried.length) {v : Int} :
    (∃ y, PartP s c (k + 1) x v y) ↔ ∃ src, src < stepN s.carried s.carried.length ∧ ∃ n, ColOK s k src 0 s.carried.length 0 n ∧ (x : Int) = (src : Int) + sFrom (fun i => n i * (stepN s.carried i : Int)) 0 s.carried.length ∧ ∃ v0, (∃ y, PartP s c k src v0 y) ∧ v = v0 + sFrom (fun i => c i k * n i) 0 s.carried.length := by
  constructor
  · rintro ⟨y, hy⟩
    have hrow : ∀ t, t < s.carried.length → 0 ≤ sumTo (fun j => y t j) k ∧ sumTo (fun j => y t j) k + y t k = (digN s.carried x t : Int) := fun t ht => by
      have := hy.row t ht
      simp only [sumTo] at this
      exact ⟨sumTo_nonneg fun j hj => (hy.pos t j ht (by omega)).1, this⟩
    have hp : ∀ t, t < s.carried.length → 0 ≤ y t k := fun t ht => (hy.pos t k ht (Nat.lt_succ_self _)).1
    have hf : ∀ t, t < s.carried.length → (sumTo (fun j => y t j) k).toNat < bsN s.carried t := fun t ht => by
      have := hrow t ht; have := hp t ht
      have := digN_lt s.carried x t
      omega
    have hd := valN_dig s.carried hf
    refine ⟨valN s.carried (fun t => (sumTo (fun j => y t j) k).toNat) s.carried.length, valN_lt s.carried hf, fun t => y t k, ⟨fun i _ hi => ?_, ?_, ?_⟩, ?_, sumTo (fun j => sumTo (fun t => c t j * y t j) s.carried.length) k, ⟨y, ⟨fun t j ht hj => hy.pos t j ht (by omega), fun t ht => ?_, fun j hj => hy.str j (by omega), rfl⟩⟩, ?_⟩
    · have hi' : i < s.carried.length := by omega
      refine ⟨hp i hi', (hy.pos i k hi' (Nat.lt_succ_self _)).2, ?_⟩
      rw [hd i hi']
      have := hrow i hi'
      have := digN_lt s.carried x i
      have := bs_eq h hi'
      omega
    · rw [sFrom0, Int.zero_add]; exact (hy.str k (Nat.lt_succ_self _)).1
    · rw [sFrom0, Int.zero_add]; exact (hy.str k (Nat.lt_succ_self _)).2
    · rw [sFrom0, sum_valN s.carried (fun i hi => hp i hi), ← Int.natCast_add, ← valN_add]
      congr 1
      refine (dig_val_lt s.carried hx).trans (valN_congr s.carried fun i hi => ?_)
      have := hrow i hi; have := hp i hi
      omega
    · rw [hd t ht]
      have := (hrow t ht).1
      omega
    · rw [sFrom0, hy.val]; rfl
  · rintro ⟨src, hsrc, n, hc, hx2, v0, ⟨y, hy⟩, hv⟩
    have hn : ∀ i, i < s.carried.length → 0 ≤ n i := fun i hi => (hc.each i (Nat.zero_le _) (by omega)).1
    have hb : ∀ i, i < s.carried.length → digN s.carried src i + (n i).toNat < bsN s.carried i := fun i hi => by
      have := hc.each i (Nat.zero_le _) (by omega)
      have := bs_eq h hi
      omega
    have hxe : x = valN s.carried (fun i => digN s.carried src i + (n i).toNat) s.carried.length := by
      rw [valN_add, ← dig_val_lt s.carried hsrc]
      rw [sFrom0, sum_valN s.carried hn] at hx2
      omega
    have hdx : ∀ i, i < s.carried.length → digN s.carried x i = digN s.carried src i + (n i).toNat := fun i hi => by
      rw [hxe]; exact valN_dig s.carried hb i hi
    refine ⟨fun t j => if j = k then n t else y t j, ⟨fun t j ht hj => ?_, fun t ht => ?_, fun j hj => ?_, ?_⟩⟩
    · by_cases he : j = k
      · subst he
        simp only [if_true]
        have := hc.each t (Nat.zero_le _) (by omega)
        exact ⟨this.1, this.2.1⟩
      · simp only [he, if_false]
        exact hy.pos t j ht (by omega)
    · simp only [sumTo, if_true]
      rw [sumTo_congr (g := fun j => y t j) (fun j hj => by rw [if_neg (by omega)]), hy.row t ht, hdx t ht]
      have := hn t ht
      omega
    · by_cases he : j = k
      · subst he
        simp only [if_true]
        have h1 := hc.lo; have h2 := hc.hi
        rw [sFrom0, Int.zero_add] at h1 h2
        exact ⟨h1, h2⟩
      · simp only [he, if_false]
        exact hy.str j (by omega)
    · simp only [sumTo, if_true]
      rw [sumTo_congr (g := fun j => sumTo (fun t => c t j * y t j) s.carried.length) (fun j hj => sumTo_congr fun t _ => by rw [if_neg (by omega)]), hv, hy.val, sFrom0]
end Go.Proofs.Ws

namespace Go.Proofs.Ws
open Go Go.Fw Go.Gx Go.Sp
set_option linter.unusedVariables false
theorem part_bd {s : Scalps} (h : Right s) {bt : Nat → Nat → Bool} {k a : Nat} {v : Int} {y : Nat → Nat → Int} (hp : PartP s (fun t j => cnt (bt t j)) k a v y) : 0 ≤ v ∧ v ≤ 150 := by
  have h5 := h.net.c5
  rw [hp.val]
  constructor
  · exact sumTo_nonneg fun j hj => sumTo_nonneg fun t ht => Int.mul_nonneg (cnt_range _).2.2 (hp.pos t j ht hj).1
  · have e : sumTo (fun j => sumTo (fun t => cnt (bt t j) * y t j) s.carried.length) k ≤ sumTo (fun j => sumTo (fun t => y t j) s.carried.length) k := by
      refine sumTo_le fun j hj => sumTo_le fun t ht => ?_
      have h1 := (hp.pos t j ht hj).1
      unfold cnt
      split <;> omega
    have e2 : sumTo (fun j => sumTo (fun t => y t j) s.carried.length) k = sumTo (fun t => (digN s.carried a t : Int)) s.carried.length := by
      rw [sumTo_comm (fun j t => y t j)]
      exact sumTo_congr fun t ht => hp.row t ht
    have e3 : sumTo (fun t => (digN s.carried a t : Int)) s.carried.length ≤ sumTo (fun _ => 30) s.carried.length := by
      refine sumTo_le fun t ht => ?_
      have := digN_lt s.carried a t
      have := bs_eq h ht
      have := hOf_ok h.net ht
      omega
    have e4 : sumTo (fun _ => (30 : Int)) s.carried.length ≤ 150 := by
      have : ∀ n : Nat, sumTo (fun _ => (30 : Int)) n = 30 * (n : Int) := by
        intro n
        induction n with
        | zero => rfl
        | succ n ih => simp only [sumTo]; rw [ih]; omega
      rw [this]; omega
    omega
theorem blank_eq {N : Nat} (hN : N ≤ 100000) : J9 (N : Int) = some ⟨List.replicate N false, List.replicate N 0, List.replicate N 0⟩ := by
  unfold J9
  rw [makec_eq ⟨by omega, by omega, by omega, by omega⟩, Option.bind_some, makec_eq ⟨by omega, by omega, by omega, by omega⟩, Option.bind_some, Option.bind_some, Option.bind_some, Int.toNat_natCast]
theorem gtB_rep {N a : Nat} : gtB (List.replicate N false) a = false := by
  unfold gtB
  rw [List.getD_eq_getElem?_getD, List.getElem?_replicate]
  split <;> rfl
theorem gtI_rep {N a : Nat} : gtI (List.replicate N 0) a = 0 := by
  unfold gtI
  rw [List.getD_eq_getElem?_getD, List.getElem?_replicate]
  split <;> rfl
theorem blank_ok {N : Nat} : BookOK (fun _ _ => False) N ⟨List.replicate N false, List.replicate N 0, List.replicate N 0⟩ :=
  ⟨by simp, by simp, by simp, fun a ha => by simp only; rw [gtB_rep]; simp, fun a v ha h => h.elim, fun a ha hc => by simp only at hc; rw [gtB_rep] at hc; cases hc⟩
theorem first_ok {N : Nat} (hN : 0 < N) : BookOK (fun a v => a = 0 ∧ v = 0) N ⟨(List.replicate N false).set 0 true, List.replicate N 0, List.replicate N 0⟩ := by
  refine ⟨by simp, by simp, by simp, fun a ha => ?_, fun a v ha h => ?_, fun a ha hc => ?_⟩
  · simp only
    rw [gtB_set (by simp; omega), gtB_rep]
    by_cases h0 : a = 0
    · rw [if_pos h0]; exact ⟨fun _ => ⟨0, h0, rfl⟩, fun _ => rfl⟩
    · rw [if_neg h0]; exact ⟨fun h => (by cases h), fun ⟨v, h, _⟩ => absurd h h0⟩
  · simp only
    rw [gtI_rep]; omega
  · simp only at hc ⊢
    rw [gtB_set (by simp; omega), gtB_rep] at hc
    by_cases h0 : a = 0
    · rw [gtI_rep]; exact ⟨⟨h0, rfl⟩, h0, rfl⟩
    · rw [if_neg h0] at hc; cases hc
def enB (s : Scalps) (a : Nat) : Bool := (List.range s.carried.length).all fun t => decide ((hOf s.carried t).lo ≤ (digN s.carried a t : Int))
theorem enB_iff {s : Scalps} {a : Nat} : enB s a = true ↔ ∀ t, t < s.carried.length → (hOf s.carried t).lo ≤ (digN s.carried a t : Int) := by
  unfold enB
  rw [List.all_eq_true]
  exact ⟨fun h t ht => of_decide_eq_true (h t (List.mem_range.2 ht)), fun h t ht => decide_eq_true (h t (List.mem_range.1 ht))⟩
theorem enough_eq {s : Scalps} (h : Right s) {a : Nat} (ha : a ≤ 100000) : Kg s (a : Int) = some (enB s a) := by
  have h5 := h.net.c5
  unfold Kg
  have key := iterM_find (f := yZ s) (fun t => ⟨((a / stepN s.carried t : Nat) : Int), (t : Int)⟩) s.carried.length (fun t => !decide ((hOf s.carried t).lo ≤ (digN s.carried a t : Int))) (fun _ => .inr false) (.inl ()) (fun t ht _ => ?_) ?_ (N := FU) (FU_lt (by omega))
  · have e0 : (⟨(a : Int), 0⟩ : y6) = ⟨((a / stepN s.carried 0 : Nat) : Int), ((0 : Nat) : Int)⟩ := by simp [stepN]
    rw [e0, key, Option.bind_some]
    have e : enB s a = ((List.range s.carried.length).find? fun t => !decide ((hOf s.carried t).lo ≤ (digN s.carried a t : Int))).isNone := by
      unfold enB
      exact all_find
    rw [e]
    cases (List.range s.carried.length).find? fun t => !decide ((hOf s.carried t).lo ≤ (digN s.carried a t : Int)) <;> rfl
  · unfold yZ
    have hb2 := bs_eq h ht
    have hoi := hOf_ok h.net ht
    have hq : a / stepN s.carried t ≤ a := Nat.div_le_self _ _
    have hq2 : a / stepN s.carried (t + 1) ≤ a := Nat.div_le_self _ _
    have hlt : (t : Int) < (s.carried.length : Int) := by omega
    have hbpos : 0 < bsN s.carried t := Nat.succ_pos _
    have hq0 : (0 : Int) ≤ ((a / stepN s.carried (t + 1) : Nat) : Int) := Int.natCast_nonneg _
    have hq1 : ((a / stepN s.carried (t + 1) : Nat) : Int) ≤ (a : Int) := Int.ofNat_le.2 hq2
    have hca : ix s.carried (t : Int) = some (hOf s.carried t) := ix_nat default ht
    have hrem : (((a / stepN s.carried t : Nat) : Int)).tmod (bsN s.carried t : Int) = (digN s.carried a t : Int) := by
      unfold digN; rw [Int.ofNat_tmod]
    have hquo : (((a / stepN s.carried t : Nat) : Int)).tdiv (bsN s.carried t : Int) = ((a / stepN s.carried (t + 1) : Nat) : Int) := by
      rw [show stepN s.carried (t + 1) = stepN s.carried t * bsN s.carried t from rfl, ← Nat.div_div_eq_div_mul]; exact (Int.ofNat_tdiv _ _).symm
    simp only [hlt, if_true]
    rw [hca, Option.bind_some, addc_eq (by omega), Option.bind_some, hb2, remc_eq (by omega), Option.bind_some, hrem, Option.bind_some]
    by_cases hd : (hOf s.carried t).lo ≤ (digN s.carried a t : Int)
    · rw [if_neg (by omega), Option.bind_some, addc_eq (by omega), Option.bind_some, hb2, quoc_eq (by omega) (by rw [hquo]; omega), Option.bind_some, addc_eq (by omega), Option.bind_some, hquo, decide_eq_true hd]
      rfl
    · rw [if_pos (by omega), decide_eq_false hd]
      rfl
  · unfold yZ
    simp
theorem strip_L2 {s : Scalps} (h : Right s) {k : Nat} (hk : k < s.strips.length) {N : Nat} (hN : N = stepN s.carried s.carried.length) (hN5 : N ≤ 100000) {cb : List (List Bool)} {bt : Nat → Nat → Bool} (hcb : ∀ t k, t < s.carried.length → k < s.strips.length → ∃ row, ix cb (t : Int) = some row ∧ ix row (k : Int) = some (bt t k)) {z : yU} (hz : z.k10 = (k : Int)) (hB : BookOK (fun a v => ∃ y, PartP s (fun t j => cnt (bt t j)) k a v y) N ⟨z.now9_can, z.now9_least, z.now9_most⟩) :
    ∃ o, iterM FU (zW (N : Int) z s cb) ⟨0, List.replicate N false, List.replicate N 0, List.replicate N 0⟩ = some o ∧ BookOK (fun a v => ∃ y, PartP s (fun t j => cnt (bt t j)) (k + 1) a v y) N ⟨o.r0_can, o.r0_least, o.r0_most⟩ := by
  have h5 := h.net.c5
  have hgo := gOf_ok h.net hk
  have key := iterM_inv (f := zW (N : Int) z s cb) (fun u => ∃ j : Nat, u.at12 = (j : Int) ∧ j ≤ N ∧ BookOK (fun x v => ∃ src, src < j ∧ ∃ n, ColOK s k src 0 s.carried.length 0 n ∧ (x : Int) = (src : Int) + sFrom (fun i => n i * (stepN s.carried i : Int)) 0 s.carried.length ∧ ∃ v0, (∃ y, PartP s (fun t j => cnt (bt t j)) k src v0 y) ∧ v = v0 + sFrom (fun i => cnt (bt i k) * n i) 0 s.carried.length) N ⟨u.r0_can, u.r0_least, u.r0_most⟩) (fun u => ((N : Int) - u.at12).toNat) (fun o => BookOK (fun a v => ∃ y, PartP s (fun t j => cnt (bt t j)) (k + 1) a v y) N ⟨o.r0_can, o.r0_least, o.r0_most⟩) (fun u hu => ?_) FU ⟨0, List.replicate N false, List.replicate N 0, List.replicate N 0⟩ (FU_lt (by simp only; omega)) ⟨0, rfl, by omega, blank_ok.congr fun x v hx => ⟨fun hf => hf.elim, fun ⟨src, hs, _⟩ => absurd hs (by omega)⟩⟩
  · exact key
  obtain ⟨j, hj, hjN, hbk⟩ := hu
  unfold zW
  rw [hj]
  by_cases hlt : j < N
  · left
    rw [if_pos (by omega), ix_nat false (by rw [show z.now9_can.length = N from hB.l1]; exact hlt), Option.bind_some]
    have hcj : z.now9_can.getD j false = gtB z.now9_can j := rfl
    rw [hcj]
    by_cases hc : gtB z.now9_can j = true
    · obtain ⟨e1, e2⟩ := hB.ends j hlt hc
      obtain ⟨y1, p1⟩ := e1
      obtain ⟨y2, p2⟩ := e2
      have b1 := part_bd h p1
      have b2 := part_bd h p2
      obtain ⟨r, hr, hb⟩ := take_spec h hk hN hN5 (cb := cb) (bt := fun t => bt t k) (fun t ht => hcb t k ht hk) (src := j) hlt s.carried.length 0 FU j (j : Int) 0 (gtI z.now9_least j) (gtI z.now9_most j) (fun v => ∃ y, PartP s (fun t j => cnt (bt t j)) k j v y) _ ⟨u.r0_can, u.r0_least, u.r0_most⟩ (by omega) (FU_lt (by omega)) hlt (fun _ _ => rfl) (by simp [stepN]) (Int.le_refl _) (by omega) ⟨y1, p1⟩ ⟨y2, p2⟩ (fun v hv => hB.bd j v hlt hv) b1.1 (by simp only at b2; omega) hbk
      rw [if_pos hc, ix_nat 0 (by rw [show z.now9_least.length = N from hB.l2]; exact hlt), Option.bind_some, ix_nat 0 (by rw [show z.now9_most.length = N from hB.l3]; exact hlt), Option.bind_some, hz]
      have hr' : kJ FU s cb (k : Int) 0 (j : Int) (j : Int) 0 (z.now9_least.getD j 0) (z.now9_most.getD j 0) ⟨u.r0_can, u.r0_least, u.r0_most⟩ = some r := hr
      rw [hr', Option.bind_some, Option.bind_some, addc_eq (by omega), Option.bind_some]
      refine ⟨_, rfl, ⟨j + 1, by push_cast; rfl, hlt, hb.congr fun x v hx => ?_⟩, by simp only; omega⟩
      unfold TakeP
      constructor
      · rintro (⟨src, hs, hrst⟩ | ⟨n, c1, c2, v0, c3, c4⟩)
        · exact ⟨src, by omega, hrst⟩
        · exact ⟨j, by omega, n, c1, c2, v0, c3, c4⟩
      · rintro ⟨src, hs, n, c1, c2, v0, c3, c4⟩
        by_cases he : src = j
        · subst he; exact .inr ⟨n, c1, c2, v0, c3, c4⟩
        · exact .inl ⟨src, by omega, n, c1, c2, v0, c3, c4⟩
    · rw [if_neg hc, Option.bind_some, addc_eq (by omega), Option.bind_some]
      refine ⟨_, rfl, ⟨j + 1, by push_cast; rfl, hlt, hbk.congr fun x v hx => ?_⟩, by simp only; omega⟩
      constructor
      · rintro ⟨src, hs, hrst⟩; exact ⟨src, by omega, hrst⟩
      · rintro ⟨src, hs, n, c1, c2, v0, c3, c4⟩
        by_cases he : src = j
        · subst he; exact absurd ((hB.can src hlt).2 ⟨v0, c3⟩) hc
        · exact ⟨src, by omega, n, c1, c2, v0, c3, c4⟩
  · right
    rw [if_neg (by omega)]
    have hjn : j = N := by omega
    subst hjn
    refine ⟨_, rfl, hbk.congr fun x v hx => ?_⟩
    rw [hN] at hx
    rw [part_succ h hk hx, hN]
theorem fits_part {s : Scalps} (h : Right s) {c : Nat → Nat → Int} {y : Nat → Nat → Int} : FitsS s y ↔ ∃ a, a < stepN s.carried s.carried.length ∧ enB s a = true ∧ PartP s c s.strips.length a (countS s c y) y := by
  have hcnt : countS s c y = sumTo (fun j => sumTo (fun t => c t j * y t j) s.carried.length) s.strips.length := by
    unfold countS countY
    exact sumTo_comm (fun t k => c t k * y t k) _ _
  constructor
  · intro hy
    have hp : ∀ t, t < s.carried.length → 0 ≤ sumTo (fun k => y t k) s.strips.length := fun t ht => sumTo_nonneg fun k hk => (hy.pos t k ht hk).1
    have hf : ∀ t, t < s.carried.length → (sumTo (fun k => y t k) s.strips.length).toNat < bsN s.carried t := fun t ht => by
      have := (hy.ten t ht).2
      have := hp t ht
      have := bs_eq h ht
      omega
    have hd := valN_dig s.carried hf
    refine ⟨valN s.carried (fun t => (sumTo (fun k => y t k) s.strips.length).toNat) s.carried.length, valN_lt s.carried hf, enB_iff.2 fun t ht => ?_, ⟨fun t j ht hj => hy.pos t j ht hj, fun t ht => ?_, hy.str, hcnt⟩⟩
    · rw [hd t ht]
      have := (hy.ten t ht).1
      omega
    · rw [hd t ht]
      have := hp t ht
      omega
  · rintro ⟨a, ha, he, hp⟩
    refine ⟨hp.pos, fun t ht => ?_, hp.str⟩
    rw [hp.row t ht]
    have := enB_iff.1 he t ht
    have := digN_lt s.carried a t
    have := bs_eq h ht
    omega
structure RgInv (ok : Nat → Prop) (P : Nat → Int → Prop) (j : Nat) (f : Bool) (lo hi : Int) : Prop where
  no : f = false → lo = 0 ∧ hi = 0 ∧ ∀ a, a < j → ¬ ok a
  yes : f = true → (∃ a, a < j ∧ ok a ∧ P a lo) ∧ (∃ a, a < j ∧ ok a ∧ P a hi) ∧ ∀ a v, a < j → ok a → P a v → lo ≤ v ∧ v ≤ hi
theorem Range_spec {s : Scalps} (h : Right s) (hN5 : stepN s.carried s.carried.length ≤ 100000) {cb : List (List Bool)} {bt : Nat → Nat → Bool} (hcb : ∀ t k, t < s.carried.length → k < s.strips.length → ∃ row, ix cb (t : Int) = some row ∧ ix row (k : Int) = some (bt t k)) :
    (∃ lo hi, z7 s cb = some ⟨lo, hi, true⟩ ∧ IsRange s (fun t k => cnt (bt t k)) lo hi) ∨ (z7 s cb = some ⟨0, 0, false⟩ ∧ NoFit s) := by
  have h5 := h.net.c5; have h6 := h.net.s6
  generalize hN : stepN s.carried s.carried.length = N at hN5
  have hNp : 0 < N := by rw [← hN]; exact stepN_pos _ _
  have k0 : iterM FU (yQ s) ⟨1, 0⟩ = some (N : Int) := by
    have key := iterM_run (f := yQ s) (fun i => ⟨(stepN s.carried i : Int), (i : Int)⟩) s.carried.length (b := (N : Int)) (fun i hi => ?_) ?_ FU (FU_lt (by omega))
    · exact key
    · unfold yQ
      have hb2 := bs_eq h hi
      have hoi := hOf_ok h.net hi
      have hle := stepN_mono s.carried (show i + 1 ≤ s.carried.length by omega)
      have e : (stepN s.carried i : Int) * (bsN s.carried i : Int) = (stepN s.carried (i + 1) : Int) := by simp [stepN]
      have hca : ix s.carried (i : Int) = some (hOf s.carried i) := ix_nat default hi
      simp only
      rw [if_pos (by omega), hca, Option.bind_some, addc_eq (by omega), Option.bind_some, hb2, mulc_eq (by rw [e]; omega), Option.bind_some, addc_eq (by omega), Option.bind_some, e]
      rfl
    · unfold yQ
      simp [hN]
  unfold z7
  rw [k0, Option.bind_some, blank_eq hN5, Option.bind_some]
  dsimp only
  have hix : ix (List.replicate N false) 0 = some ((List.replicate N false).getD 0 false) := ix_nat (k := 0) false (by simp; omega)
  rw [hix, Option.bind_some, Option.bind_some, Int.toNat_zero]
  have k1 : ∃ o, iterM FU (zS s (N : Int) cb) ⟨0, (List.replicate N false).set 0 true, List.replicate N 0, List.replicate N 0⟩ = some o ∧ BookOK (fun a v => ∃ y, PartP s (fun t j => cnt (bt t j)) s.strips.length a v y) N ⟨o.now9_can, o.now9_least, o.now9_most⟩ := by
    refine iterM_inv (f := zS s (N : Int) cb) (fun z => ∃ k : Nat, z.k10 = (k : Int) ∧ k ≤ s.strips.length ∧ BookOK (fun a v => ∃ y, PartP s (fun t j => cnt (bt t j)) k a v y) N ⟨z.now9_can, z.now9_least, z.now9_most⟩) (fun z => ((s.strips.length : Int) - z.k10).toNat) _ (fun z hz => ?_) FU _ (FU_lt (by simp only; omega)) ⟨0, rfl, by omega, (first_ok hNp).congr fun a v ha => (part_zero (by rw [hN]; exact ha)).symm⟩
    obtain ⟨k, hk, hkS, hB⟩ := hz
    unfold zS
    by_cases hlt : k < s.strips.length
    · left
      obtain ⟨o, ho, hb⟩ := strip_L2 h hlt hN.symm hN5 hcb hk hB
      rw [hk, if_pos (by omega), blank_eq hN5, Option.bind_some]
      dsimp only
      rw [ho, Option.bind_some, addc_eq (by omega), Option.bind_some]
      exact ⟨_, rfl, ⟨k + 1, by push_cast; rfl, hlt, hb⟩, by simp only; omega⟩
    · right
      rw [hk, if_neg (by omega)]
      have : k = s.strips.length := by omega
      subst this
      exact ⟨_, rfl, hB⟩
  obtain ⟨o1, ho1, hB⟩ := k1
  rw [ho1, Option.bind_some]
  have k3 : ∃ o, iterM FU (zU (N : Int) o1 s) ⟨false, 0, 0, 0⟩ = some o ∧ RgInv (fun a => gtB o1.now9_can a = true ∧ enB s a = true) (fun a v => ∃ y, PartP s (fun t j => cnt (bt t j)) s.strips.length a v y) N o.found13 o.least14 o.most15 := by
    refine iterM_inv (f := zU (N : Int) o1 s) (fun z => ∃ j : Nat, z.at16 = (j : Int) ∧ j ≤ N ∧ RgInv (fun a => gtB o1.now9_can a = true ∧ enB s a = true) (fun a v => ∃ y, PartP s (fun t j => cnt (bt t j)) s.strips.length a v y) j z.found13 z.least14 z.most15) (fun z => ((N : Int) - z.at16).toNat) _ (fun z hz => ?_) FU _ (FU_lt (by simp only; omega)) ⟨0, rfl, by omega, ⟨fun _ => ⟨rfl, rfl, fun a ha => absurd ha (by omega)⟩, fun hf => (by cases hf)⟩⟩
    obtain ⟨j, hj, hjN, hI⟩ := hz
    unfold zU
    rw [hj]
    by_cases hlt : j < N
    · left
      have e1 : ix o1.now9_can (j : Int) = some (gtB o1.now9_can j) := ix_nat false (by rw [show o1.now9_can.length = N from hB.l1]; exact hlt)
      have e2 : ix o1.now9_least (j : Int) = some (gtI o1.now9_least j) := ix_nat 0 (by rw [show o1.now9_least.length = N from hB.l2]; exact hlt)
      have e3 : ix o1.now9_most (j : Int) = some (gtI o1.now9_most j) := ix_nat 0 (by rw [show o1.now9_most.length = N from hB.l3]; exact hlt)
      rw [if_pos (by omega), e1, e2, e3, Option.bind_some, enough_eq h (by omega)]
      have e4 : (if (!gtB o1.now9_can j) = true then (some true : Option Bool) else (some (enB s j)).bind fun t89 => some (!t89)) = some (!(gtB o1.now9_can j && enB s j)) := by
        cases gtB o1.now9_can j <;> simp
      rw [e4, Option.bind_some]
      by_cases hok : (gtB o1.now9_can j && enB s j) = true
      · have hok2 : gtB o1.now9_can j = true ∧ enB s j = true := by simpa using hok
        obtain ⟨p1, p2⟩ := hB.ends j hlt hok2.1
        have hbd := hB.bd j
        rw [hok, Bool.not_true, if_neg (by simp)]
        by_cases hf : z.found13 = true
        · rw [hf, Bool.not_true, if_neg (by simp), Option.bind_some]
          dsimp only
          rw [Option.bind_some, Option.bind_some, Option.bind_some, addc_eq (by omega), Option.bind_some]
          refine ⟨_, rfl, ⟨j + 1, by push_cast; rfl, hlt, ⟨fun hff => (by cases hff), fun _ => ?_⟩⟩, by simp only; omega⟩
          obtain ⟨⟨a1, b1, c1, d1⟩, ⟨a2, b2, c2, d2⟩, hall⟩ := hI.yes hf
          refine ⟨?_, ?_, fun a v ha hoa hv => ?_⟩
          · simp only
            by_cases hm : z.least14 ≤ gtI o1.now9_least j
            · rw [Int.min_eq_left hm]; exact ⟨a1, by omega, c1, d1⟩
            · rw [Int.min_eq_right (by omega)]; exact ⟨j, by omega, hok2, p1⟩
          · simp only
            by_cases hm : gtI o1.now9_most j ≤ z.most15
            · rw [Int.max_eq_left hm]; exact ⟨a2, by omega, c2, d2⟩
            · rw [Int.max_eq_right (by omega)]; exact ⟨j, by omega, hok2, p2⟩
          · simp only
            by_cases haj : a = j
            · subst haj
              have := hbd v hlt hv
              simp only at this
              omega
            · have := hall a v (by omega) hoa hv
              omega
        · have hff : z.found13 = false := by simpa using hf
          rw [hff, if_pos (by simp), Option.bind_some, Option.bind_some, Option.bind_some]
          dsimp only
          rw [Option.bind_some, Option.bind_some, Option.bind_some, addc_eq (by omega), Option.bind_some]
          refine ⟨_, rfl, ⟨j + 1, by push_cast; rfl, hlt, ⟨fun hx => (by cases hx), fun _ => ?_⟩⟩, by simp only; omega⟩
          obtain ⟨_, _, hno⟩ := hI.no hff
          simp only
          rw [show min (gtI o1.now9_least j) (gtI o1.now9_least j) = gtI o1.now9_least j by omega, show max (gtI o1.now9_most j) (gtI o1.now9_most j) = gtI o1.now9_most j by omega]
          refine ⟨⟨j, by omega, hok2, p1⟩, ⟨j, by omega, hok2, p2⟩, fun a v ha hoa hv => ?_⟩
          by_cases haj : a = j
          · subst haj; exact hbd v hlt hv
          · exact absurd hoa (hno a (by omega))
      · have hok2 : ¬ (gtB o1.now9_can j = true ∧ enB s j = true) := fun hh => hok (by rw [hh.1, hh.2]; rfl)
        have hokf : (gtB o1.now9_can j && enB s j) = false := by simpa using hok
        rw [hokf, Bool.not_false, if_pos rfl, Option.bind_some, addc_eq (by omega), Option.bind_some]
        refine ⟨_, rfl, ⟨j + 1, by push_cast; rfl, hlt, ⟨fun hff => ?_, fun hff => ?_⟩⟩, by simp only; omega⟩
        · obtain ⟨a1, a2, hno⟩ := hI.no hff
          refine ⟨a1, a2, fun a ha => ?_⟩
          by_cases haj : a = j
          · subst haj; exact hok2
          · exact hno a (by omega)
        · obtain ⟨⟨a1, b1, c1, d1⟩, ⟨a2, b2, c2, d2⟩, hall⟩ := hI.yes hff
          refine ⟨⟨a1, by omega, c1, d1⟩, ⟨a2, by omega, c2, d2⟩, fun a v ha hoa hv => ?_⟩
          by_cases haj : a = j
          · subst haj; exact absurd hoa hok2
          · exact hall a v (by omega) hoa hv
    · right
      rw [if_neg (by omega)]
      have : j = N := by omega
      subst this
      exact ⟨_, rfl, hI⟩
  obtain ⟨o3, ho3, hI⟩ := k3
  rw [ho3, Option.bind_some]
  by_cases hf : o3.found13 = true
  · left
    obtain ⟨⟨a1, b1, ⟨c1, c1'⟩, y1, d1⟩, ⟨a2, b2, ⟨c2, c2'⟩, y2, d2⟩, hall⟩ := hI.yes hf
    have hval : ∀ {a : Nat} {v : Int} {y : Nat → Nat → Int}, PartP s (fun t j => cnt (bt t j)) s.strips.length a v y → v = countS s (fun t k => cnt (bt t k)) y := fun {a v y} hp => by
      rw [hp.val]
      unfold countS countY
      exact (sumTo_comm (fun t k => cnt (bt t k) * y t k) _ _).symm
    refine ⟨o3.least14, o3.most15, by rw [hf], ⟨y1, ?_, (hval d1).symm⟩, ⟨y2, ?_, (hval d2).symm⟩, fun y hy => ?_⟩
    · exact (fits_part h (c := fun t k => cnt (bt t k))).2 ⟨a1, by omega, c1', hval d1 ▸ d1⟩
    · exact (fits_part h (c := fun t k => cnt (bt t k))).2 ⟨a2, by omega, c2', hval d2 ▸ d2⟩
    · obtain ⟨a, ha, he, hp⟩ := (fits_part h (c := fun t k => cnt (bt t k))).1 hy
      rw [hN] at ha
      exact hall a _ ha ⟨(hB.can a ha).2 ⟨_, _, hp⟩, he⟩ ⟨_, hp⟩
  · right
    have hff : o3.found13 = false := by simpa using hf
    obtain ⟨a1, a2, hno⟩ := hI.no hff
    refine ⟨by rw [hff, a1, a2], fun y hy => ?_⟩
    obtain ⟨a, ha, he, hp⟩ := (fits_part h (c := fun t k => cnt (bt t k))).1 hy
    rw [hN] at ha
    exact hno a ha ⟨(hB.can a ha).2 ⟨_, _, hp⟩, he⟩
end Go.Proofs.Ws

namespace Go.Proofs.Ws
open Go Go.Fw Go.Gx Go.Sp
set_option linter.unusedVariables false
theorem refOff_eq (n lo hi : Int) : zl n lo hi = some (!inb n lo hi) := by
  unfold zl inb
  by_cases h : n < lo
  · rw [if_pos h, Option.bind_some, decide_eq_false (show ¬ lo ≤ n by omega)]; rfl
  · rw [if_neg h, Option.bind_some, decide_eq_true (show lo ≤ n by omega), Bool.true_and]
    by_cases h2 : n ≤ hi
    · rw [decide_eq_true h2, decide_eq_false (by omega)]; rfl
    · rw [decide_eq_false h2, decide_eq_true (by omega)]; rfl
theorem orO {b v : Bool} {o : Option Bool} (h : o = some v) : (if b = true then (some true : Option Bool) else o) = some (b || v) := by cases b <;> simp [h]
theorem refStrange_eq (x : Span) : qT x = some (!okSp x) := by
  unfold qT okSp
  rw [refOff_eq, Option.bind_some, refOff_eq, Option.bind_some, orO rfl, Option.bind_some]
  congr 1
  cases inb x.lo 0 30 <;> cases inb x.hi 0 30 <;> rfl
def tuB (x : Span) : Bool := decide (x.hi < x.lo)
theorem refTurned_eq (x : Span) : zF x = some (tuB x) := rfl
def badL (x : Strip) : Bool := !okSp x.lay || (!okSp x.seeded || !okSp x.left)
def badO (x : Strip) : Bool := tuB x.lay || (tuB x.seeded || tuB x.left)
def limA (s : Scalps) (j : Nat) : Bool := (s.carried.any fun x => !okSp x) || (s.strips.take j).any badL
def ordA (s : Scalps) (j : Nat) : Bool := s.carried.any tuB || (s.strips.take j).any badO
def misA (s : Scalps) (j : Nat) : Bool := (s.strips.take j).any fun x => !inb x.tenant 0 ((s.carried.length : Int) - 1)
def wrX (x : Strip) : Bool := decide (x.lay.hi + x.seeded.hi < x.left.lo)
def wrA (s : Scalps) : Nat → Bool
  | 0 => false
  | j + 1 => wrA s j || (!limA s (j + 1) && wrX (s.strips.getD j default))
theorem wrA_succ (s : Scalps) (j : Nat) : wrA s (j + 1) = (wrA s j || (!limA s (j + 1) && wrX (s.strips.getD j default))) := rfl
theorem take_any {α : Type} {l : List α} {p : α → Bool} (d : α) {j : Nat} (hj : j < l.length) : (l.take (j + 1)).any p = ((l.take j).any p || p (l.getD j d)) := by
  rw [List.take_succ_eq_append_getElem hj, List.any_append]
  simp [List.getD_eq_getElem?_getD, hj]
theorem limA_succ {s : Scalps} {j : Nat} (hj : j < s.strips.length) : limA s (j + 1) = (limA s j || badL (s.strips.getD j default)) := by
  unfold limA
  rw [take_any default hj, Bool.or_assoc]
theorem ordA_succ {s : Scalps} {j : Nat} (hj : j < s.strips.length) : ordA s (j + 1) = (ordA s j || badO (s.strips.getD j default)) := by
  unfold ordA
  rw [take_any default hj, Bool.or_assoc]
theorem misA_succ {s : Scalps} {j : Nat} (hj : j < s.strips.length) : misA s (j + 1) = (misA s j || !inb (s.strips.getD j default).tenant 0 ((s.carried.length : Int) - 1)) := by
  unfold misA
  rw [take_any default hj]
theorem limA_mono {s : Scalps} : ∀ {j k : Nat}, j ≤ k → k ≤ s.strips.length → limA s k = false → limA s j = false
  | j, 0, h, _, hk => by have : j = 0 := by omega
                         subst this; exact hk
  | j, k + 1, h, hl, hk => by
    by_cases he : j = k + 1
    · subst he; exact hk
    · rw [limA_succ (by omega)] at hk
      exact limA_mono (k := k) (by omega) (by omega) (Bool.or_eq_false_iff.1 hk).1
theorem refCheck_L0 {s : Scalps} (hT : s.carried.length ≤ 1000) : iterM FU (yP s) ⟨false, false, 0⟩ = some ⟨s.carried.any fun x => !okSp x, s.carried.any tuB⟩ := by
  have key := iterM_run (f := yP s) (fun j => ⟨(s.carried.take j).any fun x => !okSp x, (s.carried.take j).any tuB, (j : Int)⟩) s.carried.length (b := ⟨s.carried.any fun x => !okSp x, s.carried.any tuB⟩) (fun j hj => ?_) ?_ FU (FU_lt (by omega))
  · exact key
  · unfold yP
    have hlt : (j : Int) < (s.carried.length : Int) := by omega
    simp only [hlt, if_true]
    rw [ix_nat default hj, Option.bind_some, refStrange_eq, Option.bind_some, orO rfl, Option.bind_some, take_any default hj, take_any default hj]
    cases (List.take j s.carried).any tuB with
    | true =>
      rw [if_pos rfl, Option.bind_some, addc_eq (by omega), Option.bind_some]
      rfl
    | false =>
      rw [if_neg (by simp), Option.bind_some, refTurned_eq, Option.bind_some, Option.bind_some, addc_eq (by omega), Option.bind_some]
      rfl
  · unfold yP
    simp
theorem refCheck_L1 {s : Scalps} (hS : s.strips.length ≤ 1000) (hT : s.carried.length ≤ 1000) : iterM FU (yN s) ⟨limA s 0, ordA s 0, false, false, 0⟩ = some ⟨limA s s.strips.length, ordA s s.strips.length, misA s s.strips.length, wrA s s.strips.length⟩ := by
  have key := iterM_run (f := yN s) (fun j => ⟨limA s j, ordA s j, misA s j, wrA s j, (j : Int)⟩) s.strips.length (b := ⟨limA s s.strips.length, ordA s s.strips.length, misA s s.strips.length, wrA s s.strips.length⟩) (fun j hj => ?_) ?_ FU (FU_lt (by omega))
  · exact key
  · unfold yN
    have hlt : (j : Int) < (s.strips.length : Int) := by omega
    simp only [hlt, if_true]
    rw [ix_nat default hj, Option.bind_some, refStrange_eq, Option.bind_some, refStrange_eq, Option.bind_some, refStrange_eq, Option.bind_some, orO (orO (orO rfl)), Option.bind_some, refTurned_eq, Option.bind_some, refTurned_eq, Option.bind_some, refTurned_eq, Option.bind_some, orO (orO (orO rfl)), Option.bind_some, subc_eq (by omega), Option.bind_some, refOff_eq, Option.bind_some, orO rfl, Option.bind_some]
    have h1 : (limA s j || (!okSp (s.strips.getD j default).lay || (!okSp (s.strips.getD j default).seeded || !okSp (s.strips.getD j default).left))) = limA s (j + 1) := (limA_succ hj).symm
    have h2 : (ordA s j || (tuB (s.strips.getD j default).lay || (tuB (s.strips.getD j default).seeded || tuB (s.strips.getD j default).left))) = ordA s (j + 1) := (ordA_succ hj).symm
    have h3 : (misA s j || !inb (s.strips.getD j default).tenant 0 ((s.carried.length : Int) - 1)) = misA s (j + 1) := (misA_succ hj).symm
    have e : (if wrA s j = true then (some ⟨limA s (j + 1), ordA s (j + 1), misA s (j + 1), true⟩ : Option zR) else if (!limA s (j + 1)) = true then (addc (s.strips.getD j default).lay.hi (s.strips.getD j default).seeded.hi).bind fun t110 => some ⟨limA s (j + 1), ordA s (j + 1), misA s (j + 1), decide (t110 < (s.strips.getD j default).left.lo)⟩ else some ⟨limA s (j + 1), ordA s (j + 1), misA s (j + 1), false⟩) = some ⟨limA s (j + 1), ordA s (j + 1), misA s (j + 1), wrA s (j + 1)⟩ := by
      rw [wrA_succ]
      cases hw : wrA s j with
      | true => rfl
      | false =>
        rw [if_neg (by simp), Bool.false_or]
        cases hl : limA s (j + 1) with
        | true => rfl
        | false =>
          rw [limA_succ hj] at hl
          have hb := (Bool.or_eq_false_iff.1 hl).2
          unfold badL at hb
          obtain ⟨b1, b2⟩ := Bool.or_eq_false_iff.1 hb
          obtain ⟨b2, b3⟩ := Bool.or_eq_false_iff.1 b2
          have c1 := okSp_iff.1 (by rw [Bool.not_eq_false'] at b1; exact b1)
          have c2 := okSp_iff.1 (by rw [Bool.not_eq_false'] at b2; exact b2)
          unfold In30 at c1 c2
          rw [if_pos (by simp), addc_eq (by omega), Option.bind_some]
          rfl
    have e2 : ∀ (a b c : Bool), a = limA s (j + 1) → b = ordA s (j + 1) → c = misA s (j + 1) → ((if wrA s j = true then (some ⟨a, b, c, true⟩ : Option zR) else if (!a) = true then (addc (s.strips.getD j default).lay.hi (s.strips.getD j default).seeded.hi).bind fun t110 => some ⟨a, b, c, decide (t110 < (s.strips.getD j default).left.lo)⟩ else some ⟨a, b, c, false⟩).bind fun o_5 => (addc (j : Int) 1).bind fun t51 => some (.inl (⟨o_5.limit3, o_5.order4, o_5.missing5, o_5.wrong6, t51⟩ : qk))) = (some (.inl (⟨limA s (j + 1), ordA s (j + 1), misA s (j + 1), wrA s (j + 1), ((j + 1 : Nat) : Int)⟩ : qk)) : Option (qk ⊕ KZ)) := by
      rintro a b c rfl rfl rfl
      rw [e, Option.bind_some, addc_eq (by omega), Option.bind_some]
      rfl
    exact e2 _ _ _ h1 h2 h3
  · unfold yN
    simp
theorem limA_end {s : Scalps} : limA s s.strips.length = !(spansOf s).all okSp := by
  unfold limA spansOf
  rw [List.take_length, List.all_append, List.all_flatMap, Bool.not_and, List.not_all_eq_any_not, List.not_all_eq_any_not]
  congr 2
  funext x
  unfold badL
  simp only [List.all_cons, List.all_nil, Bool.and_true]
  cases okSp x.lay <;> cases okSp x.seeded <;> cases okSp x.left <;> rfl
theorem tuB_not (x : Span) : tuB x = !decide (x.lo ≤ x.hi) := by
  unfold tuB
  by_cases h : x.lo ≤ x.hi
  · rw [decide_eq_true h, decide_eq_false (by omega)]; rfl
  · rw [decide_eq_false h, decide_eq_true (by omega)]; rfl
theorem ordA_end {s : Scalps} : ordA s s.strips.length = !(spansOf s).all fun x => decide (x.lo ≤ x.hi) := by
  unfold ordA spansOf
  rw [List.take_length, List.all_append, List.all_flatMap, Bool.not_and, List.not_all_eq_any_not, List.not_all_eq_any_not]
  have e : (fun x : Span => !decide (x.lo ≤ x.hi)) = tuB := by funext x; exact (tuB_not x).symm
  rw [e]
  congr 2
  funext x
  unfold badO
  rw [tuB_not, tuB_not, tuB_not]
  simp only [List.all_cons, List.all_nil, Bool.and_true]
  cases decide (x.lay.lo ≤ x.lay.hi) <;> cases decide (x.seeded.lo ≤ x.seeded.hi) <;> cases decide (x.left.lo ≤ x.left.hi) <;> rfl
theorem misA_end {s : Scalps} : misA s s.strips.length = !(s.strips.all fun x => inb x.tenant 0 ((s.carried.length : Int) - 1)) := by
  unfold misA
  rw [List.take_length, List.not_all_eq_any_not]
theorem wrA_eq {s : Scalps} (hl : limA s s.strips.length = false) : ∀ j, j ≤ s.strips.length → wrA s j = (s.strips.take j).any wrX
  | 0, _ => rfl
  | j + 1, hj => by
    rw [wrA_succ, wrA_eq hl j (by omega), limA_mono hj (Nat.le_refl _) hl, take_any default (by omega)]
    rfl
theorem wrA_end {s : Scalps} (hl : limA s s.strips.length = false) : wrA s s.strips.length = !(s.strips.all fun x => decide (0 ≤ (goneP x).hi)) := by
  rw [wrA_eq hl _ (Nat.le_refl _), List.take_length, List.not_all_eq_any_not]
  congr 1
  funext x
  unfold wrX goneP
  simp only
  by_cases h : x.lay.hi + x.seeded.hi < x.left.lo
  · rw [decide_eq_true h, decide_eq_false (by omega)]; rfl
  · rw [decide_eq_false h, decide_eq_true (by omega)]; rfl
theorem refCheck_eq {s : Scalps} (hS : s.strips.length ≤ 1000) (hT : s.carried.length ≤ 1000) : K9 s = some (chk s) := by
  unfold K9 chk
  rw [refOff_eq, Option.bind_some, refOff_eq, Option.bind_some, orO rfl, Option.bind_some]
  by_cases hin : inb (s.strips.length : Int) 1 6 = true ∧ inb (s.carried.length : Int) 1 5 = true
  · rw [if_pos hin, hin.1, hin.2, if_neg (by simp), refCheck_L0 hT, Option.bind_some]
    have e : (⟨s.carried.any fun x => !okSp x, s.carried.any tuB, false, false, 0⟩ : qk) = ⟨limA s 0, ordA s 0, false, false, 0⟩ := by
      simp [limA, ordA]
    dsimp only
    rw [e, refCheck_L1 hS hT, Option.bind_some]
    dsimp only
    rw [limA_end, misA_end, ordA_end]
    cases h1 : (spansOf s).all okSp with
    | false => rfl
    | true =>
      rw [if_neg (by simp), if_pos rfl, wrA_end (by rw [limA_end, h1]; rfl)]
      cases (s.strips.all fun x => inb x.tenant 0 ((s.carried.length : Int) - 1)) <;> cases ((spansOf s).all fun x => decide (x.lo ≤ x.hi)) <;> cases (s.strips.all fun x => decide (0 ≤ (goneP x).hi)) <;> rfl
  · rw [if_neg hin, if_pos]
    cases h1 : inb (s.strips.length : Int) 1 6 with
    | false => rfl
    | true =>
      cases h2 : inb (s.carried.length : Int) 1 5 with
      | false => rfl
      | true => exact absurd ⟨h1, h2⟩ hin
theorem wide_spec {s : Scalps} (hl : s.carried.length ≤ 9223372036854775807) : ∃ b, Qz s = some b ∧ (b = false → s.strips.length ≤ 12 ∧ s.carried.length ≤ 10 ∧ (Right s → stepN s.carried s.carried.length ≤ 500)) := by
  have key : ∃ o, iterM FU (JK s) ⟨1, 0⟩ = some o ∧ (Right s → o = (stepN s.carried s.carried.length : Int) ∨ 1000 ≤ o) := by
    refine iterM_inv (f := JK s) (fun z => ∃ j : Nat, z.t9 = (j : Int) ∧ j ≤ s.carried.length ∧ 1 ≤ z.n3 ∧ z.n3 ≤ 31000 ∧ (Right s → z.n3 = (stepN s.carried j : Int) ∨ 1000 ≤ z.n3)) (fun z => ((s.carried.length : Int) - z.t9).toNat) _ (fun z hz => ?_) FU _ (FU_lt2 (by simp only; omega)) ⟨0, rfl, by omega, by simp, by simp, fun _ => .inl rfl⟩
    obtain ⟨j, hj, hjl, h1, h2, h3⟩ := hz
    unfold JK
    rw [hj]
    by_cases hlt : j < s.carried.length
    · left
      rw [if_pos (by omega), ix_nat default hlt, Option.bind_some]
      have hx : s.carried.getD j default = hOf s.carried j := rfl
      rw [hx]
      by_cases hc : 0 ≤ (hOf s.carried j).hi ∧ (hOf s.carried j).hi ≤ 30 ∧ z.n3 < 1000
      · have hm1 : z.n3 * ((hOf s.carried j).hi + 1) ≤ 1000 * 31 := Int.mul_le_mul (by omega) (by omega) (by omega) (by omega)
        have hm2 : 1 * 1 ≤ z.n3 * ((hOf s.carried j).hi + 1) := Int.mul_le_mul (by omega) (by omega) (by omega) (by omega)
        rw [if_pos hc.1, if_pos hc.2.1, decide_eq_true hc.2.2, Option.bind_some, if_pos rfl, addc_eq (by omega), Option.bind_some, mulc_eq (by omega), Option.bind_some, Option.bind_some, addc_eq (by omega), Option.bind_some]
        refine ⟨_, rfl, ⟨j + 1, by push_cast; rfl, hlt, by simp only; omega, by simp only; omega, fun hR => ?_⟩, by simp only; omega⟩
        simp only
        rcases h3 hR with h4 | h4
        · left
          rw [h4, bs_eq hR hlt]
          simp [stepN]
        · omega
      · have hcf : (if 0 ≤ (hOf s.carried j).hi then if (hOf s.carried j).hi ≤ 30 then (some (decide (z.n3 < 1000)) : Option Bool) else some false else some false) = some false := by
          by_cases a : 0 ≤ (hOf s.carried j).hi
          · by_cases b : (hOf s.carried j).hi ≤ 30
            · rw [if_pos a, if_pos b, decide_eq_false (fun c => hc ⟨a, b, c⟩)]
            · rw [if_pos a, if_neg b]
          · rw [if_neg a]
        rw [hcf, Option.bind_some, if_neg (by simp), Option.bind_some, addc_eq (by omega), Option.bind_some]
        refine ⟨_, rfl, ⟨j + 1, by push_cast; rfl, hlt, by simp only; omega, by simp only; omega, fun hR => ?_⟩, by simp only; omega⟩
        simp only
        right
        have := hOf_ok hR.net hlt
        rcases h3 hR with h4 | h4 <;> omega
    · right
      rw [if_neg (by omega)]
      have : j = s.carried.length := by omega
      subst this
      exact ⟨_, rfl, h3⟩
  obtain ⟨o, ho, h3⟩ := key
  have hg : K6 s = some (decide (12 < s.strips.length ∨ 10 < s.carried.length)) := by
    unfold K6
    by_cases h1 : 12 < s.strips.length
    · rw [if_pos (by omega), Option.bind_some, decide_eq_true (.inl h1)]
    · rw [if_neg (by omega), Option.bind_some]
      congr 1
      exact decide_eq_decide.2 ⟨fun h => .inr (by omega), fun h => by omega⟩
  unfold Qz
  rw [ho, Option.bind_some, hg, Option.bind_some]
  by_cases h1 : 12 < s.strips.length ∨ 10 < s.carried.length
  · rw [decide_eq_true h1, if_pos rfl, Option.bind_some]
    exact ⟨_, rfl, fun h => by cases h⟩
  · rw [decide_eq_false h1, if_neg (by simp)]
    by_cases h2 : 500 < o
    · rw [if_pos h2, Option.bind_some]
      refine ⟨_, rfl, fun h => ⟨by omega, by omega, fun hR => ?_⟩⟩
      have := hR.net.c5
      have := of_decide_eq_false h
      omega
    · rw [if_neg h2, Option.bind_some]
      refine ⟨_, rfl, fun _ => ⟨by omega, by omega, fun hR => ?_⟩⟩
      rcases h3 hR with h4 | h4 <;> omega
theorem own_eq {s : Scalps} (hS : s.strips.length ≤ 1000) (hT : s.carried.length ≤ 1000) : Yu s = some s := by
  unfold Yu qR qd
  rw [makec_eq ⟨by omega, by omega, by omega, by omega⟩, Option.bind_some, appc_eq (by simp; omega), Option.bind_some, Option.bind_some, makec_eq ⟨by omega, by omega, by omega, by omega⟩, Option.bind_some, appc_eq (by simp; omega), Option.bind_some, Option.bind_some]
  simp
theorem theirs_eq {s : Scalps} (hS : s.strips.length ≤ 1000) (hT : s.carried.length ≤ 1000) : Kd s = some s := by
  unfold Kd qd
  rw [makec_eq ⟨by omega, by omega, by omega, by omega⟩, Option.bind_some, appc_eq (by simp; omega), Option.bind_some, Option.bind_some]
  have key := iterM_run (f := zb s) (fun j => ⟨(j : Int), s.strips.take j⟩) s.strips.length (b := s.strips) (fun j hj => ?_) ?_ FU (FU_lt (by omega))
  · have e : (⟨0, []⟩ : zj) = ⟨((0 : Nat) : Int), s.strips.take 0⟩ := rfl
    rw [e, key, Option.bind_some]
    simp
  · unfold zb
    have hlt : (j : Int) < (s.strips.length : Int) := by omega
    simp only [hlt, if_true]
    rw [ix_nat default hj, Option.bind_some, appc_eq (by simp [List.length_take]; omega), Option.bind_some, addc_eq (by omega), Option.bind_some]
    have e : s.strips.take (j + 1) = s.strips.take j ++ [s.strips.getD j default] := by
      rw [List.take_succ_eq_append_getElem hj]
      simp [List.getD_eq_getElem?_getD, hj]
    rw [e]
    rfl
  · unfold zb
    simp
theorem eqStrip {l : List Strip} (h : l.length ≤ 1000) : qb l l = some true := by
  unfold qb Jr
  rw [if_pos rfl]
  have key := iterM_any0 (f := qD l l) l.length (fun _ => false) false (fun k hk => ?_) ?_ (N := FU) (FU_lt (by omega))
  · rw [key]
    have : (List.range l.length).any (fun _ => false) = false := by simp
    rw [this]; rfl
  · unfold qD
    rw [if_pos (by omega), ix_nat default hk, Option.bind_some, Option.bind_some, if_pos rfl, addc_eq (by omega), Option.bind_some]
    rfl
  · unfold qD
    rw [if_neg (by omega)]
theorem eqSpan {l : List Span} (h : l.length ≤ 1000) : yr l l = some true := by
  unfold yr Jo
  rw [if_pos rfl]
  have key := iterM_any0 (f := qE l l) l.length (fun _ => false) false (fun k hk => ?_) ?_ (N := FU) (FU_lt (by omega))
  · rw [key]
    have : (List.range l.length).any (fun _ => false) = false := by simp
    rw [this]; rfl
  · unfold qE
    rw [if_pos (by omega), ix_nat default hk, Option.bind_some, Option.bind_some, if_pos rfl, addc_eq (by omega), Option.bind_some]
    rfl
  · unfold qE
    rw [if_neg (by omega)]
theorem same_self {s : Scalps} (hS : s.strips.length ≤ 1000) (hT : s.carried.length ≤ 1000) : Qh s s = some true := by
  unfold Qh
  rw [eqStrip hS, Option.bind_some, if_pos rfl, eqSpan hT]; rfl
def stB (s : Scalps) (t0 k0 : Int) (t k : Nat) : Bool := (decide (t0 < 0) || decide ((t : Int) = t0)) && ((decide (k0 < 0) || decide ((k : Int) = k0)) && othB s t k)
theorem stolen_L1 {s : Scalps} (h6 : s.strips.length ≤ 1000) (t0 k0 : Int) {t : Nat} {z : qp} (hz : z.t8 = (t : Int)) :
    iterM FU (ye t0 k0 s z) ⟨0, List.replicate s.strips.length false⟩ = some ((List.range s.strips.length).map (stB s t0 k0 t)) := by
  have key := iterM_run (f := ye t0 k0 s z) (fun k => ⟨(k : Int), (List.range s.strips.length).map fun i => if i < k then stB s t0 k0 t i else false⟩) s.strips.length (b := (List.range s.strips.length).map (stB s t0 k0 t)) (fun k hk => ?_) ?_ FU (FU_lt (by omega))
  · have e : (⟨0, List.replicate s.strips.length false⟩ : zf) = ⟨((0 : Nat) : Int), (List.range s.strips.length).map fun i => if i < 0 then stB s t0 k0 t i else false⟩ := by
      congr 1
      symm
      rw [List.eq_replicate_iff]
      refine ⟨by simp, fun b hb => ?_⟩
      obtain ⟨i, _, rfl⟩ := List.mem_map.1 hb
      rw [if_neg (by omega)]
    rw [e, key]
  · unfold ye
    have hlt : (k : Int) < (((List.range s.strips.length).map fun i => if i < k then stB s t0 k0 t i else false).length : Int) := by simp; omega
    simp only
    rw [if_pos hlt]
    have hth : (!decide ((s.strips.getD k default).tenant = z.t8)) = othB s t k := by rw [hz]; rfl
    have hend : ∀ v, v = stB s t0 k0 t k → ((List.range s.strips.length).map fun i => if i < k then stB s t0 k0 t i else false).set (Int.toNat (k : Int)) v = (List.range s.strips.length).map fun i => if i < k + 1 then stB s t0 k0 t i else false := fun v hv => by
      rw [Int.toNat_natCast, range_set]
      refine List.map_congr_left fun i _ => ?_
      by_cases hik : i = k
      · subst hik; rw [if_pos rfl, if_pos (by omega), hv]
      · rw [if_neg hik]
        by_cases h2 : i < k
        · rw [if_pos h2, if_pos (by omega)]
        · rw [if_neg h2, if_neg (by omega)]
    have hbody : (if t0 < 0 then if k0 < 0 then (ix s.strips (k : Int)).bind fun t50 => (ix ((List.range s.strips.length).map fun i => if i < k then stB s t0 k0 t i else false) (k : Int)).bind fun t56 => (some (((List.range s.strips.length).map fun i => if i < k then stB s t0 k0 t i else false).set (Int.toNat (k : Int)) (!decide (t50.tenant = z.t8)))).bind fun t21_1 => some t21_1 else if (k : Int) = k0 then (ix s.strips (k : Int)).bind fun t50 => (ix ((List.range s.strips.length).map fun i => if i < k then stB s t0 k0 t i else false) (k : Int)).bind fun t56 => (some (((List.range s.strips.length).map fun i => if i < k then stB s t0 k0 t i else false).set (Int.toNat (k : Int)) (!decide (t50.tenant = z.t8)))).bind fun t21_1 => some t21_1 else (ix ((List.range s.strips.length).map fun i => if i < k then stB s t0 k0 t i else false) (k : Int)).bind fun t56 => (some (((List.range s.strips.length).map fun i => if i < k then stB s t0 k0 t i else false).set (Int.toNat (k : Int)) false)).bind fun t21_1 => some t21_1 else if z.t8 = t0 then if k0 < 0 then (ix s.strips (k : Int)).bind fun t50 => (ix ((List.range s.strips.length).map fun i => if i < k then stB s t0 k0 t i else false) (k : Int)).bind fun t56 => (some (((List.range s.strips.length).map fun i => if i < k then stB s t0 k0 t i else false).set (Int.toNat (k : Int)) (!decide (t50.tenant = z.t8)))).bind fun t21_1 => some t21_1 else if (k : Int) = k0 then (ix s.strips (k : Int)).bind fun t50 => (ix ((List.range s.strips.length).map fun i => if i < k then stB s t0 k0 t i else false) (k : Int)).bind fun t56 => (some (((List.range s.strips.length).map fun i => if i < k then stB s t0 k0 t i else false).set (Int.toNat (k : Int)) (!decide (t50.tenant = z.t8)))).bind fun t21_1 => some t21_1 else (ix ((List.range s.strips.length).map fun i => if i < k then stB s t0 k0 t i else false) (k : Int)).bind fun t56 => (some (((List.range s.strips.length).map fun i => if i < k then stB s t0 k0 t i else false).set (Int.toNat (k : Int)) false)).bind fun t21_1 => some t21_1 else (ix ((List.range s.strips.length).map fun i => if i < k then stB s t0 k0 t i else false) (k : Int)).bind fun t56 => (some (((List.range s.strips.length).map fun i => if i < k then stB s t0 k0 t i else false).set (Int.toNat (k : Int)) false)).bind fun t21_1 => some t21_1) = some ((List.range s.strips.length).map fun i => if i < k + 1 then stB s t0 k0 t i else false) := by
      have g1 : (ix s.strips (k : Int)).bind (fun t50 => (ix ((List.range s.strips.length).map fun i => if i < k then stB s t0 k0 t i else false) (k : Int)).bind fun t56 => (some (((List.range s.strips.length).map fun i => if i < k then stB s t0 k0 t i else false).set (Int.toNat (k : Int)) (!decide (t50.tenant = z.t8)))).bind fun t21_1 => some t21_1) = some (((List.range s.strips.length).map fun i => if i < k then stB s t0 k0 t i else false).set (Int.toNat (k : Int)) (othB s t k)) := by
        rw [ix_nat default hk, Option.bind_some, range_ix hk, Option.bind_some, Option.bind_some, hth]
      have g2 : (ix ((List.range s.strips.length).map fun i => if i < k then stB s t0 k0 t i else false) (k : Int)).bind (fun t56 => (some (((List.range s.strips.length).map fun i => if i < k then stB s t0 k0 t i else false).set (Int.toNat (k : Int)) false)).bind fun t21_1 => some t21_1) = some (((List.range s.strips.length).map fun i => if i < k then stB s t0 k0 t i else false).set (Int.toNat (k : Int)) false) := by
        rw [range_ix hk, Option.bind_some, Option.bind_some]
      rw [g1, g2, hz]
      by_cases a1 : t0 < 0
      · rw [if_pos a1]
        by_cases a2 : k0 < 0
        · rw [if_pos a2, hend]; simp [stB, a1, a2]
        · rw [if_neg a2]
          by_cases a3 : (k : Int) = k0
          · rw [if_pos a3, hend]; simp [stB, a1, a3]
          · rw [if_neg a3, hend]; simp [stB, a2, a3]
      · rw [if_neg a1]
        by_cases a4 : (t : Int) = t0
        · rw [if_pos a4]
          by_cases a2 : k0 < 0
          · rw [if_pos a2, hend]; simp [stB, a4, a2]
          · rw [if_neg a2]
            by_cases a3 : (k : Int) = k0
            · rw [if_pos a3, hend]; simp [stB, a4, a3]
            · rw [if_neg a3, hend]; simp [stB, a2, a3]
        · rw [if_neg a4, hend]; simp [stB, a1, a4]
    rw [hbody, Option.bind_some, addc_eq (by omega), Option.bind_some]
    rfl
  · unfold ye
    simp only
    rw [if_neg (by simp)]
    congr 2
    refine List.map_congr_left fun i hi => ?_
    rw [if_pos (List.mem_range.1 hi)]
theorem refStolen_eq {s : Scalps} (h6 : s.strips.length ≤ 1000) (h5 : s.carried.length ≤ 1000) (t0 k0 : Int) : Jv s t0 k0 = some ((List.range s.carried.length).map fun t => (List.range s.strips.length).map (stB s t0 k0 t)) := by
  unfold Jv
  have key := iterM_run (f := zp s t0 k0) (fun t => ⟨(t : Int), (List.range t).map fun t => (List.range s.strips.length).map (stB s t0 k0 t)⟩) s.carried.length (b := (List.range s.carried.length).map fun t => (List.range s.strips.length).map (stB s t0 k0 t)) (fun t ht => ?_) ?_ FU (FU_lt (by omega))
  · have e : (⟨0, []⟩ : qp) = ⟨((0 : Nat) : Int), (List.range 0).map fun t => (List.range s.strips.length).map (stB s t0 k0 t)⟩ := rfl
    rw [e, key]; rfl
  · unfold zp
    have hlt : (t : Int) < (s.carried.length : Int) := by omega
    simp only
    rw [if_pos hlt, makec_eq ⟨by omega, by omega, by omega, by omega⟩, Option.bind_some, Int.toNat_natCast, stolen_L1 h6 t0 k0 rfl, Option.bind_some, appc_eq (by simp; omega), Option.bind_some, addc_eq (by omega), Option.bind_some, List.range_succ, List.map_append]
    rfl
  · unfold zp
    simp
theorem rows_ix {T S : Nat} {b : Nat → Nat → Bool} {t k : Nat} (ht : t < T) (hk : k < S) : ∃ row, ix ((List.range T).map fun t => (List.range S).map (b t)) (t : Int) = some row ∧ ix row (k : Int) = some (b t k) :=
  ⟨_, range_ix ht, range_ix hk⟩
theorem sumTo_theft {s : Scalps} (h : Right s) {y : Nat → Nat → Int} (hy : FitsS s y) : Ke s (mat s.carried.length s.strips.length y) (-1) (-1) = some (countS s (thC s) y) := by
  have h6 := h.net.s6; have h5 := h.net.c5
  have hb1 : ∀ t, t < s.carried.length → ∀ n, n ≤ s.strips.length → 0 ≤ sumTo (fun k => thC s t k * y t k) n ∧ sumTo (fun k => thC s t k * y t k) n ≤ 60 * (n : Int) := fun t ht n hn => sumTo_bound fun k hk => by
    have := le60 h hy ht (show k < s.strips.length by omega)
    have := (hy.pos t k ht (by omega)).1
    unfold thC cnt
    split <;> omega
  have hb2 : ∀ n, n ≤ s.carried.length → 0 ≤ sumTo (fun t => sumTo (fun k => thC s t k * y t k) s.strips.length) n ∧ sumTo (fun t => sumTo (fun k => thC s t k * y t k) s.strips.length) n ≤ 360 * (n : Int) := fun n hn => sumTo_bound fun t ht => by
    have := hb1 t (by omega) _ (Nat.le_refl _)
    omega
  unfold Ke
  have key := iterM_run (f := z5 (mat s.carried.length s.strips.length y) (-1) (-1) s) (fun t => ⟨sumTo (fun t => sumTo (fun k => thC s t k * y t k) s.strips.length) t, (t : Int)⟩) s.carried.length (b := countS s (thC s) y) (fun t ht => ?_) ?_ FU (FU_lt (by omega))
  · have e : (⟨0, 0⟩ : yS) = ⟨sumTo (fun t => sumTo (fun k => thC s t k * y t k) s.strips.length) 0, ((0 : Nat) : Int)⟩ := rfl
    rw [e, key]; rfl
  · unfold z5
    have hlt : (t : Int) < ((mat s.carried.length s.strips.length y).length : Int) := by rw [mat_len]; omega
    have hbt := hb2 t (by omega)
    have hbt2 := hb2 (t + 1) (by omega)
    simp only [sumTo] at hbt2
    simp only
    rw [if_pos hlt]
    have hrow : ix (mat s.carried.length s.strips.length y) (t : Int) = some (vecS s.strips.length (y t)) := by
      rw [ix_nat [] (by rw [mat_len]; exact ht), mat_getD ht]
    have key1 := iterM_run (f := zO (mat s.carried.length s.strips.length y) ⟨sumTo (fun t => sumTo (fun k => thC s t k * y t k) s.strips.length) t, (t : Int)⟩ (-1) (-1) s) (fun k => ⟨sumTo (fun t => sumTo (fun k => thC s t k * y t k) s.strips.length) t + sumTo (fun k => thC s t k * y t k) k, (k : Int)⟩) s.strips.length (b := sumTo (fun t => sumTo (fun k => thC s t k * y t k) s.strips.length) (t + 1)) (fun k hk => ?_) ?_ FU (FU_lt (by omega))
    · have e : (⟨sumTo (fun t => sumTo (fun k => thC s t k * y t k) s.strips.length) t, 0⟩ : zM) = ⟨sumTo (fun t => sumTo (fun k => thC s t k * y t k) s.strips.length) t + sumTo (fun k => thC s t k * y t k) 0, ((0 : Nat) : Int)⟩ := by simp [sumTo]
      rw [e, key1, Option.bind_some, addc_eq (by omega), Option.bind_some]
      rfl
    · unfold zO
      have hk1 := hb1 t ht k (by omega)
      have hk2 := hb1 t ht (k + 1) (by omega)
      simp only [sumTo] at hk2
      simp only
      rw [hrow, Option.bind_some, if_pos (by rw [vecS_len]; omega), if_pos (by omega), if_pos (by omega), ix_nat default hk, Option.bind_some, Option.bind_some]
      have hth : (!decide ((s.strips.getD k default).tenant = (t : Int))) = othB s t k := rfl
      have hyk := le60 h hy ht hk
      have hy0 := (hy.pos t k ht hk).1
      rw [hth, Option.bind_some, vecS_ix hk, Option.bind_some]
      cases ho : othB s t k with
      | true =>
        have e1 : thC s t k = 1 := by unfold thC cnt; rw [ho]; rfl
        rw [e1] at hk2
        rw [if_pos rfl, addc_eq (by omega), Option.bind_some, Option.bind_some, addc_eq (by omega), Option.bind_some]
        simp only [sumTo]
        rw [e1, Int.one_mul, Int.add_assoc]
        rfl
      | false =>
        have e1 : thC s t k = 0 := by unfold thC cnt; rw [ho]; rfl
        rw [if_neg (by simp), Option.bind_some, addc_eq (by omega), Option.bind_some]
        simp only [sumTo]
        rw [e1, Int.zero_mul, Int.add_zero]
        rfl
    · unfold zO
      simp only
      rw [hrow, Option.bind_some, if_neg (by rw [vecS_len]; omega)]
      rfl
  · unfold z5
    simp only
    rw [if_neg (by rw [mat_len]; omega)]
    rfl
end Go.Proofs.Ws

namespace Go.Proofs.Ws
open Go Go.Fw Go.Gx Go.Sp
set_option linter.unusedVariables false
def okR (s : Scalps) (t k : Nat) (n : Int) : Bool := decide (0 ≤ n ∧ n ≤ 100 ∧ (0 < n → reachB s.strips t k = true))
theorem okR_iff {s : Scalps} {t k : Nat} {n : Int} : okR s t k n = true ↔ 0 ≤ n ∧ n ≤ 100 ∧ (0 < n → reachB s.strips t k = true) := decide_eq_true_iff
def rowR (s : Scalps) (t : Nat) (row : List Int) : Bool := decide (row.length = s.strips.length) && ((List.range s.strips.length).all (fun k => okR s t k (rowV row k)) && decide ((hOf s.carried t).lo ≤ sumTo (rowV row) s.strips.length ∧ sumTo (rowV row) s.strips.length ≤ (hOf s.carried t).hi))
theorem rowR_eq {s : Scalps} (h : Right s) {t : Nat} (ht : t < s.carried.length) (row : List Int) : rowR s t row = rowB s t row := by
  rw [Bool.eq_iff_iff]
  unfold rowR rowB
  rw [Bool.and_eq_true, Bool.and_eq_true, Bool.and_eq_true, Bool.and_eq_true, List.all_eq_true, List.all_eq_true, decide_eq_true_iff, decide_eq_true_iff]
  have hh := hOf_ok h.net ht
  constructor
  · rintro ⟨a, b, c⟩
    refine ⟨a, fun k hk => ?_, c⟩
    have hb : ∀ i, i < s.strips.length → 0 ≤ rowV row i := fun i hi => (okR_iff.1 (b i (List.mem_range.2 hi))).1
    have hk' := List.mem_range.1 hk
    have h1 := sumTo_mem_le (f := rowV row) hb hk'
    have h2 := okR_iff.1 (b k hk)
    exact okE_iff.2 ⟨h2.1, by omega, h2.2.2⟩
  · rintro ⟨a, b, c⟩
    refine ⟨a, fun k hk => ?_, c⟩
    have h2 := okE_iff.1 (b k hk)
    exact okR_iff.2 ⟨h2.1, by omega, h2.2.2⟩
theorem offR {s : Scalps} (h6 : s.strips.length ≤ 1000) {t k : Nat} (hk : k < s.strips.length) (n : Int) {z : Int} (hz : z = (t : Int)) : ((zl n 0 100).bind fun t51 => if t51 = true then (some true : Option Bool) else if 0 < n then (j5 s z (k : Int)).bind fun t59 => some (!t59) else some false) = some (!okR s t k n) := by
  rw [refOff_eq, Option.bind_some, hz, refReaches_eq h6 hk, Option.bind_some]
  unfold inb
  by_cases h1 : 0 ≤ n
  · by_cases h2 : n ≤ 100
    · rw [decide_eq_true h1, decide_eq_true h2, if_neg (by simp)]
      by_cases h3 : 0 < n
      · rw [if_pos h3]
        have : okR s t k n = reachB s.strips t k := by
          rw [Bool.eq_iff_iff, okR_iff]
          exact ⟨fun h => h.2.2 h3, fun h => ⟨by omega, by omega, fun _ => h⟩⟩
        rw [this]
      · rw [if_neg h3]
        have : okR s t k n = true := okR_iff.2 ⟨by omega, by omega, fun h => absurd h h3⟩
        rw [this]; rfl
    · rw [decide_eq_false h2, Bool.and_false, if_pos (show (!false) = true from rfl)]
      have : okR s t k n = false := by rw [← Bool.not_eq_true, okR_iff]; omega
      rw [this]; rfl
  · rw [decide_eq_false h1, Bool.false_and, if_pos (show (!false) = true from rfl)]
    have : okR s t k n = false := by rw [← Bool.not_eq_true, okR_iff]; omega
    rw [this]; rfl
theorem refFits_L1 {s : Scalps} (h6 : s.strips.length ≤ 6) {rows : List (List Int)} {t : Nat} (htr : t < rows.length) {row : List Int} (hr : rows.getD t [] = row) (hrow : row.length = s.strips.length) {f : Nat → Int} (hf : ∀ k, 0 ≤ f k ∧ f k ≤ 1000) {s0 : yE} (hs0 : s0.t6 = (t : Int)) :
    iterM FU (zw rows s0 s) ⟨0, 0, vecS s.strips.length f⟩ = some (if (List.range s.strips.length).all (fun k => okR s t k (rowV row k)) = true then .inl ⟨sumTo (rowV row) s.strips.length, vecS s.strips.length fun k => f k + rowV row k⟩ else .inr false) := by
  have key := iterM_find (f := zw rows s0 s) (fun k => ⟨sumTo (rowV row) k, (k : Int), vecS s.strips.length fun i => if i < k then f i + rowV row i else f i⟩) s.strips.length (fun k => !okR s t k (rowV row k)) (fun _ => .inr false) (.inl ⟨sumTo (rowV row) s.strips.length, vecS s.strips.length fun k => f k + rowV row k⟩) (fun k hk hprev => ?_) ?_ (N := FU) (FU_lt (by omega))
  · have e : (⟨0, 0, vecS s.strips.length f⟩ : JG) = ⟨sumTo (rowV row) 0, ((0 : Nat) : Int), vecS s.strips.length fun i => if i < 0 then f i + rowV row i else f i⟩ := by
      have : vecS s.strips.length f = vecS s.strips.length fun i => if i < 0 then f i + rowV row i else f i := vecS_congr fun i _ => by rw [if_neg (by omega)]
      rw [← this]; rfl
    rw [e, key, all_find]
    cases (List.range s.strips.length).find? (fun k => !okR s t k (rowV row k)) with
    | none => rfl
    | some k => rfl
  · unfold zw
    have hb : ∀ n, n ≤ k → 0 ≤ sumTo (rowV row) n ∧ sumTo (rowV row) n ≤ 100 * (n : Int) := fun n hn => sumTo_bound (f := rowV row) (b := 100) fun i hi => by
      have := hprev i (by omega)
      rw [Bool.not_eq_false'] at this
      have := okR_iff.1 this
      omega
    have hbk := hb k (Nat.le_refl _)
    simp only
    rw [vecS_len, if_pos (by omega), hs0, ix_nat [] htr, Option.bind_some, hr, ix_nat 0 (by omega), Option.bind_some, offR (by omega) hk _ rfl, Option.bind_some]
    have hv : row.getD k 0 = rowV row k := rfl
    rw [hv]
    cases hok : okR s t k (rowV row k) with
    | false => rfl
    | true =>
      have hok' := okR_iff.1 hok
      have hfk := hf k
      simp only [Bool.not_true, Bool.false_eq_true, if_false]
      rw [addc_eq (by omega), Option.bind_some, vecS_ix hk, Option.bind_some, if_neg (Nat.lt_irrefl _), addc_eq (by omega), Option.bind_some, Option.bind_some, Option.bind_some, addc_eq (by omega), Option.bind_some, show Int.toNat (k : Int) = k by omega, vecS_set]
      congr 3
      refine vecS_congr fun i _ => ?_
      by_cases hik : i = k
      · subst hik; rw [if_pos rfl, if_pos (by omega)]
      · rw [if_neg hik]
        by_cases h2 : i < k
        · rw [if_pos h2, if_pos (by omega)]
        · rw [if_neg h2, if_neg (by omega)]
  · unfold zw
    simp only
    rw [vecS_len, if_neg (by omega)]
    congr 3
    congr 1
    refine vecS_congr fun i hi => ?_
    rw [if_pos hi]
theorem refFits_L0 {s : Scalps} (h6 : s.strips.length ≤ 6) (h5 : s.carried.length ≤ 5) {rows : List (List Int)} (hrows : rows.length = s.carried.length) :
    iterM FU (zD rows s) ⟨0, vecS s.strips.length fun _ => 0⟩ = some (if (List.range s.carried.length).all (fun t => rowR s t (rows.getD t [])) = true then .inl (vecS s.strips.length fun k => sumTo (fun t => shV rows t k) s.carried.length) else .inr false) := by
  have key := iterM_find (f := zD rows s) (fun t => ⟨(t : Int), vecS s.strips.length fun k => sumTo (fun t => shV rows t k) t⟩) s.carried.length (fun t => !rowR s t (rows.getD t [])) (fun _ => .inr false) (.inl (vecS s.strips.length fun k => sumTo (fun t => shV rows t k) s.carried.length)) (fun t ht hprev => ?_) ?_ (N := FU) (FU_lt (by omega))
  · have e : (⟨0, vecS s.strips.length fun _ => 0⟩ : yE) = ⟨((0 : Nat) : Int), vecS s.strips.length fun k => sumTo (fun t => shV rows t k) 0⟩ := rfl
    rw [e, key, all_find]
    cases (List.range s.carried.length).find? (fun t => !rowR s t (rows.getD t [])) with
    | none => rfl
    | some k => rfl
  · unfold zD
    have hlt : (t : Int) < (rows.length : Int) := by omega
    simp only
    rw [if_pos hlt, ix_nat [] (by omega), Option.bind_some]
    by_cases hlen : (rows.getD t []).length = s.strips.length
    · rw [if_pos (by omega)]
      have hbd : ∀ k, 0 ≤ (if k < s.strips.length then sumTo (fun t => shV rows t k) t else 0) ∧ (if k < s.strips.length then sumTo (fun t => shV rows t k) t else 0) ≤ 1000 := fun k => by
        by_cases hk : k < s.strips.length
        · rw [if_pos hk]
          have := sumTo_bound (f := fun t => shV rows t k) (b := 100) (n := t) (fun i hi => by
            have := hprev i hi
            rw [Bool.not_eq_false'] at this
            unfold rowR at this
            rw [Bool.and_eq_true, Bool.and_eq_true] at this
            have := okR_iff.1 (List.all_eq_true.1 this.2.1 k (List.mem_range.2 hk))
            unfold shV
            omega)
          omega
        · rw [if_neg hk]; omega
      have hL := refFits_L1 h6 (rows := rows) (t := t) (by omega) rfl hlen (f := fun k => if k < s.strips.length then sumTo (fun t => shV rows t k) t else 0) hbd (s0 := ⟨(t : Int), vecS s.strips.length fun k => sumTo (fun t => shV rows t k) t⟩) rfl
      rw [vecS_congr (f := fun k => if k < s.strips.length then sumTo (fun t => shV rows t k) t else 0) (g := fun k => sumTo (fun t => shV rows t k) t) (fun i hi => if_pos hi)] at hL
      rw [vecS_congr (f := fun k => (if k < s.strips.length then sumTo (fun t => shV rows t k) t else 0) + rowV (rows.getD t []) k) (g := fun k => sumTo (fun t => shV rows t k) (t + 1)) (fun i hi => by rw [if_pos hi]; rfl)] at hL
      rw [hL, Option.bind_some]
      unfold rowR
      rw [decide_eq_true hlen, Bool.true_and]
      by_cases hall : (List.range s.strips.length).all (fun k => okR s t k (rowV (rows.getD t []) k)) = true
      · rw [if_pos hall, oc_inl, hall, Bool.true_and]
        simp only
        have hca : ix s.carried (t : Int) = some (hOf s.carried t) := ix_nat default ht
        rw [hca, Option.bind_some, Option.bind_some, refOff_eq, Option.bind_some]
        have e9 : inb (sumTo (rowV (rows.getD t [])) s.strips.length) (hOf s.carried t).lo (hOf s.carried t).hi = decide ((hOf s.carried t).lo ≤ sumTo (rowV (rows.getD t [])) s.strips.length ∧ sumTo (rowV (rows.getD t [])) s.strips.length ≤ (hOf s.carried t).hi) := by
          unfold inb; rw [Bool.decide_and]
        rw [e9]
        cases decide ((hOf s.carried t).lo ≤ sumTo (rowV (rows.getD t [])) s.strips.length ∧ sumTo (rowV (rows.getD t [])) s.strips.length ≤ (hOf s.carried t).hi) with
        | false => rfl
        | true => rw [if_neg (by simp), addc_eq (by omega), Option.bind_some]; rfl
      · have hf : (List.range s.strips.length).all (fun k => okR s t k (rowV (rows.getD t []) k)) = false := by simpa using hall
        rw [if_neg hall, oc_inr, hf]; rfl
    · rw [if_neg (by omega)]
      unfold rowR
      rw [decide_eq_false hlen]; rfl
  · unfold zD
    simp only
    rw [if_neg (by omega)]
theorem refFits_eq {s : Scalps} (h : Right s) (rows : List (List Int)) : KH s rows = some (fitsB s rows) := by
  have h6 := h.net.s6; have h5 := h.net.c5
  have hrr : (List.range s.carried.length).all (fun t => rowR s t (rows.getD t [])) = (List.range s.carried.length).all (fun t => rowB s t (rows.getD t [])) := by
    rw [Bool.eq_iff_iff, List.all_eq_true, List.all_eq_true]
    exact ⟨fun a t ht => by rw [← rowR_eq h (List.mem_range.1 ht)]; exact a t ht, fun a t ht => by rw [rowR_eq h (List.mem_range.1 ht)]; exact a t ht⟩
  unfold KH fitsB
  rw [← hrr]
  by_cases hl : rows.length = s.carried.length
  · rw [if_pos (by omega), makec_eq (by omega), Option.bind_some, decide_eq_true hl, Bool.true_and]
    have e : List.replicate (s.strips.length : Int).toNat (0 : Int) = vecS s.strips.length fun _ => 0 := by
      unfold vecS
      symm
      rw [List.eq_replicate_iff]
      exact ⟨by simp, fun b hb => by obtain ⟨t, _, rfl⟩ := List.mem_map.1 hb; rfl⟩
    rw [e, refFits_L0 h6 h5 hl, Option.bind_some]
    by_cases hall : (List.range s.carried.length).all (fun t => rowR s t (rows.getD t [])) = true
    · rw [if_pos hall, oc_inl, hall, Bool.true_and]
      have key := iterM_any0 (f := JF (vecS s.strips.length fun k => sumTo (fun t => shV rows t k) s.carried.length) s) s.strips.length (fun k => !colB s rows k) false (fun k hk => ?_) ?_ (N := FU) (FU_lt (by omega))
      · rw [key, Option.bind_some]
        have e2 : (List.range s.strips.length).all (colB s rows) = !(List.range s.strips.length).any fun k => !colB s rows k := (not_any_not).symm
        rw [e2]
        cases (List.range s.strips.length).any fun k => !colB s rows k <;> rfl
      · unfold JF
        rw [vecS_len, if_pos (by omega), refGone_eq h hk, Option.bind_some, vecS_ix hk, Option.bind_some, refOff_eq, Option.bind_some]
        have e9 : inb (sumTo (fun t => shV rows t k) s.carried.length) (gOf s.strips k).lo (gOf s.strips k).hi = colB s rows k := by
          unfold inb colB; rw [Bool.decide_and]
        rw [e9]
        cases colB s rows k with
        | false => rfl
        | true => rw [if_neg (by simp), addc_eq (by omega), Option.bind_some]; rfl
      · unfold JF
        rw [vecS_len, if_neg (by omega)]
    · have hf : (List.range s.carried.length).all (fun t => rowR s t (rows.getD t [])) = false := by simpa using hall
      rw [if_neg hall, oc_inr, hf]; rfl
  · rw [if_neg (by omega), decide_eq_false hl]; rfl
theorem sum_has {f : Nat → Int} {n : Nat} : ∀ {l : List Int}, l.Nodup → (∀ x, x ∈ l → 0 ≤ x ∧ x < (n : Int)) → sumI (fun x => f x.toNat) l = sumTo (fun v => if hasZ l v = true then f v else 0) n
  | [], _, _ => by
    rw [sumTo_congr (g := fun _ => 0) (fun v _ => by simp [hasZ]), sumTo_zero]; rfl
  | x :: l, hn, hr => by
    obtain ⟨n1, n2⟩ := List.nodup_cons.1 hn
    have hx := hr x (by simp)
    have ih := sum_has (f := f) n2 (fun y hy => hr y (List.mem_cons_of_mem _ hy))
    have e : sumTo (fun v => if hasZ (x :: l) v = true then f v else 0) n = sumTo (fun v => (if v = x.toNat then f v else 0) + (if hasZ l v = true then f v else 0)) n := by
      refine sumTo_congr fun v _ => ?_
      have h1 : hasZ (x :: l) v = (decide ((v : Int) = x) || hasZ l v) := rfl
      rw [h1]
      by_cases hv : (v : Int) = x
      · have hnl : hasZ l v = false := by
          rw [← Bool.not_eq_true, hasZ_iff, hv]; exact n1
        rw [decide_eq_true hv, hnl, if_pos (by simp), if_pos (by omega), if_neg (by simp)]; omega
      · rw [decide_eq_false hv, if_neg (show ¬ v = x.toNat by omega), Bool.false_or]; omega
    rw [e, sumTo_add, sumTo_one (by omega), ← ih]
    rfl
theorem asc_lt {l : List Int} (h : ascB l = true) : ∀ {i j : Nat}, i < j → j < l.length → gtI l i < gtI l j
  | i, 0, h1, _ => by omega
  | i, j + 1, h1, h2 => by
    have hs : gtI l j < gtI l (j + 1) := by
      unfold ascB at h
      exact of_decide_eq_true (List.all_eq_true.1 h j (List.mem_range.2 (by omega)))
    by_cases he : i = j
    · subst he; exact hs
    · have := asc_lt h (i := i) (j := j) (by omega) (by omega); omega
theorem asc_nodup {l : List Int} (h : ascB l = true) : l.Nodup := by
  rw [List.nodup_iff_pairwise_ne, List.pairwise_iff_getElem]
  intro i j hi hj hij he
  have := asc_lt h hij hj
  unfold gtI at this
  rw [List.getD_eq_getElem?_getD, List.getD_eq_getElem?_getD, List.getElem?_eq_getElem hi, List.getElem?_eq_getElem hj] at this
  simp only [Option.getD_some] at this
  omega
theorem reI_reach {st : List Strip} {mp : List (Pair × Bool)} (h : MapOK st mp) {t k : Nat} (hk : k < st.length) : reI mp (t : Int) (k : Int) = reachB st t k := rOf_reach h hk
def sumL (f : Int → Int) (l : List Int) (j : Nat) : Int := sumI f (l.take j)
theorem sumL_succ {f : Int → Int} {l : List Int} {j : Nat} (hj : j < l.length) : sumL f l (j + 1) = sumL f l j + f (gtI l j) := by
  unfold sumL
  rw [List.take_succ_eq_append_getElem hj, sumI_append]
  have : gtI l j = l[j] := by simp [gtI, List.getD_eq_getElem?_getD, hj]
  rw [this]
  simp [sumI]
theorem sumI_bd {f : Int → Int} {b : Int} : ∀ {l : List Int}, (∀ x, x ∈ l → 0 ≤ f x ∧ f x ≤ b) → 0 ≤ sumI f l ∧ sumI f l ≤ b * (l.length : Int)
  | [], _ => by simp [sumI]
  | x :: l, h => by
    have h1 := h x (by simp)
    have h2 := sumI_bd (l := l) (fun y hy => h y (List.mem_cons_of_mem _ hy))
    have e : sumI f (x :: l) = f x + sumI f l := rfl
    rw [e]
    simp only [List.length_cons]
    push_cast
    rw [Int.mul_add]
    omega
end Go.Proofs.Ws

namespace Go.Proofs.Ws
open Go Go.Fw Go.Gx Go.Sp
set_option linter.unusedVariables false
def lkR (s : Scalps) (b : Bool) (n : Nat) (x : Int) : Bool := if b = true then reachB s.strips x.toNat n else reachB s.strips n x.toNat
def lkN (s : Scalps) (b : Bool) (x : Int) : Int := if b = true then (hOf s.carried x.toNat).lo else (gOf s.strips x.toNat).lo
def lkC (s : Scalps) (b : Bool) (l : List Int) (n : Nat) : Int := if l.any (lkR s b n) = true then (if b = true then (gOf s.strips n).hi else (hOf s.carried n).hi) else 0
theorem refLacks_L4 {s : Scalps} (h : Right s) {b : Bool} {l : List Int} (hl : l.length < 100000) (hin : ∀ x, x ∈ l → 0 ≤ x ∧ x < (if b = true then (s.carried.length : Int) else (s.strips.length : Int))) {z : qh} {n : Nat} (hz : z.n14 = (n : Int)) (hn : b = true → n < s.strips.length) :
    iterM FU (yR l b s z) ⟨false, 0⟩ = some (l.any (lkR s b n)) := by
  have h6 := h.net.s6
  have key := iterM_run (f := yR l b s z) (fun j => ⟨(l.take j).any (lkR s b n), (j : Int)⟩) l.length (b := l.any (lkR s b n)) (fun j hj => ?_) ?_ FU (FU_lt (by omega))
  · exact key
  · unfold yR
    have hlt : (j : Int) < (l.length : Int) := by omega
    simp only
    rw [if_pos hlt]
    have hm : gtI l j ∈ l := by
      have : gtI l j = l[j] := by simp [gtI, List.getD_eq_getElem?_getD, hj]
      rw [this]; exact List.getElem_mem hj
    have hr := hin _ hm
    have hix : ix l (j : Int) = some (gtI l j) := ix_nat 0 hj
    have hxn : gtI l j = ((gtI l j).toNat : Int) := by omega
    have hb : (if (l.take j).any (lkR s b n) = true then (some true : Option Bool) else if b = true then (ix l (j : Int)).bind fun t109 => (j5 s t109 z.n14).bind fun t112 => if t112 = true then some true else if (!b) = true then (ix l (j : Int)).bind fun t123 => (j5 s z.n14 t123).bind fun t125 => some t125 else some false else if (!b) = true then (ix l (j : Int)).bind fun t123_1 => (j5 s z.n14 t123_1).bind fun t125_1 => some t125_1 else some false) = some ((l.take (j + 1)).any (lkR s b n)) := by
      rw [take_any 0 hj]
      refine orO ?_
      rw [hix, hz]
      show _ = some (lkR s b n (gtI l j))
      unfold lkR
      cases b with
      | true =>
        rw [if_pos rfl, if_pos rfl, Option.bind_some]
        have e : j5 s (gtI l j) (n : Int) = some (reachB s.strips (gtI l j).toNat n) := by
          conv => lhs; rw [hxn]
          exact refReaches_eq (by omega) (hn rfl)
        rw [e, Option.bind_some]
        cases reachB s.strips (gtI l j).toNat n <;> rfl
      | false =>
        simp only [Bool.false_eq_true, if_false] at hr
        rw [if_neg (by simp), if_pos (show (!false) = true from rfl), Option.bind_some, if_neg (by simp)]
        have e : j5 s (n : Int) (gtI l j) = some (reachB s.strips n (gtI l j).toNat) := by
          conv => lhs; rw [hxn]
          exact refReaches_eq (by omega) (by omega)
        rw [e]; rfl
    rw [hb, Option.bind_some, addc_eq (by omega), Option.bind_some]
    rfl
  · unfold yR
    simp
theorem lkC_bd {s : Scalps} (h : Right s) {b : Bool} {l : List Int} {n : Nat} (hn : if b = true then n < s.strips.length else n < s.carried.length) : 0 ≤ lkC s b l n ∧ lkC s b l n ≤ 60 := by
  unfold lkC
  cases b with
  | true =>
    simp only [if_true] at hn ⊢
    have := gOf_ok h.net hn
    split <;> omega
  | false =>
    simp only [Bool.false_eq_true, if_false] at hn ⊢
    have := hOf_ok h.net hn
    split <;> omega
theorem refLacks_L3 {s : Scalps} (h : Right s) {b : Bool} {l : List Int} (hl : l.length < 100000) {o : Int} (ho : o = (if b = true then (s.carried.length : Int) else (s.strips.length : Int))) (hin : ∀ x, x ∈ l → 0 ≤ x ∧ x < o) :
    iterM FU (yO s o l b) ⟨0, 0⟩ = some (sumTo (lkC s b l) (if b = true then s.strips.length else s.carried.length)) := by
  have h6 := h.net.s6; have h5 := h.net.c5
  generalize hN : (if b = true then s.strips.length else s.carried.length) = N
  have hN11 : N ≤ 11 := by rw [← hN]; split <;> omega
  have hNe : (s.strips.length : Int) + (s.carried.length : Int) - o = (N : Int) := by rw [ho, ← hN]; split <;> omega
  have hbn : ∀ n, n < N → (if b = true then n < s.strips.length else n < s.carried.length) := fun n hn => by
    rw [← hN] at hn
    cases b <;> simpa using hn
  have key := iterM_run (f := yO s o l b) (fun n => ⟨sumTo (lkC s b l) n, (n : Int)⟩) N (b := sumTo (lkC s b l) N) (fun n hn => ?_) ?_ FU (FU_lt (by omega))
  · exact key
  · unfold yO
    have hbd := sumTo_bound (f := lkC s b l) (b := 60) (n := n) (fun i hi => lkC_bd h (hbn i (by omega)))
    have hcb := lkC_bd h (l := l) (hbn n hn)
    have hle : 0 ≤ o ∧ o ≤ 6 := by rw [ho]; split <;> omega
    simp only
    rw [addc_eq (by omega), Option.bind_some, subc_eq (by omega), Option.bind_some, hNe, if_pos (by omega), refLacks_L4 h hl (by rw [← ho]; exact hin) rfl (fun hb => by have := hbn n hn; rw [if_pos hb] at this; exact this), Option.bind_some]
    have hfin : ∀ c : Int, c = sumTo (lkC s b l) (n + 1) → ((some c : Option Int).bind fun o_6 => (addc (n : Int) 1).bind fun t95 => (some (.inl (⟨o_6, t95⟩ : qh)) : Option (qh ⊕ Int))) = some (.inl ⟨sumTo (lkC s b l) (n + 1), ((n + 1 : Nat) : Int)⟩) := fun c hc => by
      rw [Option.bind_some, addc_eq (by omega), Option.bind_some, hc]; rfl
    have hs1 : sumTo (lkC s b l) (n + 1) = sumTo (lkC s b l) n + lkC s b l n := rfl
    have hbn' := hbn n hn
    cases hany : l.any (lkR s b n) with
    | false =>
      have hc0 : lkC s b l n = 0 := by unfold lkC; rw [hany]; rfl
      rw [if_neg (by simp), Option.bind_some, if_neg (by simp), Option.bind_some, if_neg (by simp), Option.bind_some, if_neg (by simp)]
      exact hfin _ (by rw [hs1, hc0]; omega)
    | true =>
      rw [if_pos rfl, if_pos rfl]
      cases b with
      | true =>
        simp only [if_true] at hbn'
        have hc0 : lkC s true l n = (gOf s.strips n).hi := by unfold lkC; rw [hany]; rfl
        rw [Option.bind_some, if_pos rfl, refGone_eq h hbn', Option.bind_some, addc_eq (by rw [← hc0]; omega), Option.bind_some, Option.bind_some, Option.bind_some, if_neg (by simp)]
        exact hfin _ (by rw [hs1, hc0])
      | false =>
        simp only [Bool.false_eq_true, if_false] at hbn'
        have hc0 : lkC s false l n = (hOf s.carried n).hi := by unfold lkC; rw [hany]; rfl
        have hca : ix s.carried (n : Int) = some (hOf s.carried n) := ix_nat default hbn'
        rw [Option.bind_some, if_neg (by simp), Option.bind_some, Option.bind_some, if_pos (show (!false) = true from rfl), hca, Option.bind_some, addc_eq (by rw [← hc0]; omega), Option.bind_some]
        exact hfin _ (by rw [hs1, hc0])
  · unfold yO
    have hle : 0 ≤ o ∧ o ≤ 6 := by rw [ho]; split <;> omega
    simp only
    rw [addc_eq (by omega), Option.bind_some, subc_eq (by omega), Option.bind_some, hNe, if_neg (by omega)]
theorem refLacks_L2 {s : Scalps} (h : Right s) {b : Bool} {l : List Int} (hl : l.length < 100000) (hin : ∀ x, x ∈ l → 0 ≤ x ∧ x < (if b = true then (s.carried.length : Int) else (s.strips.length : Int))) :
    iterM FU (yL l b s) ⟨0, 0⟩ = some (sumI (lkN s b) l) := by
  have hbd : ∀ x, x ∈ l → 0 ≤ lkN s b x ∧ lkN s b x ≤ 60 := fun x hx => by
    have hr := hin x hx
    unfold lkN
    cases b with
    | true =>
      simp only [if_true] at hr ⊢
      have := hOf_ok h.net (show x.toNat < s.carried.length by omega); omega
    | false =>
      simp only [Bool.false_eq_true, if_false] at hr ⊢
      have := gOf_ok h.net (show x.toNat < s.strips.length by omega); omega
  have key := iterM_run (f := yL l b s) (fun j => ⟨sumL (lkN s b) l j, (j : Int)⟩) l.length (b := sumI (lkN s b) l) (fun j hj => ?_) ?_ FU (FU_lt (by omega))
  · exact key
  · unfold yL
    have hm : gtI l j ∈ l := by
      have : gtI l j = l[j] := by simp [gtI, List.getD_eq_getElem?_getD, hj]
      rw [this]; exact List.getElem_mem hj
    have hr := hin _ hm
    have hb1 := hbd _ hm
    have hb2 := sumI_bd (f := lkN s b) (b := 60) (l := l.take j) (fun x hx => hbd x (List.mem_of_mem_take hx))
    rw [List.length_take] at hb2
    have hb3 : 0 ≤ sumL (lkN s b) l j ∧ sumL (lkN s b) l j ≤ 6000000 := by
      unfold sumL; omega
    have hix : ix l (j : Int) = some (gtI l j) := ix_nat 0 hj
    have hxn : gtI l j = ((gtI l j).toNat : Int) := by omega
    simp only
    rw [if_pos (by omega), hix]
    have e : (if b = true then (some (gtI l j) : Option Int).bind fun t68 => (ix s.carried t68).bind fun t70 => (addc (sumL (lkN s b) l j) t70.lo).bind fun t73 => some t73 else (some (gtI l j)).bind fun t78 => (zK s t78).bind fun t80 => (addc (sumL (lkN s b) l j) t80.lo).bind fun t82 => some t82) = some (sumL (lkN s b) l (j + 1)) := by
      rw [sumL_succ hj]
      cases b with
      | true =>
        simp only [if_true] at hr
        have e1 : lkN s true (gtI l j) = (hOf s.carried (gtI l j).toNat).lo := rfl
        have hca : ix s.carried (gtI l j) = some (hOf s.carried (gtI l j).toNat) := ix_eq default hr.1 hr.2
        rw [if_pos rfl, Option.bind_some, hca, Option.bind_some, addc_eq (by rw [← e1]; omega), Option.bind_some, e1]
      | false =>
        simp only [Bool.false_eq_true, if_false] at hr
        have e1 : lkN s false (gtI l j) = (gOf s.strips (gtI l j).toNat).lo := rfl
        have hca : zK s (gtI l j) = some (gOf s.strips (gtI l j).toNat) := by
          conv => lhs; rw [hxn]
          exact refGone_eq h (by omega)
        rw [if_neg (by simp), Option.bind_some, hca, Option.bind_some, addc_eq (by rw [← e1]; omega), Option.bind_some, e1]
    rw [e, Option.bind_some, addc_eq (by omega), Option.bind_some]
    rfl
  · unfold yL
    simp [sumL]
theorem refLacks_L0 {l : List Int} {o : Int} (hl : l.length < 100000) (ho : 0 ≤ o ∧ o ≤ 1000) : iterM FU (yT l o) 0 = some (if (l.all fun x => inb x 0 (o - 1)) = true then .inl () else .inr ⟨0, 1⟩) := by
  have key := iterM_any0 (f := yT l o) l.length (fun k => !inb (gtI l k) 0 (o - 1)) ⟨0, 1⟩ (fun k hk => ?_) ?_ (N := FU) (FU_lt (by omega))
  · rw [key]
    have e : (List.range l.length).any (fun k => !inb (gtI l k) 0 (o - 1)) = l.any fun x => !inb x 0 (o - 1) := any_range (l := l) (d := 0) (p := fun x => !inb x 0 (o - 1))
    rw [e, ← not_any_not]
    cases l.any fun x => !inb x 0 (o - 1) <;> rfl
  · unfold yT
    rw [if_pos (by omega), ix_nat 0 hk, Option.bind_some, subc_eq (by omega), Option.bind_some, refOff_eq, Option.bind_some]
    show _ = some (if (!inb (gtI l k) 0 (o - 1)) = true then _ else _)
    have : l.getD k 0 = gtI l k := rfl
    rw [this]
    cases inb (gtI l k) 0 (o - 1) with
    | true => rw [if_neg (by simp), addc_eq (by omega), Option.bind_some]; rfl
    | false => rfl
  · unfold yT
    rw [if_neg (by omega)]
theorem refLacks_L1 {l : List Int} (hl : l.length < 100000) : iterM FU (yM l) 1 = some (if ascB l = true then .inl () else .inr ⟨0, 4⟩) := by
  have key := iterM_any (f := yM l) 1 (l.length - 1) (fun j => !decide (gtI l j < gtI l (j + 1))) (fun _ => (⟨0, 4⟩ : kP)) (fun j hj => ?_) ?_ (N := FU) (FU_lt (by omega))
  · rw [key]
    have e : ascB l = ((List.range (l.length - 1)).find? fun j => !decide (gtI l j < gtI l (j + 1))).isNone := by
      unfold ascB; exact all_find
    rw [e]
    cases (List.range (l.length - 1)).find? fun j => !decide (gtI l j < gtI l (j + 1)) <;> rfl
  · unfold yM
    have i1 : ix l (1 + (j : Int)) = some (gtI l (j + 1)) := by
      rw [show 1 + (j : Int) = ((j + 1 : Nat) : Int) by push_cast; omega]
      exact ix_nat 0 (by omega)
    have i2 : ix l (j : Int) = some (gtI l j) := ix_nat 0 (by omega)
    rw [if_pos (by omega), i1, Option.bind_some, subc_eq (by omega), Option.bind_some, show 1 + (j : Int) - 1 = (j : Int) by omega, i2, Option.bind_some]
    by_cases hle : gtI l (j + 1) ≤ gtI l j
    · rw [if_pos hle, decide_eq_false (by omega)]; rfl
    · rw [if_neg hle, decide_eq_true (by omega), addc_eq (by omega), Option.bind_some]; rfl
  · unfold yM
    rw [if_neg (by omega)]
theorem any_congr {α : Type} {l : List α} {p q : α → Bool} (h : ∀ x, x ∈ l → p x = q x) : l.any p = l.any q := by
  rw [Bool.eq_iff_iff, List.any_eq_true, List.any_eq_true]
  exact ⟨fun ⟨x, a, b⟩ => ⟨x, a, by rw [← h x a]; exact b⟩, fun ⟨x, a, b⟩ => ⟨x, a, by rw [h x a]; exact b⟩⟩
theorem refLacks_eq {s : Scalps} (h : Right s) {mp : List (Pair × Bool)} (hm : MapOK s.strips mp) {l : Lack} (hl : l.of_.length < 100000) : KX s l.tenants l.of_ = some ⟨(showR s mp l).r0, (showR s mp l).r1⟩ := by
  have h6 := h.net.s6; have h5 := h.net.c5
  unfold KX
  have ho : (if l.tenants = true then (some (s.carried.length : Int) : Option Int) else some (s.strips.length : Int)) = some (manyL s l) := by unfold manyL; split <;> rfl
  have hob : 0 ≤ manyL s l ∧ manyL s l ≤ 1000 := by unfold manyL; split <;> omega
  rw [ho, Option.bind_some, refLacks_L0 hl hob, Option.bind_some]
  unfold showR
  by_cases hall : (l.of_.all fun x => inb x 0 (manyL s l - 1)) = true
  · rw [if_pos hall, if_pos hall, oc_inl, refLacks_L1 hl, Option.bind_some]
    by_cases hasc : ascB l.of_ = true
    · rw [if_pos hasc, oc_inl, hasc, Bool.and_true]
      by_cases h0 : l.of_.length = 0
      · rw [if_pos (by omega), if_neg (by simp [h0])]
      · have hin : ∀ x, x ∈ l.of_ → 0 ≤ x ∧ x < manyL s l := fun x hx => by
          have := inb_iff.1 (List.all_eq_true.1 hall x hx); omega
        rw [if_neg (by omega), if_pos (decide_eq_true h0), refLacks_L2 h hl (b := l.tenants) hin, Option.bind_some, refLacks_L3 h hl (o := manyL s l) rfl hin, Option.bind_some]
        have hnd := asc_nodup hasc
        have hv : sumI (lkN s l.tenants) l.of_ - sumTo (lkC s l.tenants l.of_) (if l.tenants = true then s.strips.length else s.carried.length) = lackV s mp l := by
          unfold lackV
          unfold manyL at hin
          cases hb : l.tenants with
          | true =>
            rw [hb] at hin
            simp only [if_true] at hin ⊢
            have e1 : sumI (lkN s true) l.of_ = sumTo (needT s l.of_) s.carried.length := sum_has (f := fun v => (hOf s.carried v).lo) hnd hin
            rw [e1]
            congr 1
            refine sumTo_congr fun k hk => ?_
            unfold lkC canT
            rw [any_congr (q := fun t => reI mp t (k : Int)) (fun x hx => ?_)]
            · rfl
            · have := hin x hx
              show reachB s.strips x.toNat k = _
              rw [← reI_reach hm hk, show ((x.toNat : Nat) : Int) = x by omega]
          | false =>
            rw [hb] at hin
            simp only [Bool.false_eq_true, if_false] at hin ⊢
            have e1 : sumI (lkN s false) l.of_ = sumTo (needK s l.of_) s.strips.length := sum_has (f := fun v => (gOf s.strips v).lo) hnd hin
            rw [e1]
            congr 1
            refine sumTo_congr fun t ht => ?_
            unfold lkC canK
            rw [any_congr (q := fun k => reI mp (t : Int) k) (fun x hx => ?_)]
            · rfl
            · have := hin x hx
              show reachB s.strips t x.toNat = _
              rw [← reI_reach hm (show x.toNat < s.strips.length by omega), show ((x.toNat : Nat) : Int) = x by omega]
        have hb1 := sumI_bd (f := lkN s l.tenants) (b := 60) (l := l.of_) (fun x hx => by
          have hr := hin x hx
          unfold manyL at hr
          unfold lkN
          cases hb : l.tenants with
          | true =>
            rw [hb] at hr
            simp only [if_true] at hr ⊢
            have := hOf_ok h.net (show x.toNat < s.carried.length by omega); omega
          | false =>
            rw [hb] at hr
            simp only [Bool.false_eq_true, if_false] at hr ⊢
            have := gOf_ok h.net (show x.toNat < s.strips.length by omega); omega)
        have hb2 := sumTo_bound (f := lkC s l.tenants l.of_) (b := 60) (n := if l.tenants = true then s.strips.length else s.carried.length) (fun i hi => lkC_bd h (by
          cases hb : l.tenants <;> simpa [hb] using hi))
        have hb3 : (((if l.tenants = true then s.strips.length else s.carried.length : Nat)) : Int) ≤ 6 := by split <;> omega
        by_cases hle : lackV s mp l < 1
        · rw [if_pos hle, if_pos (by omega)]
        · rw [if_neg hle, if_neg (by omega), subc_eq (by omega), Option.bind_some, hv]
    · have hf : ascB l.of_ = false := by simpa using hasc
      rw [if_neg hasc, oc_inr, hf, Bool.and_false, if_neg (by simp)]
  · rw [if_neg hall, if_neg hall, oc_inr]
end Go.Proofs.Ws

namespace Go.Proofs.Ws
open Go Go.Fw Go.Gx Go.Sp
set_option linter.unusedVariables false
theorem stB_all (s : Scalps) : (fun t k => cnt (stB s (-1) (-1) t k)) = thC s := by
  funext t k
  unfold thC stB
  rfl
theorem range_theft {s : Scalps} (h : Right s) (hN : stepN s.carried s.carried.length ≤ 500) : ∃ cb, Jv s (-1) (-1) = some cb ∧ ((∃ lo hi, z7 s cb = some ⟨lo, hi, true⟩ ∧ IsRange s (thC s) lo hi) ∨ (z7 s cb = some ⟨0, 0, false⟩ ∧ NoFit s)) := by
  have h6 := h.net.s6; have h5 := h.net.c5
  refine ⟨_, refStolen_eq (by omega) (by omega) (-1) (-1), ?_⟩
  have := Range_spec h (by omega) (bt := stB s (-1) (-1)) (fun t k ht hk => rows_ix (b := stB s (-1) (-1)) ht hk)
  rw [stB_all] at this
  exact this
theorem StripShares_true {s : Scalps} (hs : s.strips.length ≤ 9223372036854775807) (hc : s.carried.length ≤ 9223372036854775807) : zk s = some true := by
  unfold zk
  obtain ⟨b, hb, hw⟩ := wide_spec hc
  rw [hb, Option.bind_some]
  cases b with
  | true => rw [if_pos rfl, awake_eq]; rfl
  | false =>
    obtain ⟨hS, hT, hN⟩ := hw rfl
    rw [if_neg (by simp), own_eq (by omega) (by omega), Option.bind_some, theirs_eq (by omega) (by omega), Option.bind_some, Option.bind_some]
    dsimp only
    rw [refCheck_eq (by omega) (by omega), Option.bind_some]
    by_cases hk : chk s = 0
    · have hR := right_of hk
      obtain ⟨cb, hcb, hrg⟩ := range_theft hR (hN hR)
      obtain ⟨mp, hmp, hm⟩ := JZ hR
      rw [hk, if_pos rfl, hcb, Option.bind_some]
      rcases hrg with ⟨lo, hi, hrg, hr⟩ | ⟨hrg, hno⟩
      · rcases Least_spec hR with ⟨lo', hi', ya, hL, hya, hca, hr1⟩ | ⟨_, hn⟩
        · rcases Most_spec hR with ⟨lo2, hi2, yb, hM, hyb, hcb2, hr2⟩ | ⟨_, hn⟩
          · obtain ⟨rfl, rfl⟩ := hr.uniq hr1
            obtain ⟨rfl, rfl⟩ := hr.uniq hr2
            rcases Lacks_spec hR hmp hm with ⟨hLk, _⟩ | ⟨l, _, hn, _⟩
            · rw [hrg, Option.bind_some]
              dsimp only
              rw [if_neg (by simp), Option.bind_some, Shares_of hL, Option.bind_some, hL, Option.bind_some, hM, Option.bind_some, hLk, Option.bind_some]
              dsimp only
              rw [if_pos rfl, if_pos rfl, if_pos rfl, if_pos rfl, if_pos rfl, if_pos rfl, Option.bind_some, if_neg (by simp), if_neg (by decide), if_neg (by simp), Option.bind_some, if_neg (by simp), Option.bind_some, oc_inl, if_pos rfl, refFits_eq hR, (fitsB_mat hR).2 hya, Option.bind_some, if_neg (by simp), Option.bind_some, if_neg (by simp), refFits_eq hR, (fitsB_mat hR).2 hyb, Option.bind_some, if_neg (by simp), sumTo_theft hR hya, Option.bind_some, if_pos hca, sumTo_theft hR hyb, Option.bind_some, if_pos hcb2, same_self (by omega) (by omega), Option.bind_some, if_pos rfl, awake_eq]
              rfl
            · exact absurd hya (hn ya)
          · exact absurd hya (hn ya)
        · obtain ⟨⟨y, hy, _⟩, _⟩ := hr
          exact absurd hy (hn y)
      · rcases Least_spec hR with ⟨lo', hi', ya, hL, hya, hca, hr1⟩ | ⟨hL, _⟩
        · exact absurd hya (hno ya)
        · rcases Most_spec hR with ⟨lo2, hi2, yb, hM, hyb, hcb2, hr2⟩ | ⟨hM, _⟩
          · exact absurd hyb (hno yb)
          · rcases Lacks_spec hR hmp hm with ⟨_, y, hy⟩ | ⟨l, hLk, _, hl6, hl1, hall, hasc⟩
            · exact absurd hy (hno y)
            · have hsh : showR s mp l = ⟨lackV s mp l, 0⟩ := by
                unfold showR
                rw [if_pos hall, if_pos hasc, if_neg (by omega)]
              rw [hrg, Option.bind_some]
              dsimp only
              rw [if_pos (show (!false) = true from rfl), Option.bind_some, Shares_of hL, Option.bind_some, hL, Option.bind_some, hM, Option.bind_some, hLk, Option.bind_some]
              dsimp only
              rw [if_pos rfl, if_pos rfl, if_pos rfl, if_pos rfl, if_pos rfl, if_pos rfl, Option.bind_some, decide_eq_false (by omega), if_neg (by simp), if_pos rfl, refLacks_eq hR hm (by omega), Option.bind_some, hsh]
              dsimp only
              rw [if_pos rfl, Option.bind_some, decide_eq_false (by omega), if_neg (by simp), Option.bind_some, oc_inl, if_neg (by decide), addc_eq (by simp), Option.bind_some, addc_eq (by simp), Option.bind_some, if_pos (by simp), same_self (by omega) (by omega), Option.bind_some, if_pos rfl, awake_eq]
              rfl
    · rw [if_neg hk, Option.bind_some, Shares_of (Least_wrong hk), Option.bind_some, Least_wrong hk, Option.bind_some, Most_wrong hk, Option.bind_some, Lacks_wrong hk, Option.bind_some]
      dsimp only
      rw [if_pos rfl, if_pos rfl, if_pos rfl, if_pos rfl, if_pos rfl, if_pos rfl, Option.bind_some, if_neg (by simp), if_neg hk, if_neg (by simp), Option.bind_some, if_neg (by simp), Option.bind_some, oc_inl, if_neg hk, addc_eq (by simp), Option.bind_some, addc_eq (by simp), Option.bind_some, if_pos (by simp), same_self (by omega) (by omega), Option.bind_some, if_pos rfl, awake_eq]
      rfl
end Go.Proofs.Ws

namespace Go.Gx
open Go Go.Fw Go.RowKit
section
variable {H : Type} {enc : TypeId × Value → H} {P : Program} {w : World} {base : Nat} {sp : Nat → Bool} {held : Bool}
def Opens (enc : TypeId × Value → H) (P : Program) (w : World) (base : Nat) (sp : Nat → Bool) (held : Bool) {α : Type} (R : Row α) (wf : α → Prop) (t : TypeId) : Prop :=
  ∀ fuel cs x, DataW.trod enc P w base sp held fuel t cs = some x → ∃ a, cs = R.cells a ∧ wf a
def i64P (n : Int) : Prop := -9223372036854775808 ≤ n ∧ n ≤ 9223372036854775807
theorem wf_i64P {n : Int} (h : (Lit.int .i64 n).wf = true) : i64P n := by
  simp [Lit.wf, IntKind.min, IntKind.max, IntKind.signed, IntKind.bits] at h
  unfold i64P; omega
theorem opens_i64 {t : TypeId} (ht : P.underlying t = some (.int .i64)) : Opens enc P w base sp held RI i64P t := fun fuel cs x h => by
  obtain ⟨n, rfl, _, hw⟩ := DataW.trod_int ht h
  exact ⟨n, rfl, wf_i64P hw⟩
theorem fieldAt {fs : Array Field} {t : TypeId} {fuel : Nat} {cs : List Value} {x : DataW H × List MemPlace} (ht : P.underlying t = some (.struct fs)) (h : DataW.trod enc P w base sp held fuel t cs = some x) {α : Type} {R : Row α} {wf : α → Prop} (i : Nat) {T o k : Nat}
    (hf : (fs[i]?).map (fun fd => (fd.type, fd.offset)) = some (T, o)) (hk : P.cellsOf T = k) (hR : Opens enc P w base sp held R wf T) : ∃ a, (cs.drop o).take k = R.cells a ∧ wf a := by
  obtain ⟨xs, n, rfl, _, hlen, hxl, hx⟩ := DataW.trod_struct ht h
  obtain ⟨fd, hfd, he⟩ : ∃ fd, fs[i]? = some fd ∧ (fd.type, fd.offset) = (T, o) := by
    cases hh : fs[i]? with
    | none => simp [hh] at hf
    | some fd => exact ⟨fd, rfl, by simpa [hh] using hf⟩
  simp only [Prod.mk.injEq] at he
  obtain ⟨rfl, rfl⟩ := he
  have h1 := hx i fd hfd
  rw [hk] at h1
  have hi : i < xs.length := by rw [hxl]; exact (Array.getElem?_eq_some_iff.1 hfd).1
  rw [List.getElem?_eq_getElem hi] at h1
  exact hR _ _ _ h1
theorem structLen {fs : Array Field} {t : TypeId} {fuel : Nat} {cs : List Value} {x : DataW H × List MemPlace} (ht : P.underlying t = some (.struct fs)) (h : DataW.trod enc P w base sp held fuel t cs = some x) : cs.length = P.cellsOf t := by
  obtain ⟨xs, n, _, _, hlen, _⟩ := DataW.trod_struct ht h
  exact hlen
structure SlIn {α : Type} (R : Row α) (wf : α → Prop) (w : World) (v : Value) (A : Option Addr) (n c : Nat) (l : List α) : Prop where
  val : v = .slice A n c
  len : l.length = n
  ok : AOK n A
  le : n ≤ c
  max : c ≤ maxLen
  seg : segOK w (aB A, aO A, R.enc l)
  wf : ∀ x, x ∈ l → wf x
theorem choose_list {α : Type} {p : Nat → α → Prop} : ∀ (n : Nat), (∀ i, i < n → ∃ a, p i a) → ∃ l : List α, l.length = n ∧ ∀ i (h : i < l.length), p i l[i]
  | 0, _ => ⟨[], rfl, fun i h => by simp at h⟩
  | n + 1, h => by
    obtain ⟨l, hl, hp⟩ := choose_list n (fun i hi => h i (by omega))
    obtain ⟨a, ha⟩ := h n (by omega)
    refine ⟨l ++ [a], by simp [hl], fun i hi => ?_⟩
    by_cases hil : i < l.length
    · rw [List.getElem_append_left hil]; exact hp i hil
    · have : i = l.length := by simp at hi; omega
      subst this
      rw [List.getElem_append_right (by omega)]
      simp only [Nat.sub_self, List.getElem_cons_zero]
      rw [hl]; exact ha
theorem openSl {α : Type} {R : Row α} {wf : α → Prop} {t e : TypeId} (ht : P.underlying t = some (.slice e)) (hc : P.cellsOf e = R.sz) (hR : Opens enc P w base sp held R wf e) (h0 : Nat.blt 0 R.sz = true)
    {fuel : Nat} {cs : List Value} {x : DataW H × List MemPlace} (h : DataW.trod enc P w base sp held fuel t cs = some x) : ∃ (v : Value) (A : Option Addr) (n c : Nat) (l : List α), cs = [v] ∧ SlIn R wf w v A n c l := by
  have hsz : 0 < R.sz := by simpa using h0
  rcases Go.Deep.open_slice ht h with ⟨rfl, _⟩ | ⟨a, len, cap, m, n, D, Pl, rfl, hb, hl, hm, hmm, _, hi⟩
  · exact ⟨_, none, 0, 0, [], rfl, rfl, rfl, AOK.nil, Nat.le_refl _, Nat.zero_le _, segOK.nil, by simp⟩
  · have hlm : len ≤ m := by rw [hmm]; split <;> omega
    have hcell : ∀ i, i < len → ∃ x : α, (∀ f (hf : f < (R.cells x).length), w.cell? (a.add (i * R.sz + f)) = some (R.cells x)[f]) ∧ wf x := fun i hil => by
      obtain ⟨cs', h1, h2⟩ := hi i (by omega)
      obtain ⟨x, rfl, hw⟩ := hR _ _ _ h2
      obtain ⟨_, _, hat⟩ := World.cells?_some h1
      refine ⟨x, fun f hf => ?_, hw⟩
      have := hat f (by rw [hc, ← R.len x]; exact hf)
      rw [hc] at this
      rw [List.getElem?_eq_getElem hf] at this
      have e : (a.add (i * R.sz)).add f = a.add (i * R.sz + f) := by
        unfold Addr.add
        by_cases h1 : i * R.sz = 0
        · simp [h1]
        · by_cases h2 : f = 0
          · simp [h2]
          · simp [h1, h2, Nat.add_assoc]
      rw [e] at this
      exact this
    obtain ⟨l, hll, hlp⟩ := choose_list len hcell
    have hspot : 0 < len → a.spot = none := fun h0 => by
      obtain ⟨x, hx, _⟩ := hcell 0 h0
      have := World.cell?_spot (hx 0 (by rw [R.len]; exact hsz))
      simpa [Addr.add] using this
    refine ⟨_, some a, len, cap, l, rfl, rfl, hll, fun h0 => ?_, hl, hm, fun j hj => ?_, fun x hx => ?_⟩
    · obtain ⟨b, o, s⟩ := a
      have := hspot h0
      simp only at this
      subst this
      exact ⟨b, o, rfl⟩
    · have hj' : j < l.length * R.sz := by rw [← R.enc_len]; exact hj
      have hpos : 0 < len := by
        rcases Nat.eq_zero_or_pos len with h | h
        · rw [hll, h, Nat.zero_mul] at hj'; omega
        · exact h
      obtain ⟨b, o, s⟩ := a
      have hs := hspot hpos
      simp only at hs
      subst hs
      have hq : j / R.sz < l.length := Nat.div_lt_of_lt_mul (by rw [Nat.mul_comm]; exact hj')
      have hr : j % R.sz < R.sz := Nat.mod_lt _ hsz
      have hd : j / R.sz * R.sz + j % R.sz = j := by rw [Nat.mul_comm]; exact Nat.div_add_mod j R.sz
      have h1 := (hlp (j / R.sz) hq).1 (j % R.sz) (by rw [R.len]; exact hr)
      rw [hd] at h1
      have h2 := R.enc_get l (j / R.sz) (j % R.sz) l[j / R.sz] (List.getElem?_eq_getElem hq) hr
      rw [hd] at h2
      have h3 : (⟨b, o, none⟩ : Addr).add j = ⟨b, o + j, none⟩ := addr_add b o j
      rw [h3] at h1
      simp only [aB, aO, Option.map_some, Option.getD_some]
      rw [h1, ← List.getElem?_eq_getElem, ← h2, List.getElem?_eq_getElem hj]
    · obtain ⟨i, hi', rfl⟩ := List.getElem_of_mem hx
      exact (hlp i hi').2
theorem fieldSl {fs : Array Field} {t : TypeId} {fuel : Nat} {cs : List Value} {x : DataW H × List MemPlace} (ht : P.underlying t = some (.struct fs)) (h : DataW.trod enc P w base sp held fuel t cs = some x) {α : Type} {R : Row α} {wf : α → Prop} (i : Nat) {T o e : Nat}
    (hf : (fs[i]?).map (fun fd => (fd.type, fd.offset)) = some (T, o)) (hk : P.cellsOf T = 1) (hT : P.underlying T = some (.slice e)) (hc : P.cellsOf e = R.sz) (hR : Opens enc P w base sp held R wf e) (h0 : Nat.blt 0 R.sz = true) :
    ∃ (v : Value) (A : Option Addr) (n c : Nat) (l : List α), (cs.drop o).take 1 = [v] ∧ SlIn R wf w v A n c l := by
  obtain ⟨xs, m, rfl, _, hlen, hxl, hx⟩ := DataW.trod_struct ht h
  obtain ⟨fd, hfd, he⟩ : ∃ fd, fs[i]? = some fd ∧ (fd.type, fd.offset) = (T, o) := by
    cases hh : fs[i]? with
    | none => simp [hh] at hf
    | some fd => exact ⟨fd, rfl, by simpa [hh] using hf⟩
  simp only [Prod.mk.injEq] at he
  obtain ⟨rfl, rfl⟩ := he
  have h1 := hx i fd hfd
  rw [hk] at h1
  have hi : i < xs.length := by rw [hxl]; exact (Array.getElem?_eq_some_iff.1 hfd).1
  rw [List.getElem?_eq_getElem hi] at h1
  exact openSl hT hc hR h0 h1
theorem HV.begin {ro : List Sg} (h : ∀ s, s ∈ ro → segOK w s) : HV w (keys [] []) [] [] ro w :=
  ⟨rfl, rfl, rfl, Nat.le_refl _, fun _ _ _ => rfl, by simp [vbl], by simp [vbl], by simp [vbl], h, by simp [vbl]⟩
theorem segCons {s : Sg} {ro : List Sg} (h : segOK w s) (hr : ∀ t, t ∈ ro → segOK w t) : ∀ t, t ∈ s :: ro → segOK w t := fun t ht => by
  rcases List.mem_cons.1 ht with rfl | ht
  · exact h
  · exact hr t ht
theorem segNil : ∀ t, t ∈ ([] : List Sg) → segOK w t := fun t ht => by cases ht
theorem HV.below {w' : World} (h : HV w (keys [] []) [] [] [] w') : Below w.heap.size w w' := by
  have : Ext [] w w' := HS.toExt h
  exact this.below
end
end Go.Gx

