/- What the functions that the law StripShares reaches come to, and why it holds: part 5. -/
import Derived.Test.YtnkphlgohnlooaaStripShares4
namespace Go.Proofs.Ws
set_option maxHeartbeats 4000000
set_option maxRecDepth 100000
open Go Go.Fw Go.Gx Go.Sp
set_option linter.unusedVariables false
structure qV where
  r0 : Scalps
  r1 : Int
def Yq (s0 : Scalps) (tenant1 : Int) (carried2 : Span) : Option qV :=
 (J5 s0).bind fun t13 =>
 if t13 = 0 then
 ((kf s0 tenant1).bind fun t22 =>
 if (!t22) = true then
 (some (⟨(⟨[], []⟩ : Scalps), 1⟩ : qV)) else
 ((zA carried2).bind fun t27 =>
 if (!t27) = true then
 (some (⟨(⟨[], []⟩ : Scalps), 3⟩ : qV)) else
 (if carried2.hi < carried2.lo then
 (some (⟨(⟨[], []⟩ : Scalps), 4⟩ : qV)) else
 ((ix s0.carried tenant1).bind fun t40 =>
 ((Jx t40.hi [carried2.hi]).bind fun t52 =>
 some (⟨(max t40.lo carried2.lo), t52⟩ : Span)).bind fun o =>
 if o.hi < o.lo then
 (some (⟨(⟨[], []⟩ : Scalps), 7⟩ : qV)) else
 (((Kt s0.strips).bind fun t62 =>
 (makec 16 (⟨0, 0⟩ : Span) (s0.carried.length : Int) (s0.carried.length : Int)).bind fun t66 =>
 some (⟨t62, t66⟩ : Scalps)).bind fun o_1 =>
 if (s0.carried.length : Int) ≤ (o_1.carried.length : Int) then ((some (s0.carried ++ o_1.carried.drop s0.carried.length)).bind fun out11_carried =>
 (ix out11_carried tenant1).bind fun t77 =>
 (some (out11_carried.set (Int.toNat tenant1) o)).bind fun out11_carried_1 =>
 some (⟨(⟨o_1.strips, out11_carried_1⟩ : Scalps), 0⟩ : qV)) else none))))) else
 (some (⟨(⟨[], []⟩ : Scalps), t13⟩ : qV))
theorem Z9 (s0 : Scalps) (tenant1 : Int) (carried2 : Span) (qa0 : Option Addr) (na0 ca0 : Nat) (qa1 : Option Addr) (na1 ca1 : Nat) (w : World) (hw : HV w (keys [] []) [] [] [(aB qa0, aO qa0, RSt.enc s0.strips), (aB qa1, aO qa1, RSp.enc s0.carried)] w) (hna0 : s0.strips.length = na0) (hqa0 : AOK na0 qa0) (hla0 : na0 ≤ ca0) (hna1 : s0.carried.length = na1) (hqa1 : AOK na1 qa1) (hla1 : na1 ≤ ca1) {res : qV} (hm : Yq s0 tenant1 carried2 = some res) :
    Calls Try.prog 14 #[.agg #[.slice qa0 na0 ca0, .slice qa1 na1 ca1], .int .i64 tenant1, .agg #[.int .i64 carried2.lo, .int .i64 carried2.hi]] w (fun en w' => ∃ l : VL × VL, en = .returned (.tuple #[.agg #[slv l.1.q l.1.n l.1.cap, slv l.2.q l.2.n l.2.cap], .int .i64 res.r1]) ∧ (VOK 7 l.1.n l.1.cap (RSt.enc res.r0.strips) l.1.sp l.1.q ∧ VOK 2 l.2.n l.2.cap (RSp.enc res.r0.carried) l.2.sp l.2.q) ∧ HV w (keys [] []) [] [⟨77, RSt.enc res.r0.strips, l.1.sp, l.1.q, []⟩, ⟨37, RSp.enc res.r0.carried, l.2.sp, l.2.q, []⟩] [] w') := by
  unfold Yq at hm
  refine kb Try.func14 rfl Try.ntmps14 rfl (e := [(0, _), (1, _), (2, _)]) rfl hw (jp ?_)
  refine jH rfl rfl (fun b h3 => ?_)
  refine jH rfl rfl (fun b_1 h4 => ?_)
  refine jt (fun w => Try.zeroValue28 w) rfl (fun b_2 h5 => ?_)
  refine jm rfl rfl (j1 (kG [_, _] 2 Try.isAgg28 Try.sizeOf28 rfl rfl rfl rfl ?_))
  obtain ⟨t13, h6, hm⟩ := bindO hm
  refine jd [] [] rfl rfl rfl rfl rfl rfl rfl Try.call15 (fun w hh => Zb s0 qa0 na0 ca0 qa1 na1 ca1 w (HV.callee (S0 := []) (vs0 := []) hh (roR hh 0 rfl (roR hh 1 rfl roN))) hna0 hqa0 hla0 hna1 hqa1 hla1 h6) (fun l h7 => ?_)
  refine jm rfl rfl (jo (jj (jl (jp (jf rfl rfl (jc rfl rfl rfl (fun _ _ => kv rfl rfl) (jm rfl rfl ?_)))))))
  refine jo ?_
  refine jq rfl (fun h8 => ?_) (fun h8 => ?_)
  ·replace hm := ifF (of_ndec_true h8) hm
   refine jp (jc rfl rfl rfl (fun _ _ => jG (vs := []) (cells := [_, _]) rfl rfl) (jf rfl rfl (jE (us := #[_, _]) (cs' := [_, _]) (S' := [_, _, _]) 0 (fun w => Try.sizeOf28 w) rfl rfl rfl rfl rfl rfl rfl (jm rfl rfl (jo (jw (jx ?_)))))))
   refine je (kr 77 (kr 37 ?_))
   obtain rfl := sj hm
   refine jn rfl (fun w hh => (.cell rfl (loadVar_agg (vs := [_, _]) (Try.isAgg28 _) (Try.sizeOf28 _) (hh.cells 0 rfl rfl)) (.tmp rfl .nil))) (fun w hh => ⟨(⟨none, 0, 0, []⟩, ⟨none, 0, 0, []⟩), rfl, ⟨VOK.nil, VOK.nil⟩, hh.se [] [1, 0] 2 rfl rfl rfl rfl⟩)
  ·replace hm := ifT (of_ndec_false h8) hm
   refine jp (kG [_, _] 2 Try.isAgg28 Try.sizeOf28 rfl rfl rfl rfl (jf rfl rfl ?_))
   obtain ⟨t22, h9, hm⟩ := bindO hm
   refine jd [] [] rfl rfl rfl rfl rfl rfl rfl Try.call53 (fun w hh => zB s0 tenant1 qa0 na0 ca0 qa1 na1 ca1 w (HV.callee (S0 := []) (vs0 := []) hh (roR hh 0 rfl (roR hh 1 rfl roN))) hna0 hqa0 hla0 hna1 hqa1 hla1 h9) (fun l_1 h10 => ?_)
   refine jc rfl rfl rfl (fun _ _ => kq rfl) (jm rfl rfl (jo ?_))
   refine jq rfl (fun h11 => ?_) (fun h11 => ?_)
   ·replace hm := ifT (h11) hm
    refine jp (jc rfl rfl rfl (fun _ _ => jG (vs := []) (cells := [_, _]) rfl rfl) (jE (us := #[_, _]) (cs' := [_, _]) (S' := [_, _, _]) 0 (fun w => Try.sizeOf28 w) rfl rfl rfl rfl rfl rfl rfl (jm rfl rfl (jo (jw (jx (je ?_)))))))
    refine kr 77 (kr 37 ?_)
    obtain rfl := sj hm
    refine jn rfl (fun w hh => (.cell rfl (loadVar_agg (vs := [_, _]) (Try.isAgg28 _) (Try.sizeOf28 _) (hh.cells 0 rfl rfl)) (.tmp rfl .nil))) (fun w hh => ⟨(⟨none, 0, 0, []⟩, ⟨none, 0, 0, []⟩), rfl, ⟨VOK.nil, VOK.nil⟩, hh.se [] [1, 0] 2 rfl rfl rfl rfl⟩)
   ·replace hm := ifN h11 hm
    refine jp (kG [_, _] 1 Try.isAgg37 Try.sizeOf37 rfl rfl rfl rfl ?_)
    obtain ⟨t27, h12, hm⟩ := bindO hm
    refine jd [] [] rfl rfl rfl rfl rfl rfl rfl Try.call54 (fun w hh => Yx carried2 w (HV.callee (S0 := []) (vs0 := []) hh roN)  h12) (fun l_2 h13 => ?_)
    refine jc rfl rfl rfl (fun _ _ => kq rfl) (jm rfl rfl (jo ?_))
    refine jq rfl (fun h14 => ?_) (fun h14 => ?_)
    ·replace hm := ifT (h14) hm
     refine jp (jc rfl rfl rfl (fun _ _ => jG (vs := []) (cells := [_, _]) rfl rfl) (jE (us := #[_, _]) (cs' := [_, _]) (S' := [_, _, _]) 0 (fun w => Try.sizeOf28 w) rfl rfl rfl rfl rfl rfl rfl (jm rfl rfl (jo (jw (jx (je ?_)))))))
     refine kr 77 (kr 37 ?_)
     obtain rfl := sj hm
     refine jn rfl (fun w hh => (.cell rfl (loadVar_agg (vs := [_, _]) (Try.isAgg28 _) (Try.sizeOf28 _) (hh.cells 0 rfl rfl)) (.tmp rfl .nil))) (fun w hh => ⟨(⟨none, 0, 0, []⟩, ⟨none, 0, 0, []⟩), rfl, ⟨VOK.nil, VOK.nil⟩, hh.se [] [1, 0] 2 rfl rfl rfl rfl⟩)
    ·replace hm := ifN h14 hm
     refine jp (jL 0 Try.runUnderlying37 rfl Try.sizeOf3 rfl rfl (jU 1 Try.isAgg3 rfl rfl rfl rfl (jL 1 Try.runUnderlying37 rfl Try.sizeOf3 rfl rfl (jU 1 Try.isAgg3 rfl rfl rfl rfl (jc rfl rfl rfl (fun _ _ => Qq rfl rfl) (jm rfl rfl (jo ?_)))))))
     refine jq rfl (fun h15 => ?_) (fun h15 => ?_)
     ·replace hm := ifD h15 hm
      refine jp (jc rfl rfl rfl (fun _ _ => jG (vs := []) (cells := [_, _]) rfl rfl) (jE (us := #[_, _]) (cs' := [_, _]) (S' := [_, _, _]) 0 (fun w => Try.sizeOf28 w) rfl rfl rfl rfl rfl rfl rfl (jm rfl rfl (jo (jw (jx (je ?_)))))))
      refine kr 77 (kr 37 ?_)
      obtain rfl := sj hm
      refine jn rfl (fun w hh => (.cell rfl (loadVar_agg (vs := [_, _]) (Try.isAgg28 _) (Try.sizeOf28 _) (hh.cells 0 rfl rfl)) (.tmp rfl .nil))) (fun w hh => ⟨(⟨none, 0, 0, []⟩, ⟨none, 0, 0, []⟩), rfl, ⟨VOK.nil, VOK.nil⟩, hh.se [] [1, 0] 2 rfl rfl rfl rfl⟩)
     ·replace hm := ifE h15 hm
      refine jr (js (jb (jp (jL 1 Try.runUnderlying28 rfl Try.sizeOf26 rfl rfl (jU 2 Try.isAgg26 rfl rfl rfl rfl (jf rfl rfl ?_))))))
      obtain ⟨t40, h16, hm⟩ := bindO hm
      refine jc rfl rfl rfl (fun w _ => jW h16 (Try.runUnderlying26 w) (Try.sizeOf37 w) rfl rfl hna1 hqa1) ?_
      refine jc rfl rfl rfl (fun w hh => kk RSp 0 [.int .i64 t40.lo, .int .i64 t40.hi] h16 (Try.isAgg37 w) (Try.sizeOf37 w) rfl (hh.seg 1 rfl) rfl (Nat.add_zero _).symm) ?_
      refine jt (fun w => Try.zeroValue37 w) rfl (fun b_3 h17 => ?_)
      refine jE (us := #[_, _]) (cs' := [_, _]) (S' := [_, _, _, _]) 0 (fun w => Try.sizeOf37 w) rfl rfl rfl rfl rfl rfl rfl (jo (jj ?_))
      obtain ⟨o, h18, h19⟩ := bindO hm
      refine jC (ι := Nat) (fun l_3 => True) (fun l_3 => [(1, .int .i64 tenant1), (3, ptr b 0), (6, ptr b_2 0), (10, ptr l_3 0)]) (fun l_3 => [(b_3, .cells #[.int .i64 t40.lo, .int .i64 t40.hi] 37 (0, 0)), (b_2, .cells #[slv none 0 0, slv none 0 0] 28 (0, 0)), (b_1, .cells #[.int .i64 carried2.lo, .int .i64 carried2.hi] 37 (0, 0)), (b, .cells #[.slice qa0 na0 ca0, .slice qa1 na1 ca1] 28 (0, 0)), (l_3, .cells #[.int .i64 o.lo, .int .i64 o.hi] 37 (0, 0))]) (fun l_3 => []) ?_ ?_
      ·replace hm := h18
       obtain ⟨t52, h20, hm⟩ := bindO hm
       refine jX none (.free 0 (.hoist 1 (.free 2 (.hoist 3 (.free 4 (.free 5 (.hoist 6 (.free 7 (.hoist 8 (.br (.alt 9 (.br (.alt 10 (.free 11 (.one 12 (.one 13 .done))) (.alt 12 (.one 10 (.free 11 (.one 13 .done))) .nil))) (.alt 12 (.one 9 (.one 10 (.free 11 (.one 13 .done)))) .nil)))))))))))) _ rfl (by decide +kernel) (fun w k hh => hh.draw k) (fun w hh => hh) ?_
       refine kO 0 Try.runUnderlying37 Try.sizeOf3 rfl rfl rfl rfl (qq 0 Try.isAgg3 rfl rfl rfl rfl rfl (kO 0 Try.runUnderlying37 Try.sizeOf3 rfl rfl rfl rfl (qq 2 Try.isAgg3 rfl rfl rfl rfl rfl (jk rfl rfl rfl rfl (fun _ _ => ZW rfl rfl) (kO 1 Try.runUnderlying37 Try.sizeOf3 rfl rfl rfl rfl (qq 0 Try.isAgg3 rfl rfl rfl rfl rfl (kO 1 Try.runUnderlying37 Try.sizeOf3 rfl rfl rfl rfl ?_)))))))
       refine qq 2 Try.isAgg3 rfl rfl rfl rfl rfl (YX ?_)
       refine kQ rfl ?_ ?_
       ·refine kW RI [carried2.hi] (ps := [(0, _)]) (cells := [_]) (fun w => Try.runUnderlying32 w) (fun w => Try.sizeOf3 w) (fun w => Try.zeroValue3 w) rfl rfl rfl rfl rfl rfl rfl rfl (fun L h21 => ?_)
        refine ju (hsE [0, 1, 2, 3] [] 0 rfl rfl rfl rfl) (YX ?_)
        refine kQ rfl ?_ ?_
        ·refine jd [] [] rfl rfl rfl rfl rfl rfl rfl Try.call55 (fun w hh => Qc t40.hi [carried2.hi] (qA L.q) L.n L.cap w (HV.callee (S0 := []) (vs0 := []) hh (roC (hh.vsepA 0 rfl h21) roN)) (vlen RI h21 rfl) (AOK.q (vne h21)) (h21).hle h20) (fun l_4 h22 => ?_)
         refine ju (hsE [0, 1, 2, 3] [] 0 rfl rfl rfl rfl) (jk rfl rfl rfl rfl (fun _ _ => jG (vs := [(0, _), (1, _)]) (cells := [_, _]) rfl rfl) (jK rfl ?_))
         refine jt (fun w => Try.zeroValue37 w) rfl (fun b_4 h23 => ?_)
         refine ju (hsE [1, 2, 3, 4] [] 0 rfl rfl rfl rfl) (jK rfl (jE (us := #[_, _]) (cs' := [_, _]) (S' := [_, _, _, _, _]) 0 (fun w => Try.sizeOf37 w) rfl rfl rfl rfl rfl rfl rfl (ju (hsE [1, 2, 3, 4] [] 0 rfl rfl rfl rfl) (jI ?_))))
         obtain rfl := sj hm
         exact jg b_4 (trivial) (sE rfl) (hsE [1, 2, 3, 4, 0] [] 0 rfl rfl rfl rfl)
        refine kQ rfl ?_ ?_
        ·refine jt (fun w => Try.zeroValue37 w) rfl (fun b_5 h24 => ?_)
         refine ju (hsE [1, 2, 3, 4] [] 0 rfl rfl rfl rfl) (jK rfl ?_)
         refine jd [] [] rfl rfl rfl rfl rfl rfl rfl Try.call55 (fun w hh => Qc t40.hi [carried2.hi] (qA L.q) L.n L.cap w (HV.callee (S0 := []) (vs0 := []) hh (roC (hh.vsepA 0 rfl h21) roN)) (vlen RI h21 rfl) (AOK.q (vne h21)) (h21).hle h20) (fun l_5 h25 => ?_)
         refine ju (hsE [1, 2, 3, 4] [] 0 rfl rfl rfl rfl) (jk rfl rfl rfl rfl (fun _ _ => jG (vs := [(0, _), (1, _)]) (cells := [_, _]) rfl rfl) (jK rfl (jE (us := #[_, _]) (cs' := [_, _]) (S' := [_, _, _, _, _]) 0 (fun w => Try.sizeOf37 w) rfl rfl rfl rfl rfl rfl rfl (ju (hsE [1, 2, 3, 4] [] 0 rfl rfl rfl rfl) (jI ?_)))))
         obtain rfl := sj hm
         exact jg b_5 (trivial) (sE rfl) (hsE [1, 2, 3, 4, 0] [] 0 rfl rfl rfl rfl)
        exact Ks
       refine kQ rfl ?_ ?_
       ·refine jt (fun w => Try.zeroValue37 w) rfl (fun b_6 h26 => ?_)
        refine ju (hsE [1, 2, 3, 4] [] 0 rfl rfl rfl rfl) (jK rfl ?_)
        refine kW RI [carried2.hi] (ps := [(0, _)]) (cells := [_]) (fun w => Try.runUnderlying32 w) (fun w => Try.sizeOf3 w) (fun w => Try.zeroValue3 w) rfl rfl rfl rfl rfl rfl rfl rfl (fun L_1 h27 => ?_)
        refine ju (hsE [1, 2, 3, 4] [] 0 rfl rfl rfl rfl) (jK rfl ?_)
        refine jd [] [] rfl rfl rfl rfl rfl rfl rfl Try.call55 (fun w hh => Qc t40.hi [carried2.hi] (qA L_1.q) L_1.n L_1.cap w (HV.callee (S0 := []) (vs0 := []) hh (roC (hh.vsepA 0 rfl h27) roN)) (vlen RI h27 rfl) (AOK.q (vne h27)) (h27).hle h20) (fun l_6 h28 => ?_)
        refine ju (hsE [1, 2, 3, 4] [] 0 rfl rfl rfl rfl) (jk rfl rfl rfl rfl (fun _ _ => jG (vs := [(0, _), (1, _)]) (cells := [_, _]) rfl rfl) (jK rfl (jE (us := #[_, _]) (cs' := [_, _]) (S' := [_, _, _, _, _]) 0 (fun w => Try.sizeOf37 w) rfl rfl rfl rfl rfl rfl rfl (ju (hsE [1, 2, 3, 4] [] 0 rfl rfl rfl rfl) (jI ?_)))))
        obtain rfl := sj hm
        exact jg b_6 (trivial) (sE rfl) (hsE [1, 2, 3, 4, 0] [] 0 rfl rfl rfl rfl)
       exact Ks
      ·intro l_3 hj
       replace hm := h19
       refine jb (jj (jp (jL 0 Try.runUnderlying37 rfl Try.sizeOf3 rfl rfl (jU 4 Try.isAgg3 rfl rfl rfl rfl (jL 1 Try.runUnderlying37 rfl Try.sizeOf3 rfl rfl (jU 4 Try.isAgg3 rfl rfl rfl rfl (jc rfl rfl rfl (fun _ _ => Qq rfl rfl) ?_)))))))
       refine jo ?_
       refine jq rfl (fun h29 => ?_) (fun h29 => ?_)
       ·replace hm := ifD h29 hm
        refine jp (jc rfl rfl rfl (fun _ _ => jG (vs := []) (cells := [_, _]) rfl rfl) (jE (us := #[_, _]) (cs' := [_, _]) (S' := [_, _, _, _, _]) 1 (fun w => Try.sizeOf28 w) rfl rfl rfl rfl rfl rfl rfl (jm rfl rfl (jo (jw (je (kr 77 ?_)))))))
        refine kr 37 ?_
        obtain rfl := sj hm
        refine jn rfl (fun w hh => (.cell rfl (loadVar_agg (vs := [_, _]) (Try.isAgg28 _) (Try.sizeOf28 _) (hh.cells 1 rfl rfl)) (.tmp rfl .nil))) (fun w hh => ⟨(⟨none, 0, 0, []⟩, ⟨none, 0, 0, []⟩), rfl, ⟨VOK.nil, VOK.nil⟩, hh.se [] [1, 0] 2 rfl rfl rfl rfl⟩)
       ·replace hm := ifE h29 hm
        refine jr (jb (jj ?_))
        obtain ⟨o_1, h30, h31⟩ := bindO hm
        refine jC (ι := Nat × VL × VL) (fun l_7 => VOK 7 l_7.2.1.n l_7.2.1.cap (RSt.enc o_1.strips) l_7.2.1.sp l_7.2.1.q ∧ VOK 2 l_7.2.2.n l_7.2.2.cap (RSp.enc o_1.carried) l_7.2.2.sp l_7.2.2.q) (fun l_7 => [(1, .int .i64 tenant1), (3, ptr b 0), (6, ptr b_2 0), (10, ptr l_3 0), (11, ptr l_7.1 0)]) (fun l_7 => [(b_3, .cells #[.int .i64 t40.lo, .int .i64 t40.hi] 37 (0, 0)), (b_2, .cells #[slv none 0 0, slv none 0 0] 28 (0, 0)), (b_1, .cells #[.int .i64 carried2.lo, .int .i64 carried2.hi] 37 (0, 0)), (b, .cells #[.slice qa0 na0 ca0, .slice qa1 na1 ca1] 28 (0, 0)), (l_3, .cells #[.int .i64 o.lo, .int .i64 o.hi] 37 (0, 0)), (l_7.1, .cells #[slv l_7.2.1.q l_7.2.1.n l_7.2.1.cap, slv l_7.2.2.q l_7.2.2.n l_7.2.2.cap] 28 (0, 0))]) (fun l_7 => [⟨77, RSt.enc o_1.strips, l_7.2.1.sp, l_7.2.1.q, []⟩, ⟨37, RSp.enc o_1.carried, l_7.2.2.sp, l_7.2.2.q, []⟩]) ?_ ?_
        ·replace hm := h30
         obtain ⟨t62, h34, hm⟩ := bindO hm
         obtain ⟨t66, h35, hm⟩ := bindO hm
         refine jX none (.free 0 (.hoist 1 (.free 3 (.hoist 4 (.free 5 (.br (.alt 2 (.br (.alt 6 (.free 7 (.one 8 (.one 9 .done))) (.alt 8 (.one 6 (.free 7 (.one 9 .done))) .nil))) (.alt 6 (.br (.alt 2 (.free 7 (.one 8 (.one 9 .done))) (.alt 8 (.one 2 (.free 7 (.one 9 .done))) .nil))) (.alt 8 (.br (.alt 2 (.one 6 (.free 7 (.one 9 .done))) (.alt 6 (.one 2 (.free 7 (.one 9 .done))) .nil))) .nil))))))))) _ rfl (by decide +kernel) (fun w k hh => hh.draw k) (fun w hh => hh) ?_
         refine kO 0 Try.runUnderlying28 Try.sizeOf25 rfl rfl rfl rfl (qq 3 Try.isAgg25 rfl rfl rfl rfl rfl (kO 1 Try.runUnderlying28 Try.sizeOf26 rfl rfl rfl rfl (qq 3 Try.isAgg26 rfl rfl rfl rfl rfl (jk rfl rfl rfl rfl (fun w _ => jB hna1 (Try.runUnderlying26 w) rfl) (YX ?_)))))
         refine kQ rfl ?_ ?_
         ·refine jd [] [] rfl rfl rfl rfl rfl rfl rfl Try.call56 (fun w hh => ze s0.strips qa0 na0 ca0 w (HV.callee (S0 := []) (vs0 := []) hh (roR hh 0 rfl roN)) hna0 hqa0 hla0 h34) (fun l_8 h36 => ?_)
          have h37 := h36
          refine jS (S' := [_, _, _, _, _]) (vs' := [_]) [0, 1, 2, 3, 4] [0] 0 rfl rfl rfl rfl (ju (hsE [0, 1, 2, 3, 4] [] 0 rfl rfl rfl rfl) (YX ?_))
          refine kQ rfl ?_ ?_
          ·refine km RSp (⟨0, 0⟩ : Span) h35 Try.underlying26 Kx rfl rfl rfl rfl rfl (fun L_2 h38 => ?_)
           refine ju (hsE [0, 1, 2, 3, 4] [] 0 rfl rfl rfl rfl) (jk rfl rfl rfl rfl (fun _ _ => jG (vs := [(0, _), (1, _)]) (cells := [_, _]) rfl rfl) (jK rfl ?_))
           refine jt (fun w => Try.zeroValue28 w) rfl (fun b_7 h39 => ?_)
           refine ju (hsE [1, 2, 3, 4, 5] [] 0 rfl rfl rfl rfl) (jK rfl (jE (us := #[_, _]) (cs' := [_, _]) (S' := [_, _, _, _, _, _]) 0 (fun w => Try.sizeOf28 w) rfl rfl rfl rfl rfl rfl rfl (ju (hsE [1, 2, 3, 4, 5] [] 0 rfl rfl rfl rfl) (jI ?_))))
           obtain rfl := sj hm
           exact jg (b_7, l_8, L_2) (⟨h37, h38⟩) (sE rfl) (hsE [1, 2, 3, 4, 5, 0] [1, 0] 0 rfl rfl rfl rfl)
          refine kQ rfl ?_ ?_
          ·refine jt (fun w => Try.zeroValue28 w) rfl (fun b_8 h40 => ?_)
           refine ju (hsE [1, 2, 3, 4, 5] [] 0 rfl rfl rfl rfl) (jK rfl ?_)
           refine km RSp (⟨0, 0⟩ : Span) h35 Try.underlying26 Kx rfl rfl rfl rfl rfl (fun L_3 h41 => ?_)
           refine ju (hsE [1, 2, 3, 4, 5] [] 0 rfl rfl rfl rfl) (jk rfl rfl rfl rfl (fun _ _ => jG (vs := [(0, _), (1, _)]) (cells := [_, _]) rfl rfl) (jK rfl (jE (us := #[_, _]) (cs' := [_, _]) (S' := [_, _, _, _, _, _]) 0 (fun w => Try.sizeOf28 w) rfl rfl rfl rfl rfl rfl rfl (ju (hsE [1, 2, 3, 4, 5] [] 0 rfl rfl rfl rfl) (jI ?_)))))
           obtain rfl := sj hm
           exact jg (b_8, l_8, L_3) (⟨h37, h41⟩) (sE rfl) (hsE [1, 2, 3, 4, 5, 0] [1, 0] 0 rfl rfl rfl rfl)
          exact Ks
         refine kQ rfl ?_ ?_
         ·refine km RSp (⟨0, 0⟩ : Span) h35 Try.underlying26 Kx rfl rfl rfl rfl rfl (fun L_4 h42 => ?_)
          refine ju (hsE [0, 1, 2, 3, 4] [] 0 rfl rfl rfl rfl) (YX ?_)
          refine kQ rfl ?_ ?_
          ·refine jd [] [] rfl rfl rfl rfl rfl rfl rfl Try.call56 (fun w hh => ze s0.strips qa0 na0 ca0 w (HV.callee (S0 := []) (vs0 := []) hh (roR hh 0 rfl roN)) hna0 hqa0 hla0 h34) (fun l_9 h43 => ?_)
           have h44 := h43
           refine jS (S' := [_, _, _, _, _]) (vs' := [_, _]) [0, 1, 2, 3, 4] [0, 1] 0 rfl rfl rfl rfl (ju (hsE [0, 1, 2, 3, 4] [] 0 rfl rfl rfl rfl) (jk rfl rfl rfl rfl (fun _ _ => jG (vs := [(0, _), (1, _)]) (cells := [_, _]) rfl rfl) (jK rfl ?_)))
           refine jt (fun w => Try.zeroValue28 w) rfl (fun b_9 h45 => ?_)
           refine ju (hsE [1, 2, 3, 4, 5] [] 0 rfl rfl rfl rfl) (jK rfl (jE (us := #[_, _]) (cs' := [_, _]) (S' := [_, _, _, _, _, _]) 0 (fun w => Try.sizeOf28 w) rfl rfl rfl rfl rfl rfl rfl (ju (hsE [1, 2, 3, 4, 5] [] 0 rfl rfl rfl rfl) (jI ?_))))
           obtain rfl := sj hm
           exact jg (b_9, l_9, L_4) (⟨h44, h42⟩) (sE rfl) (hsE [1, 2, 3, 4, 5, 0] [0, 1] 0 rfl rfl rfl rfl)
          refine kQ rfl ?_ ?_
          ·refine jt (fun w => Try.zeroValue28 w) rfl (fun b_10 h46 => ?_)
           refine ju (hsE [1, 2, 3, 4, 5] [] 0 rfl rfl rfl rfl) (jK rfl ?_)
           refine jd [] [] rfl rfl rfl rfl rfl rfl rfl Try.call56 (fun w hh => ze s0.strips qa0 na0 ca0 w (HV.callee (S0 := []) (vs0 := []) hh (roR hh 0 rfl roN)) hna0 hqa0 hla0 h34) (fun l_10 h47 => ?_)
           have h48 := h47
           refine jS (S' := [_, _, _, _, _, _]) (vs' := [_, _]) [0, 1, 2, 3, 4, 5] [0, 1] 0 rfl rfl rfl rfl (ju (hsE [1, 2, 3, 4, 5] [] 0 rfl rfl rfl rfl) (jk rfl rfl rfl rfl (fun _ _ => jG (vs := [(0, _), (1, _)]) (cells := [_, _]) rfl rfl) (jK rfl (jE (us := #[_, _]) (cs' := [_, _]) (S' := [_, _, _, _, _, _]) 0 (fun w => Try.sizeOf28 w) rfl rfl rfl rfl rfl rfl rfl (ju (hsE [1, 2, 3, 4, 5] [] 0 rfl rfl rfl rfl) (jI ?_))))))
           obtain rfl := sj hm
           exact jg (b_10, l_10, L_4) (⟨h48, h42⟩) (sE rfl) (hsE [1, 2, 3, 4, 5, 0] [0, 1] 0 rfl rfl rfl rfl)
          exact Ks
         refine kQ rfl ?_ ?_
         ·refine jt (fun w => Try.zeroValue28 w) rfl (fun b_11 h49 => ?_)
          refine ju (hsE [1, 2, 3, 4, 5] [] 0 rfl rfl rfl rfl) (YX ?_)
          refine kQ rfl ?_ ?_
          ·refine jd [] [] rfl rfl rfl rfl rfl rfl rfl Try.call56 (fun w hh => ze s0.strips qa0 na0 ca0 w (HV.callee (S0 := []) (vs0 := []) hh (roR hh 0 rfl roN)) hna0 hqa0 hla0 h34) (fun l_11 h50 => ?_)
           have h51 := h50
           refine jS (S' := [_, _, _, _, _, _]) (vs' := [_]) [0, 1, 2, 3, 4, 5] [0] 0 rfl rfl rfl rfl (ju (hsE [1, 2, 3, 4, 5] [] 0 rfl rfl rfl rfl) (jK rfl ?_))
           refine km RSp (⟨0, 0⟩ : Span) h35 Try.underlying26 Kx rfl rfl rfl rfl rfl (fun L_5 h52 => ?_)
           refine ju (hsE [1, 2, 3, 4, 5] [] 0 rfl rfl rfl rfl) (jk rfl rfl rfl rfl (fun _ _ => jG (vs := [(0, _), (1, _)]) (cells := [_, _]) rfl rfl) (jK rfl (jE (us := #[_, _]) (cs' := [_, _]) (S' := [_, _, _, _, _, _]) 0 (fun w => Try.sizeOf28 w) rfl rfl rfl rfl rfl rfl rfl (ju (hsE [1, 2, 3, 4, 5] [] 0 rfl rfl rfl rfl) (jI ?_)))))
           obtain rfl := sj hm
           exact jg (b_11, l_11, L_5) (⟨h51, h52⟩) (sE rfl) (hsE [1, 2, 3, 4, 5, 0] [1, 0] 0 rfl rfl rfl rfl)
          refine kQ rfl ?_ ?_
          ·refine km RSp (⟨0, 0⟩ : Span) h35 Try.underlying26 Kx rfl rfl rfl rfl rfl (fun L_6 h53 => ?_)
           refine ju (hsE [1, 2, 3, 4, 5] [] 0 rfl rfl rfl rfl) (jK rfl ?_)
           refine jd [] [] rfl rfl rfl rfl rfl rfl rfl Try.call56 (fun w hh => ze s0.strips qa0 na0 ca0 w (HV.callee (S0 := []) (vs0 := []) hh (roR hh 0 rfl roN)) hna0 hqa0 hla0 h34) (fun l_12 h54 => ?_)
           have h55 := h54
           refine jS (S' := [_, _, _, _, _, _]) (vs' := [_, _]) [0, 1, 2, 3, 4, 5] [0, 1] 0 rfl rfl rfl rfl (ju (hsE [1, 2, 3, 4, 5] [] 0 rfl rfl rfl rfl) (jk rfl rfl rfl rfl (fun _ _ => jG (vs := [(0, _), (1, _)]) (cells := [_, _]) rfl rfl) (jK rfl (jE (us := #[_, _]) (cs' := [_, _]) (S' := [_, _, _, _, _, _]) 0 (fun w => Try.sizeOf28 w) rfl rfl rfl rfl rfl rfl rfl (ju (hsE [1, 2, 3, 4, 5] [] 0 rfl rfl rfl rfl) (jI ?_))))))
           obtain rfl := sj hm
           exact jg (b_11, l_12, L_6) (⟨h55, h53⟩) (sE rfl) (hsE [1, 2, 3, 4, 5, 0] [0, 1] 0 rfl rfl rfl rfl)
          exact Ks
         exact Ks
        ·intro l_7 hj
         obtain ⟨h32, h33⟩ := hj
         replace hm := h31
         refine jb (jp (jL 1 Try.runUnderlying28 rfl Try.sizeOf26 rfl rfl (jU 5 Try.isAgg26 rfl rfl rfl rfl (jL 1 Try.runUnderlying28 rfl Try.sizeOf26 rfl rfl (jU 3 Try.isAgg26 rfl rfl rfl rfl ?_)))))
         obtain ⟨h56, hm⟩ := ifO hm
         obtain ⟨out11_carried, hout11_carried, hm⟩ := bindO hm
         refine jaL RSp 1 Try.underlying26 jbb rfl rfl rfl rfl rfl h33 hna1 hqa1 (fun w hh => (hh.seg 1 rfl)) (Int.ofNat_le.1 h56) (Option.some.inj hout11_carried) rfl (fun h57 => ?_)
         refine jS (S' := [_, _, _, _, _, _]) (vs' := [_, _]) [0, 1, 2, 3, 4, 5] [0, 1] 0 rfl rfl rfl rfl (j1 (jL 1 Try.runUnderlying28 rfl Try.sizeOf26 rfl rfl (jU 5 Try.isAgg26 rfl rfl rfl rfl (jf rfl rfl (kG [_, _] 4 Try.isAgg37 Try.sizeOf37 rfl rfl rfl rfl ?_)))))
         obtain ⟨t77, h58, hm⟩ := bindO hm
         refine jc rfl rfl rfl (fun w _ => qe h58 (Try.runUnderlying26 w) (Try.sizeOf37 w) rfl rfl (vlen RSp h57 rfl) (vne h57)) ?_
         obtain ⟨out11_carried_1, hout11_carried_1, hm⟩ := bindO hm
         refine ja6 (us := #[_, _]) RSp 1 o (fun w => Try.sizeOf37 w) rfl rfl rfl h57 rfl rfl rfl rfl h58 rfl (Option.some.inj hout11_carried_1) (fun h59 => ?_)
         refine jS (S' := [_, _, _, _, _, _]) (vs' := [_, _]) [0, 1, 2, 3, 4, 5] [0, 1] 0 rfl rfl rfl rfl (j1 (kG [_, _] 5 Try.isAgg28 Try.sizeOf28 rfl rfl rfl rfl (jE (us := #[_, _]) (cs' := [_, _]) (S' := [_, _, _, _, _, _]) 1 (fun w => Try.sizeOf28 w) rfl rfl rfl rfl rfl rfl rfl (jm rfl rfl (jo (jw ?_))))))
         obtain rfl := sj hm
         refine jn rfl (fun w hh => (.cell rfl (loadVar_agg (vs := [_, _]) (Try.isAgg28 _) (Try.sizeOf28 _) (hh.cells 1 rfl rfl)) (.tmp rfl .nil))) (fun w hh => ⟨(l_7.2.1, l_7.2.2), rfl, ⟨h32, h59⟩, hh.se [] [0, 1] 2 rfl rfl rfl rfl⟩)
def Kc  : Option Bool :=
 (yv 22 25).bind fun t15 =>
 (qZ t15).bind fun t16 =>
 (yv 22 25).bind fun t21 =>
 (Js t21).bind fun t22 =>
 (yv 22 25).bind fun t27 =>
 (KW t27).bind fun t28 =>
 (yv 22 25).bind fun t32 =>
 (QQ t32 (⟨[-1, 0, -1], [1, 0]⟩ : Marks)).bind fun t36 =>
 (if t16.r2 = 0 then
 (if t22.r2 = 0 then
 (if t28.r1 = 0 then
 (if t36.r1 = 0 then
 (if t16.r1 = 2 then
 (if t22.r1 = 9 then
 (if t36.r0 = 2 then
 ((yF t28.r0 [2, 0]).bind fun t68 =>
 some (!t68)) else
 (some true)) else
 (some true)) else
 (some true)) else
 (some true)) else
 (some true)) else
 (some true)) else
 (some true)).bind fun o =>
 if o = true then
 (some false) else
 ((yv 10 15).bind fun t72 =>
 (QK t72 (⟨false, [0, 1, 2]⟩ : Lack)).bind fun t75 =>
 (yv 10 15).bind fun t79 =>
 (QK t79 (⟨false, [0, 2]⟩ : Lack)).bind fun t82 =>
 (yv 10 15).bind fun t86 =>
 (Ju t86).bind fun t87 =>
 (yv 22 25).bind fun t91 =>
 (Yq t91 0 (⟨24, 30⟩ : Span)).bind fun t93 =>
 (if t75.r1 = 0 then
 (if t82.r1 = 0 then
 (if t87.r1 = 7 then
 (if t93.r1 = 0 then
 (if t75.r0 = 6 then
 (if t82.r0 = 2 then
 (if (t93.r0.carried.length : Int) = 2 then
 ((ix t93.r0.carried 0).bind fun t127 =>
 some (decide (t127 = (⟨24, 25⟩ : Span)))) else
 (some false)) else
 (some false)) else
 (some false)) else
 (some false)) else
 (some false)) else
 (some false)) else
 (some false)).bind fun o_1 =>
 some o_1)
theorem Yw   (w : World) (hw : HV w (keys [] []) [] [] [] w)  {res : Bool} (hm : Kc  = some res) :
    Calls Try.prog 20 #[] w (fun en w' => ∃ l : Unit, en = .returned (.bool res) ∧ (True) ∧ HV w (keys [] []) [] [] [] w') := by
  unfold Kc at hm
  refine kb Try.func20 rfl Try.ntmps20 rfl (e := []) rfl hw (jp (jm rfl rfl (j1 ?_)))
  obtain ⟨t15, h1, hm⟩ := bindO hm
  refine jd [] [] rfl rfl rfl rfl rfl rfl rfl Try.call75 (fun w hh => zT 22 25 w (HV.callee (S0 := []) (vs0 := []) hh roN)  h1) (fun l h2 => ?_)
  obtain ⟨h3, h4⟩ := h2
  refine jS (S' := []) (vs' := [_, _]) [] [0, 1] 0 rfl rfl rfl rfl ?_
  obtain ⟨t16, h5, hm⟩ := bindO hm
  refine jd [] [] rfl rfl rfl rfl rfl rfl rfl Try.call17 (fun w hh => Yp t15 (qA l.1.q) l.1.n l.1.cap (qA l.2.q) l.2.n l.2.cap w (HV.callee (S0 := []) (vs0 := []) hh (roC (hh.vsepA 0 rfl h3) (roC (hh.vsepA 1 rfl h4) roN))) (vlen RSt h3 rfl) (AOK.q (vne h3)) (h3).hle (vlen RSp h4 rfl) (AOK.q (vne h4)) (h4).hle h5) (fun l_1 h6 => ?_)
  obtain ⟨h7, h8⟩ := h6
  refine jS (S' := []) (vs' := [_, _, _]) [] [0, 1, 2] 0 rfl rfl rfl rfl (jf rfl rfl (kj rfl rfl rfl (kj rfl rfl rfl (kj rfl rfl rfl (jm rfl rfl (jm rfl rfl (jm rfl rfl ?_)))))))
  refine j1 ?_
  obtain ⟨t21, h9, hm⟩ := bindO hm
  refine jd [] [] rfl rfl rfl rfl rfl rfl rfl Try.call75 (fun w hh => zT 22 25 w (HV.callee (S0 := []) (vs0 := []) hh roN)  h9) (fun l_2 h10 => ?_)
  obtain ⟨h11, h12⟩ := h10
  refine jS (S' := []) (vs' := [_, _, _, _, _]) [] [0, 1, 2, 3, 4] 0 rfl rfl rfl rfl ?_
  obtain ⟨t22, h13, hm⟩ := bindO hm
  refine jd [] [] rfl rfl rfl rfl rfl rfl rfl Try.call18 (fun w hh => ZK t21 (qA l_2.1.q) l_2.1.n l_2.1.cap (qA l_2.2.q) l_2.2.n l_2.2.cap w (HV.callee (S0 := []) (vs0 := []) hh (roC (hh.vsepA 0 rfl h11) (roC (hh.vsepA 1 rfl h12) roN))) (vlen RSt h11 rfl) (AOK.q (vne h11)) (h11).hle (vlen RSp h12 rfl) (AOK.q (vne h12)) (h12).hle h13) (fun l_3 h14 => ?_)
  obtain ⟨h15, h16⟩ := h14
  refine jS (S' := []) (vs' := [_, _, _, _, _, _]) [] [0, 1, 2, 3, 4, 5] 0 rfl rfl rfl rfl (jf rfl rfl (kj rfl rfl rfl (kj rfl rfl rfl (kj rfl rfl rfl (jm rfl rfl (jm rfl rfl (jm rfl rfl ?_)))))))
  refine j1 ?_
  obtain ⟨t27, h17, hm⟩ := bindO hm
  refine jd [] [] rfl rfl rfl rfl rfl rfl rfl Try.call75 (fun w hh => zT 22 25 w (HV.callee (S0 := []) (vs0 := []) hh roN)  h17) (fun l_4 h18 => ?_)
  obtain ⟨h19, h20⟩ := h18
  refine jS (S' := []) (vs' := [_, _, _, _, _, _, _, _]) [] [0, 1, 2, 3, 4, 5, 6, 7] 0 rfl rfl rfl rfl ?_
  obtain ⟨t28, h21, hm⟩ := bindO hm
  refine jd [] [] rfl rfl rfl rfl rfl rfl rfl Try.call44 (fun w hh => Zo t27 (qA l_4.1.q) l_4.1.n l_4.1.cap (qA l_4.2.q) l_4.2.n l_4.2.cap w (HV.callee (S0 := []) (vs0 := []) hh (roC (hh.vsepA 0 rfl h19) (roC (hh.vsepA 1 rfl h20) roN))) (vlen RSt h19 rfl) (AOK.q (vne h19)) (h19).hle (vlen RSp h20 rfl) (AOK.q (vne h20)) (h20).hle h21) (fun l_5 h22 => ?_)
  have h23 := h22
  refine jS (S' := []) (vs' := [_, _, _, _, _, _, _, _, _]) [] [0, 1, 2, 3, 4, 5, 6, 7, 8] 0 rfl rfl rfl rfl (jf rfl rfl (kj rfl rfl rfl (kj rfl rfl rfl (jm rfl rfl (jm rfl rfl (j1 ?_))))))
  obtain ⟨t32, h24, hm⟩ := bindO hm
  refine jd [] [] rfl rfl rfl rfl rfl rfl rfl Try.call75 (fun w hh => zT 22 25 w (HV.callee (S0 := []) (vs0 := []) hh roN)  h24) (fun l_6 h25 => ?_)
  obtain ⟨h26, h27⟩ := h25
  refine jS (S' := []) (vs' := [_, _, _, _, _, _, _, _, _, _, _]) [] [0, 1, 2, 3, 4, 5, 6, 7, 8, 9, 10] 0 rfl rfl rfl rfl ?_
  refine kW RI [-1, 0, -1] (ps := [(0, _), (1, _), (2, _)]) (cells := [_, _, _]) (fun w => Try.runUnderlying32 w) (fun w => Try.sizeOf3 w) (fun w => Try.zeroValue3 w) rfl rfl rfl rfl rfl rfl rfl rfl (fun L h28 => ?_)
  refine kW RI [1, 0] (ps := [(0, _), (1, _)]) (cells := [_, _]) (fun w => Try.runUnderlying32 w) (fun w => Try.sizeOf3 w) (fun w => Try.zeroValue3 w) rfl rfl rfl rfl rfl rfl rfl rfl (fun L_1 h29 => ?_)
  refine jc rfl rfl rfl (fun _ _ => jG (vs := [(0, _), (1, _)]) (cells := [_, _]) rfl rfl) ?_
  obtain ⟨t36, h30, hm⟩ := bindO hm
  refine jd [] [] rfl rfl rfl rfl rfl rfl rfl Try.call40 (fun w hh => ZQ t32 (⟨[-1, 0, -1], [1, 0]⟩ : Marks) (qA l_6.1.q) l_6.1.n l_6.1.cap (qA l_6.2.q) l_6.2.n l_6.2.cap (qA L.q) L.n L.cap (qA L_1.q) L_1.n L_1.cap w (HV.callee (S0 := []) (vs0 := []) hh (roC (hh.vsepA 2 rfl h26) (roC (hh.vsepA 3 rfl h27) (roC (hh.vsepA 1 rfl h28) (roC (hh.vsepA 0 rfl h29) roN))))) (vlen RSt h26 rfl) (AOK.q (vne h26)) (h26).hle (vlen RSp h27 rfl) (AOK.q (vne h27)) (h27).hle (vlen RI h28 rfl) (AOK.q (vne h28)) (h28).hle (vlen RI h29 rfl) (AOK.q (vne h29)) (h29).hle h30) (fun l_7 h31 => ?_)
  refine jf rfl rfl (kj rfl rfl rfl (kj rfl rfl rfl (jm rfl rfl (jm rfl rfl (jo (jj (jj ?_)))))))
  obtain ⟨o, h32, h33⟩ := bindO hm
  refine jC (ι := Unit) (fun l_8 => True) (fun l_8 => [(70, .bool o)]) (fun l_8 => []) (fun l_8 => []) ?_ ?_
  ·replace hm := h32
   refine jh (jf rfl rfl (jc rfl rfl rfl (fun _ _ => kv rfl rfl) (jf rfl rfl ?_)))
   refine jD 41 rfl (fun h34 => ?_) (fun h34 => ?_)
   ·replace hm := ifF (of_ndec_true h34) hm
    refine g_k rfl rfl rfl rfl (g_k rfl rfl rfl rfl (j3 rfl rfl rfl (jf rfl rfl (g_k rfl rfl rfl rfl (g_k rfl rfl rfl rfl (j3 rfl rfl rfl (jf rfl rfl ?_)))))))
    refine g_k rfl rfl rfl rfl (g_k rfl rfl rfl rfl (j3 rfl rfl rfl (jf rfl rfl (g_k rfl rfl rfl rfl (g_k rfl rfl rfl rfl (j3 rfl rfl rfl (jf rfl rfl ?_)))))))
    refine g_k rfl rfl rfl rfl (g_k rfl rfl rfl rfl (j3 rfl rfl rfl (jf rfl rfl (g_k rfl rfl rfl rfl (g_k rfl rfl rfl rfl (j3 rfl rfl rfl (jf rfl rfl ?_)))))))
    refine g_k rfl rfl rfl rfl (g_k rfl rfl rfl rfl (g_k rfl rfl rfl rfl (g_k rfl rfl rfl rfl (j3 rfl rfl rfl (jv ?_)))))
    obtain rfl := sj hm
    exact jg () (trivial) (sE rfl) (hsE [] [] 0 rfl rfl rfl rfl)
   ·replace hm := ifT (of_ndec_false h34) hm
    refine ja rfl rfl (jf rfl rfl (ja rfl rfl (jc rfl rfl rfl (fun _ _ => kv rfl rfl) (ki rfl rfl rfl (jf rfl rfl ?_)))))
    refine jD 45 rfl (fun h35 => ?_) (fun h35 => ?_)
    ·replace hm := ifF (of_ndec_true h35) hm
     refine g_k rfl rfl rfl rfl (g_k rfl rfl rfl rfl (j3 rfl rfl rfl (jf rfl rfl (g_k rfl rfl rfl rfl (g_k rfl rfl rfl rfl (j3 rfl rfl rfl (jf rfl rfl ?_)))))))
     refine g_k rfl rfl rfl rfl (g_k rfl rfl rfl rfl (j3 rfl rfl rfl (jf rfl rfl (g_k rfl rfl rfl rfl (g_k rfl rfl rfl rfl (j3 rfl rfl rfl (jf rfl rfl ?_)))))))
     refine g_k rfl rfl rfl rfl (g_k rfl rfl rfl rfl (j3 rfl rfl rfl (jf rfl rfl (g_k rfl rfl rfl rfl (g_k rfl rfl rfl rfl (g_k rfl rfl rfl rfl (g_k rfl rfl rfl rfl ?_)))))))
     refine j3 rfl rfl rfl (jv ?_)
     obtain rfl := sj hm
     exact jg () (trivial) (sE rfl) (hsE [] [] 0 rfl rfl rfl rfl)
    ·replace hm := ifT (of_ndec_false h35) hm
     refine ja rfl rfl (jf rfl rfl (ja rfl rfl (jc rfl rfl rfl (fun _ _ => kv rfl rfl) (ki rfl rfl rfl (jf rfl rfl ?_)))))
     refine jD 49 rfl (fun h36 => ?_) (fun h36 => ?_)
     ·replace hm := ifF (of_ndec_true h36) hm
      refine g_k rfl rfl rfl rfl (g_k rfl rfl rfl rfl (j3 rfl rfl rfl (jf rfl rfl (g_k rfl rfl rfl rfl (g_k rfl rfl rfl rfl (j3 rfl rfl rfl (jf rfl rfl ?_)))))))
      refine g_k rfl rfl rfl rfl (g_k rfl rfl rfl rfl (j3 rfl rfl rfl (jf rfl rfl (g_k rfl rfl rfl rfl (g_k rfl rfl rfl rfl (j3 rfl rfl rfl (jf rfl rfl ?_)))))))
      refine g_k rfl rfl rfl rfl (g_k rfl rfl rfl rfl (g_k rfl rfl rfl rfl (g_k rfl rfl rfl rfl (j3 rfl rfl rfl (jv ?_)))))
      obtain rfl := sj hm
      exact jg () (trivial) (sE rfl) (hsE [] [] 0 rfl rfl rfl rfl)
     ·replace hm := ifT (of_ndec_false h36) hm
      refine ja rfl rfl (jf rfl rfl (ja rfl rfl (jc rfl rfl rfl (fun _ _ => kv rfl rfl) (ki rfl rfl rfl (jf rfl rfl ?_)))))
      refine jD 53 rfl (fun h37 => ?_) (fun h37 => ?_)
      ·replace hm := ifF (of_ndec_true h37) hm
       refine g_k rfl rfl rfl rfl (g_k rfl rfl rfl rfl (j3 rfl rfl rfl (jf rfl rfl (g_k rfl rfl rfl rfl (g_k rfl rfl rfl rfl (j3 rfl rfl rfl (jf rfl rfl ?_)))))))
       refine g_k rfl rfl rfl rfl (g_k rfl rfl rfl rfl (j3 rfl rfl rfl (jf rfl rfl (g_k rfl rfl rfl rfl (g_k rfl rfl rfl rfl (g_k rfl rfl rfl rfl (g_k rfl rfl rfl rfl ?_)))))))
       refine j3 rfl rfl rfl (jv ?_)
       obtain rfl := sj hm
       exact jg () (trivial) (sE rfl) (hsE [] [] 0 rfl rfl rfl rfl)
      ·replace hm := ifT (of_ndec_false h37) hm
       refine ja rfl rfl (jf rfl rfl (ja rfl rfl (jc rfl rfl rfl (fun _ _ => kv rfl rfl) (ki rfl rfl rfl (jf rfl rfl ?_)))))
       refine jD 57 rfl (fun h38 => ?_) (fun h38 => ?_)
       ·replace hm := ifF (of_ndec_true h38) hm
        refine g_k rfl rfl rfl rfl (g_k rfl rfl rfl rfl (j3 rfl rfl rfl (jf rfl rfl (g_k rfl rfl rfl rfl (g_k rfl rfl rfl rfl (j3 rfl rfl rfl (jf rfl rfl ?_)))))))
        refine g_k rfl rfl rfl rfl (g_k rfl rfl rfl rfl (g_k rfl rfl rfl rfl (g_k rfl rfl rfl rfl (j3 rfl rfl rfl (jv ?_)))))
        obtain rfl := sj hm
        exact jg () (trivial) (sE rfl) (hsE [] [] 0 rfl rfl rfl rfl)
       ·replace hm := ifT (of_ndec_false h38) hm
        refine ja rfl rfl (jf rfl rfl (ja rfl rfl (jc rfl rfl rfl (fun _ _ => kv rfl rfl) (ki rfl rfl rfl (jf rfl rfl ?_)))))
        refine jD 61 rfl (fun h39 => ?_) (fun h39 => ?_)
        ·replace hm := ifF (of_ndec_true h39) hm
         refine g_k rfl rfl rfl rfl (g_k rfl rfl rfl rfl (j3 rfl rfl rfl (jf rfl rfl (g_k rfl rfl rfl rfl (g_k rfl rfl rfl rfl (g_k rfl rfl rfl rfl (g_k rfl rfl rfl rfl ?_)))))))
         refine j3 rfl rfl rfl (jv ?_)
         obtain rfl := sj hm
         exact jg () (trivial) (sE rfl) (hsE [] [] 0 rfl rfl rfl rfl)
        ·replace hm := ifT (of_ndec_false h39) hm
         refine ja rfl rfl (jf rfl rfl (ja rfl rfl (jc rfl rfl rfl (fun _ _ => kv rfl rfl) (ki rfl rfl rfl (jf rfl rfl ?_)))))
         refine jD 65 rfl (fun h40 => ?_) (fun h40 => ?_)
         ·replace hm := ifF (of_ndec_true h40) hm
          refine g_k rfl rfl rfl rfl (g_k rfl rfl rfl rfl (g_k rfl rfl rfl rfl (g_k rfl rfl rfl rfl (j3 rfl rfl rfl (jv ?_)))))
          obtain rfl := sj hm
          exact jg () (trivial) (sE rfl) (hsE [] [] 0 rfl rfl rfl rfl)
         ·replace hm := ifT (of_ndec_false h40) hm
          refine ja rfl rfl (jf rfl rfl (ja rfl rfl ?_))
          refine kW RI [2, 0] (ps := [(0, _), (1, _)]) (cells := [_, _]) (fun w => Try.runUnderlying88 w) (fun w => Try.sizeOf91 w) (fun w => Try.zeroValue91 w) rfl rfl rfl rfl rfl rfl rfl rfl (fun L_2 h41 => ?_)
          refine ja rfl rfl ?_
          obtain ⟨t68, h42, hm⟩ := bindO hm
          refine jd [] [] rfl rfl rfl rfl rfl rfl rfl Try.call76 (fun w hh => Qu t28.r0 [2, 0] (qA l_5.q) l_5.n l_5.cap (qA L_2.q) L_2.n L_2.cap w (HV.callee (S0 := []) (vs0 := []) hh (roC (hh.vsepA 5 rfl h23) (roC (hh.vsepA 0 rfl h41) roN))) (vlen RI h23 rfl) (AOK.q (vne h23)) (h23).hle (vlen RI h41 rfl) (AOK.q (vne h41)) (h41).hle h42) (fun l_9 h43 => ?_)
          refine ja rfl rfl (jc rfl rfl rfl (fun _ _ => kq rfl) (ki rfl rfl rfl (jv ?_)))
          obtain rfl := sj hm
          exact jg () (trivial) (sE rfl) (hsE [] [] 0 rfl rfl rfl rfl)
  ·intro l_8 hj
   replace hm := h33
   refine jb ?_
   refine jq rfl (fun h44 => ?_) (fun h44 => ?_)
   ·replace hm := ifT (h44) hm
    refine jp (jm rfl rfl (jo (jw (je ?_))))
    obtain rfl := sj hm
    refine jn rfl (fun w hh => (.tmp rfl .nil)) (fun w hh => ⟨(), rfl, trivial, hh⟩)
   ·replace hm := ifN h44 hm
    refine jr (jb (jp ?_))
    obtain ⟨t72, h45, hm⟩ := bindO hm
    refine jd [] [] rfl rfl rfl rfl rfl rfl rfl Try.call75 (fun w hh => zT 10 15 w (HV.callee (S0 := []) (vs0 := []) hh roN)  h45) (fun l_10 h46 => ?_)
    obtain ⟨h47, h48⟩ := h46
    refine jS (S' := []) (vs' := [_, _]) [] [0, 1] 0 rfl rfl rfl rfl ?_
    refine kW RI [0, 1, 2] (ps := [(0, _), (1, _), (2, _)]) (cells := [_, _, _]) (fun w => Try.runUnderlying32 w) (fun w => Try.sizeOf3 w) (fun w => Try.zeroValue3 w) rfl rfl rfl rfl rfl rfl rfl rfl (fun L_3 h49 => ?_)
    refine jc rfl rfl rfl (fun _ _ => jG (vs := [(1, _)]) (cells := [_, _]) rfl rfl) ?_
    obtain ⟨t75, h50, hm⟩ := bindO hm
    refine jd [] [] rfl rfl rfl rfl rfl rfl rfl Try.call36 (fun w hh => Zg t72 (⟨false, [0, 1, 2]⟩ : Lack) (qA l_10.1.q) l_10.1.n l_10.1.cap (qA l_10.2.q) l_10.2.n l_10.2.cap (qA L_3.q) L_3.n L_3.cap w (HV.callee (S0 := []) (vs0 := []) hh (roC (hh.vsepA 1 rfl h47) (roC (hh.vsepA 2 rfl h48) (roC (hh.vsepA 0 rfl h49) roN)))) (vlen RSt h47 rfl) (AOK.q (vne h47)) (h47).hle (vlen RSp h48 rfl) (AOK.q (vne h48)) (h48).hle (vlen RI h49 rfl) (AOK.q (vne h49)) (h49).hle h50) (fun l_11 h51 => ?_)
    refine jf rfl rfl (kj rfl rfl rfl (kj rfl rfl rfl (jm rfl rfl (jm rfl rfl (j1 ?_)))))
    obtain ⟨t79, h52, hm⟩ := bindO hm
    refine jd [] [] rfl rfl rfl rfl rfl rfl rfl Try.call75 (fun w hh => zT 10 15 w (HV.callee (S0 := []) (vs0 := []) hh roN)  h52) (fun l_12 h53 => ?_)
    obtain ⟨h54, h55⟩ := h53
    refine jS (S' := []) (vs' := [_, _, _, _, _]) [] [0, 1, 2, 3, 4] 0 rfl rfl rfl rfl ?_
    refine kW RI [0, 2] (ps := [(0, _), (1, _)]) (cells := [_, _]) (fun w => Try.runUnderlying32 w) (fun w => Try.sizeOf3 w) (fun w => Try.zeroValue3 w) rfl rfl rfl rfl rfl rfl rfl rfl (fun L_4 h56 => ?_)
    refine jc rfl rfl rfl (fun _ _ => jG (vs := [(1, _)]) (cells := [_, _]) rfl rfl) ?_
    obtain ⟨t82, h57, hm⟩ := bindO hm
    refine jd [] [] rfl rfl rfl rfl rfl rfl rfl Try.call36 (fun w hh => Zg t79 (⟨false, [0, 2]⟩ : Lack) (qA l_12.1.q) l_12.1.n l_12.1.cap (qA l_12.2.q) l_12.2.n l_12.2.cap (qA L_4.q) L_4.n L_4.cap w (HV.callee (S0 := []) (vs0 := []) hh (roC (hh.vsepA 1 rfl h54) (roC (hh.vsepA 2 rfl h55) (roC (hh.vsepA 0 rfl h56) roN)))) (vlen RSt h54 rfl) (AOK.q (vne h54)) (h54).hle (vlen RSp h55 rfl) (AOK.q (vne h55)) (h55).hle (vlen RI h56 rfl) (AOK.q (vne h56)) (h56).hle h57) (fun l_13 h58 => ?_)
    refine jf rfl rfl (kj rfl rfl rfl (kj rfl rfl rfl (jm rfl rfl (jm rfl rfl (j1 ?_)))))
    obtain ⟨t86, h59, hm⟩ := bindO hm
    refine jd [] [] rfl rfl rfl rfl rfl rfl rfl Try.call75 (fun w hh => zT 10 15 w (HV.callee (S0 := []) (vs0 := []) hh roN)  h59) (fun l_14 h60 => ?_)
    obtain ⟨h61, h62⟩ := h60
    refine jS (S' := []) (vs' := [_, _, _, _, _, _, _, _]) [] [0, 1, 2, 3, 4, 5, 6, 7] 0 rfl rfl rfl rfl ?_
    obtain ⟨t87, h63, hm⟩ := bindO hm
    refine jd [] [] rfl rfl rfl rfl rfl rfl rfl Try.call27 (fun w hh => YM t86 (qA l_14.1.q) l_14.1.n l_14.1.cap (qA l_14.2.q) l_14.2.n l_14.2.cap w (HV.callee (S0 := []) (vs0 := []) hh (roC (hh.vsepA 0 rfl h61) (roC (hh.vsepA 1 rfl h62) roN))) (vlen RSt h61 rfl) (AOK.q (vne h61)) (h61).hle (vlen RSp h62 rfl) (AOK.q (vne h62)) (h62).hle h63) (fun l_15 h64 => ?_)
    obtain ⟨h65, h66⟩ := h64
    refine jS (S' := []) (vs' := [_, _, _, _, _, _, _, _, _]) [] [0, 1, 2, 3, 4, 5, 6, 7, 8] 0 rfl rfl rfl rfl (jf rfl rfl (kj rfl rfl rfl (kj rfl rfl rfl (jm rfl rfl (j1 ?_)))))
    obtain ⟨t91, h67, hm⟩ := bindO hm
    refine jd [] [] rfl rfl rfl rfl rfl rfl rfl Try.call75 (fun w hh => zT 22 25 w (HV.callee (S0 := []) (vs0 := []) hh roN)  h67) (fun l_16 h68 => ?_)
    obtain ⟨h69, h70⟩ := h68
    refine jS (S' := []) (vs' := [_, _, _, _, _, _, _, _, _, _, _]) [] [0, 1, 2, 3, 4, 5, 6, 7, 8, 9, 10] 0 rfl rfl rfl rfl (jc rfl rfl rfl (fun _ _ => jG (vs := [(0, _), (1, _)]) (cells := [_, _]) rfl rfl) ?_)
    obtain ⟨t93, h71, hm⟩ := bindO hm
    refine jd [] [] rfl rfl rfl rfl rfl rfl rfl Try.call14 (fun w hh => Z9 t91 0 (⟨24, 30⟩ : Span) (qA l_16.1.q) l_16.1.n l_16.1.cap (qA l_16.2.q) l_16.2.n l_16.2.cap w (HV.callee (S0 := []) (vs0 := []) hh (roC (hh.vsepA 0 rfl h69) (roC (hh.vsepA 1 rfl h70) roN))) (vlen RSt h69 rfl) (AOK.q (vne h69)) (h69).hle (vlen RSp h70 rfl) (AOK.q (vne h70)) (h70).hle h71) (fun l_17 h72 => ?_)
    obtain ⟨h73, h74⟩ := h72
    refine jS (S' := []) (vs' := [_, _, _, _, _, _, _, _, _, _, _, _, _]) [] [0, 1, 2, 3, 4, 5, 6, 7, 8, 9, 10, 11, 12] 0 rfl rfl rfl rfl (jf rfl rfl (kj rfl rfl rfl (kj rfl rfl rfl ?_)))
    refine jt (fun w => Try.zeroValue28 w) rfl (fun b h75 => ?_)
    refine jE (us := #[_, _]) (cs' := [_, _]) (S' := [_]) 0 (fun w => Try.sizeOf28 w) rfl rfl rfl rfl rfl rfl rfl (jm rfl rfl (jo (jj ?_)))
    obtain ⟨o_1, h76, h77⟩ := bindO hm
    refine jC (ι := Unit) (fun l_18 => True) (fun l_18 => [(0, .bool o_1)]) (fun l_18 => [(b, .cells #[slv l_17.1.q l_17.1.n l_17.1.cap, slv l_17.2.q l_17.2.n l_17.2.cap] 28 (0, 0))]) (fun l_18 => [⟨77, RSt.enc t93.r0.strips, l_17.1.sp, l_17.1.q, []⟩, ⟨37, RSp.enc t93.r0.carried, l_17.2.sp, l_17.2.q, []⟩]) ?_ ?_
    ·replace hm := h76
     refine jh (jf rfl rfl (jc rfl rfl rfl (fun _ _ => zr rfl rfl) (jf rfl rfl ?_)))
     refine jD 98 rfl (fun h78 => ?_) (fun h78 => ?_)
     ·replace hm := ifD h78 hm
      refine ja rfl rfl (jf rfl rfl (ja rfl rfl (jc rfl rfl rfl (fun _ _ => zr rfl rfl) (j3 rfl rfl rfl (jf rfl rfl ?_)))))
      refine jD 102 rfl (fun h79 => ?_) (fun h79 => ?_)
      ·replace hm := ifD h79 hm
       refine ja rfl rfl (jf rfl rfl (ja rfl rfl (jc rfl rfl rfl (fun _ _ => zr rfl rfl) (j3 rfl rfl rfl (jf rfl rfl ?_)))))
       refine jD 106 rfl (fun h80 => ?_) (fun h80 => ?_)
       ·replace hm := ifD h80 hm
        refine ja rfl rfl (jf rfl rfl (ja rfl rfl (jc rfl rfl rfl (fun _ _ => zr rfl rfl) (j3 rfl rfl rfl (jf rfl rfl ?_)))))
        refine jD 110 rfl (fun h81 => ?_) (fun h81 => ?_)
        ·replace hm := ifD h81 hm
         refine ja rfl rfl (jf rfl rfl (ja rfl rfl (jc rfl rfl rfl (fun _ _ => zr rfl rfl) (j3 rfl rfl rfl (jf rfl rfl ?_)))))
         refine jD 114 rfl (fun h82 => ?_) (fun h82 => ?_)
         ·replace hm := ifD h82 hm
          refine ja rfl rfl (jf rfl rfl (ja rfl rfl (jc rfl rfl rfl (fun _ _ => zr rfl rfl) (j3 rfl rfl rfl (jf rfl rfl ?_)))))
          refine jD 118 rfl (fun h83 => ?_) (fun h83 => ?_)
          ·replace hm := ifD h83 hm
           refine ja rfl rfl (jL 1 Try.runUnderlying28 rfl Try.sizeOf26 rfl rfl (ja rfl rfl (jU 0 Try.isAgg26 rfl rfl rfl rfl (ja rfl rfl (jc rfl rfl rfl (fun w _ => JI (vlen RSp h74 rfl) (Try.runUnderlying26 w) rfl) (ja rfl rfl (jc rfl rfl rfl (fun _ _ => zr rfl rfl) ?_)))))))
           refine j3 rfl rfl rfl (jf rfl rfl ?_)
           refine jD 124 rfl (fun h84 => ?_) (fun h84 => ?_)
           ·replace hm := ifD h84 hm
            refine ja rfl rfl (jL 1 Try.runUnderlying28 rfl Try.sizeOf26 rfl rfl (ja rfl rfl (jU 0 Try.isAgg26 rfl rfl rfl rfl (ja rfl rfl ?_))))
            obtain ⟨t127, h85, hm⟩ := bindO hm
            refine jc rfl rfl rfl (fun w _ => qe h85 (Try.runUnderlying26 w) (Try.sizeOf37 w) rfl rfl (vlen RSp h74 rfl) (vne h74)) (ja rfl rfl ?_)
            refine jc rfl rfl rfl (fun w hh => kk RSp 0 [.int .i64 t127.lo, .int .i64 t127.hi] h85 (Try.isAgg37 w) (Try.sizeOf37 w) rfl (hh.vseg 1 rfl h74) rfl (Nat.add_zero _).symm) ?_
            refine ja rfl rfl (jc rfl rfl rfl (fun _ _ => jG (vs := [(0, _), (1, _)]) (cells := [_, _]) rfl rfl) (ja rfl rfl (jc rfl rfl rfl (fun w _ => ZL (jaw t127 (⟨24, 25⟩ : Span) w) Z3 rfl rfl) (j3 rfl rfl rfl (jm rfl rfl (jv ?_))))))
            obtain rfl := sj hm
            exact jg () (trivial) (sE rfl) (hsE [0] [0, 1] 0 rfl rfl rfl rfl)
           ·replace hm := ifE h84 hm
            refine g_k rfl rfl rfl rfl (g_k rfl rfl rfl rfl (g_k rfl rfl rfl rfl (g_k rfl rfl rfl rfl (g_k rfl rfl rfl rfl (g_k rfl rfl rfl rfl (ki rfl rfl rfl (jm rfl rfl ?_)))))))
            refine jv ?_
            obtain rfl := sj hm
            exact jg () (trivial) (sE rfl) (hsE [0] [0, 1] 0 rfl rfl rfl rfl)
          ·replace hm := ifE h83 hm
           refine g_k rfl rfl rfl rfl (g_k rfl rfl rfl rfl (g_k rfl rfl rfl rfl (g_k rfl rfl rfl rfl (ki rfl rfl rfl (jf rfl rfl (g_k rfl rfl rfl rfl (g_k rfl rfl rfl rfl ?_)))))))
           refine g_k rfl rfl rfl rfl (g_k rfl rfl rfl rfl (g_k rfl rfl rfl rfl (g_k rfl rfl rfl rfl (ki rfl rfl rfl (jm rfl rfl (jv ?_))))))
           obtain rfl := sj hm
           exact jg () (trivial) (sE rfl) (hsE [0] [0, 1] 0 rfl rfl rfl rfl)
         ·replace hm := ifE h82 hm
          refine g_k rfl rfl rfl rfl (g_k rfl rfl rfl rfl (ki rfl rfl rfl (jf rfl rfl (g_k rfl rfl rfl rfl (g_k rfl rfl rfl rfl (g_k rfl rfl rfl rfl (g_k rfl rfl rfl rfl ?_)))))))
          refine ki rfl rfl rfl (jf rfl rfl (g_k rfl rfl rfl rfl (g_k rfl rfl rfl rfl (g_k rfl rfl rfl rfl (g_k rfl rfl rfl rfl (g_k rfl rfl rfl rfl (g_k rfl rfl rfl rfl ?_)))))))
          refine ki rfl rfl rfl (jm rfl rfl (jv ?_))
          obtain rfl := sj hm
          exact jg () (trivial) (sE rfl) (hsE [0] [0, 1] 0 rfl rfl rfl rfl)
        ·replace hm := ifE h81 hm
         refine g_k rfl rfl rfl rfl (g_k rfl rfl rfl rfl (ki rfl rfl rfl (jf rfl rfl (g_k rfl rfl rfl rfl (g_k rfl rfl rfl rfl (ki rfl rfl rfl (jf rfl rfl ?_)))))))
         refine g_k rfl rfl rfl rfl (g_k rfl rfl rfl rfl (g_k rfl rfl rfl rfl (g_k rfl rfl rfl rfl (ki rfl rfl rfl (jf rfl rfl (g_k rfl rfl rfl rfl (g_k rfl rfl rfl rfl ?_)))))))
         refine g_k rfl rfl rfl rfl (g_k rfl rfl rfl rfl (g_k rfl rfl rfl rfl (g_k rfl rfl rfl rfl (ki rfl rfl rfl (jm rfl rfl (jv ?_))))))
         obtain rfl := sj hm
         exact jg () (trivial) (sE rfl) (hsE [0] [0, 1] 0 rfl rfl rfl rfl)
       ·replace hm := ifE h80 hm
        refine g_k rfl rfl rfl rfl (g_k rfl rfl rfl rfl (ki rfl rfl rfl (jf rfl rfl (g_k rfl rfl rfl rfl (g_k rfl rfl rfl rfl (ki rfl rfl rfl (jf rfl rfl ?_)))))))
        refine g_k rfl rfl rfl rfl (g_k rfl rfl rfl rfl (ki rfl rfl rfl (jf rfl rfl (g_k rfl rfl rfl rfl (g_k rfl rfl rfl rfl (g_k rfl rfl rfl rfl (g_k rfl rfl rfl rfl ?_)))))))
        refine ki rfl rfl rfl (jf rfl rfl (g_k rfl rfl rfl rfl (g_k rfl rfl rfl rfl (g_k rfl rfl rfl rfl (g_k rfl rfl rfl rfl (g_k rfl rfl rfl rfl (g_k rfl rfl rfl rfl ?_)))))))
        refine ki rfl rfl rfl (jm rfl rfl (jv ?_))
        obtain rfl := sj hm
        exact jg () (trivial) (sE rfl) (hsE [0] [0, 1] 0 rfl rfl rfl rfl)
      ·replace hm := ifE h79 hm
       refine g_k rfl rfl rfl rfl (g_k rfl rfl rfl rfl (ki rfl rfl rfl (jf rfl rfl (g_k rfl rfl rfl rfl (g_k rfl rfl rfl rfl (ki rfl rfl rfl (jf rfl rfl ?_)))))))
       refine g_k rfl rfl rfl rfl (g_k rfl rfl rfl rfl (ki rfl rfl rfl (jf rfl rfl (g_k rfl rfl rfl rfl (g_k rfl rfl rfl rfl (ki rfl rfl rfl (jf rfl rfl ?_)))))))
       refine g_k rfl rfl rfl rfl (g_k rfl rfl rfl rfl (g_k rfl rfl rfl rfl (g_k rfl rfl rfl rfl (ki rfl rfl rfl (jf rfl rfl (g_k rfl rfl rfl rfl (g_k rfl rfl rfl rfl ?_)))))))
       refine g_k rfl rfl rfl rfl (g_k rfl rfl rfl rfl (g_k rfl rfl rfl rfl (g_k rfl rfl rfl rfl (ki rfl rfl rfl (jm rfl rfl (jv ?_))))))
       obtain rfl := sj hm
       exact jg () (trivial) (sE rfl) (hsE [0] [0, 1] 0 rfl rfl rfl rfl)
     ·replace hm := ifE h78 hm
      refine g_k rfl rfl rfl rfl (g_k rfl rfl rfl rfl (ki rfl rfl rfl (jf rfl rfl (g_k rfl rfl rfl rfl (g_k rfl rfl rfl rfl (ki rfl rfl rfl (jf rfl rfl ?_)))))))
      refine g_k rfl rfl rfl rfl (g_k rfl rfl rfl rfl (ki rfl rfl rfl (jf rfl rfl (g_k rfl rfl rfl rfl (g_k rfl rfl rfl rfl (ki rfl rfl rfl (jf rfl rfl ?_)))))))
      refine g_k rfl rfl rfl rfl (g_k rfl rfl rfl rfl (ki rfl rfl rfl (jf rfl rfl (g_k rfl rfl rfl rfl (g_k rfl rfl rfl rfl (g_k rfl rfl rfl rfl (g_k rfl rfl rfl rfl ?_)))))))
      refine ki rfl rfl rfl (jf rfl rfl (g_k rfl rfl rfl rfl (g_k rfl rfl rfl rfl (g_k rfl rfl rfl rfl (g_k rfl rfl rfl rfl (g_k rfl rfl rfl rfl (g_k rfl rfl rfl rfl ?_)))))))
      refine ki rfl rfl rfl (jm rfl rfl (jv ?_))
      obtain rfl := sj hm
      exact jg () (trivial) (sE rfl) (hsE [0] [0, 1] 0 rfl rfl rfl rfl)
    ·intro l_18 hj
     replace hm := h77
     refine jb (jw ?_)
     obtain rfl := sj hm
     refine jn rfl (fun w hh => (.tmp rfl .nil)) (fun w hh => ⟨(), rfl, trivial, hh.se [] [] 0 rfl rfl rfl rfl⟩)
end Go.Proofs.Ws

namespace Go.Sp
def sumI {α : Type} (f : α → Int) : List α → Int
  | [] => 0
  | x :: l => f x + sumI f l
theorem sumI_append {α : Type} (f : α → Int) : ∀ l m : List α, sumI f (l ++ m) = sumI f l + sumI f m
  | [], m => by simp [sumI]
  | x :: l, m => by simp only [List.cons_append, sumI, sumI_append f l m]; omega
theorem sumI_congr {α : Type} {f g : α → Int} : ∀ {l : List α}, (∀ x, x ∈ l → f x = g x) → sumI f l = sumI g l
  | [], _ => rfl
  | x :: l, h => by
    simp only [sumI]
    rw [h x (by simp), sumI_congr (l := l) (fun y hy => h y (by simp [hy]))]
theorem sumI_le {α : Type} {f g : α → Int} : ∀ {l : List α}, (∀ x, x ∈ l → f x ≤ g x) → sumI f l ≤ sumI g l
  | [], _ => by simp [sumI]
  | x :: l, h => by
    have h1 := h x (by simp)
    have h2 := sumI_le (l := l) (fun y hy => h y (by simp [hy]))
    simp only [sumI]; omega
theorem sumI_zero {α : Type} : ∀ l : List α, sumI (fun _ => 0) l = 0
  | [] => rfl
  | x :: l => by simp only [sumI, sumI_zero l]; omega
theorem sumI_map {α β : Type} (f : β → Int) (g : α → β) : ∀ l : List α, sumI f (l.map g) = sumI (fun x => f (g x)) l
  | [] => rfl
  | x :: l => by simp only [List.map_cons, sumI, sumI_map f g l]
def base (w : Wy) : Wy := { w with goes := 0 }
def Same (l l' : List Wy) : Prop := l.map base = l'.map base
theorem Same.refl (l : List Wy) : Same l l := rfl
theorem Same.symm {l l' : List Wy} (h : Same l l') : Same l' l := Eq.symm h
theorem Same.trans {a b c : List Wy} (h : Same a b) (k : Same b c) : Same a c := Eq.trans h k
theorem Same.len {l l' : List Wy} (h : Same l l') : l.length = l'.length := by have := congrArg List.length h; simpa using this
theorem Same.cons {w w' : Wy} {l l' : List Wy} (h : Same (w :: l) (w' :: l')) : base w = base w' ∧ Same l l' := by
  have : base w :: l.map base = base w' :: l'.map base := h
  injection this with h1 h2
  exact ⟨h1, h2⟩
theorem base_eq {w w' : Wy} (h : base w = base w') : w.fr = w'.fr ∧ w.dst = w'.dst ∧ w.lo = w'.lo ∧ w.hi = w'.hi ∧ w.cost = w'.cost := by
  cases w; cases w'
  simp only [base, Wy.mk.injEq] at h
  exact ⟨h.1, h.2.1, h.2.2.1, h.2.2.2.1, h.2.2.2.2.1⟩
def bal (φ : Int → Int) (l : List Wy) : Int := sumI (fun w => (φ w.dst - φ w.fr) * w.goes) l
def costs (l : List Wy) : Int := sumI (fun w => w.cost * w.goes) l
def Round (l : List Wy) : Prop := ∀ φ, bal φ l = 0
def Within (l : List Wy) : Prop := ∀ w, w ∈ l → w.lo ≤ w.goes ∧ w.goes ≤ w.hi
def Pot (π : Int → Int) (l : List Wy) : Prop := ∀ w, w ∈ l → (w.goes < w.hi → π w.dst ≤ π w.fr + w.cost) ∧ (min w.lo w.goes < w.goes → π w.fr ≤ π w.dst - w.cost)
theorem Pot.cheap {π : Int → Int} : ∀ {l l' : List Wy}, Same l l' → Pot π l → Within l' → costs l - bal π l ≤ costs l' - bal π l'
  | [], [], _, _, _ => by simp [costs, bal, sumI]
  | [], w' :: l', h, _, _ => by have := Same.len h; simp at this
  | w :: l, [], h, _, _ => by have := Same.len h; simp at this
  | w :: l, w' :: l', h, hp, hw => by
    obtain ⟨hb, hs⟩ := h.cons
    obtain ⟨e1, e2, e3, e4, e5⟩ := base_eq hb
    have ih := Pot.cheap hs (fun x hx => hp x (by simp [hx])) (fun x hx => hw x (by simp [hx]))
    obtain ⟨p1, p2⟩ := hp w (by simp)
    obtain ⟨w1, w2⟩ := hw w' (by simp)
    unfold costs bal at ih ⊢
    simp only [sumI]
    have key : w.cost * w.goes - (π w.dst - π w.fr) * w.goes ≤ w'.cost * w'.goes - (π w'.dst - π w'.fr) * w'.goes := by
      rw [← e5, ← e1, ← e2, ← Int.sub_mul, ← Int.sub_mul]
      have h0 : 0 ≤ (w.cost - (π w.dst - π w.fr)) * (w'.goes - w.goes) := by
        by_cases h1 : w.goes < w'.goes
        · have := p1 (by omega)
          exact Int.mul_nonneg (by omega) (by omega)
        · by_cases h2 : w'.goes < w.goes
          · have := p2 (by omega)
            have h3 := Int.mul_nonneg (a := -(w.cost - (π w.dst - π w.fr))) (b := -(w'.goes - w.goes)) (by omega) (by omega)
            rwa [Int.neg_mul_neg] at h3
          · have : w'.goes - w.goes = 0 := by omega
            rw [this, Int.mul_zero]; omega
      rw [Int.mul_sub] at h0
      omega
    omega
theorem Pot.least {π : Int → Int} {l l' : List Wy} (h : Same l l') (hp : Pot π l) (hr : Round l) (hw : Within l') (hr' : Round l') : costs l ≤ costs l' := by
  have := Pot.cheap h hp hw
  rw [hr π, hr' π] at this
  omega
def Cut (S : Int → Bool) (l : List Wy) : Prop := ∀ w, w ∈ l → (S w.fr = true → S w.dst = false → w.hi ≤ w.goes) ∧ (S w.fr = false → S w.dst = true → w.goes ≤ w.lo)
def ind (S : Int → Bool) (v : Int) : Int := if S v = true then 1 else 0
def gap (S : Int → Bool) (l : List Wy) : Int := sumI (fun w => if S w.fr = false ∧ S w.dst = true then w.lo else if S w.fr = true ∧ S w.dst = false then - w.hi else 0) l
theorem Cut.gap {S : Int → Bool} {l : List Wy} (h : Cut S l) (hr : Round l) {w0 : Wy} (h0 : w0 ∈ l) (h1 : S w0.fr = false) (h2 : S w0.dst = true) (h3 : w0.goes < w0.lo) : 0 < gap S l := by
  have hb := hr (ind S)
  have key : ∀ m : List Wy, (∀ w, w ∈ m → (S w.fr = true → S w.dst = false → w.hi ≤ w.goes) ∧ (S w.fr = false → S w.dst = true → w.goes ≤ w.lo)) → bal (ind S) m ≤ Go.Sp.gap S m ∧ (w0 ∈ m → bal (ind S) m < Go.Sp.gap S m) := by
    intro m
    induction m with
    | nil => intro _; exact ⟨by simp [bal, Go.Sp.gap, sumI], fun h => by cases h⟩
    | cons w m ih =>
      intro hm
      obtain ⟨i1, i2⟩ := ih (fun x hx => hm x (by simp [hx]))
      obtain ⟨c1, c2⟩ := hm w (by simp)
      have hterm : (ind S w.dst - ind S w.fr) * w.goes ≤ (if S w.fr = false ∧ S w.dst = true then w.lo else if S w.fr = true ∧ S w.dst = false then - w.hi else 0) := by
        cases hf : S w.fr <;> cases hd : S w.dst <;> simp only [ind, hf, hd, if_true, if_false, Bool.false_eq_true, and_self, and_true, true_and, and_false, false_and, reduceCtorEq, Bool.true_eq_false]
        · simp
        · have := c2 hf hd; omega
        · have := c1 hf hd; omega
        · simp
      unfold bal Go.Sp.gap at i1 i2 ⊢
      simp only [sumI]
      refine ⟨by omega, fun hmem => ?_⟩
      rcases List.mem_cons.1 hmem with rfl | hmem
      · have e1 : (ind S w0.dst - ind S w0.fr) * w0.goes = w0.goes := by simp [ind, h1, h2]
        have e2 : (if S w0.fr = false ∧ S w0.dst = true then w0.lo else if S w0.fr = true ∧ S w0.dst = false then - w0.hi else 0) = w0.lo := by simp [h1, h2]
        rw [e1, e2]
        omega
      · have := i2 hmem; omega
  have := (key l h).2 h0
  omega
theorem gap_le {S : Int → Bool} {l : List Wy} (hr : Round l) (hw : Within l) : gap S l ≤ 0 := by
  have hb := hr (ind S)
  have : gap S l ≤ bal (ind S) l := by
    unfold gap bal
    refine sumI_le fun w hm => ?_
    obtain ⟨c1, c2⟩ := hw w hm
    cases hf : S w.fr <;> cases hd : S w.dst <;> simp only [ind, hf, hd, if_true, if_false, Bool.false_eq_true, and_self, and_true, true_and, and_false, false_and, reduceCtorEq, Bool.true_eq_false] <;> omega
  omega
theorem gap_same {S : Int → Bool} : ∀ {l l' : List Wy}, Same l l' → gap S l = gap S l'
  | [], [], _ => rfl
  | [], w' :: l', h => by have := Same.len h; simp at this
  | w :: l, [], h => by have := Same.len h; simp at this
  | w :: l, w' :: l', h => by
    obtain ⟨hb, hs⟩ := h.cons
    obtain ⟨e1, e2, e3, e4, e5⟩ := base_eq hb
    have := gap_same (S := S) hs
    unfold gap at this ⊢
    simp only [sumI]
    rw [this, e1, e2, e3, e4]
end Go.Sp

namespace Go.Sp
section
variable (A B C : Change → Int)
structure BF where
  far : Int → Int
  pre : Int → Change
  last : Int
def upd {α : Type} (f : Int → α) (b : Int) (v : α) : Int → α := fun x => if x = b then v else f x
theorem upd_same {α : Type} {f : Int → α} {b : Int} {v : α} : upd f b v b = v := by simp [upd]
theorem upd_ne {α : Type} {f : Int → α} {b x : Int} {v : α} (h : x ≠ b) : upd f b v x = f x := by simp [upd, h]
def relax (s : BF) (c : Change) : BF := if s.far (A c) + C c < s.far (B c) then ⟨upd s.far (B c) (s.far (A c) + C c), upd s.pre (B c) c, B c⟩ else s
def pred (s : BF) (x : Int) : Int := A (s.pre x)
def iterP (p : Int → Int) : Nat → Int → Int
  | 0, x => x
  | k + 1, x => iterP p k (p x)
theorem iterP_succ (p : Int → Int) : ∀ (k : Nat) (x : Int), iterP p (k + 1) x = p (iterP p k x)
  | 0, x => rfl
  | k + 1, x => by
    show iterP p (k + 1) (p x) = p (iterP p k (p x))
    exact iterP_succ p k (p x)
theorem iterP_add (p : Int → Int) : ∀ (j k : Nat) (x : Int), iterP p (j + k) x = iterP p j (iterP p k x)
  | j, 0, x => rfl
  | j, k + 1, x => by
    show iterP p (j + k) (p x) = _
    rw [iterP_add p j k (p x)]
    rfl
structure Inv (cs : List Change) (r : Nat) (todo : List Change) (rel : Int → Nat) (N : Nat) (s : BF) : Prop where
  lo : ∀ x, - (N : Int) ≤ s.far x
  hi : ∀ x, s.far x ≤ 0
  le : ∀ x, rel x ≤ r
  pc : ∀ x, 1 ≤ rel x → s.pre x ∈ cs ∧ B (s.pre x) = x ∧ s.far (A (s.pre x)) + C (s.pre x) ≤ s.far x ∧ rel x ≤ rel (A (s.pre x)) + 1
  done : ∀ c, c ∈ cs → c ∈ todo ∨ s.far (B c) ≤ s.far (A c) + C c ∨ r ≤ rel (A c)
  left : ∀ c, c ∈ cs → s.far (B c) ≤ s.far (A c) + C c ∨ r ≤ rel (A c) + 1
  strict : ∀ y k, 0 < k → (∀ i, i < k → 1 ≤ rel (iterP (pred A s) i y)) → iterP (pred A s) k y = y → ∃ i, i < k ∧ s.far (iterP (pred A s) (i + 1) y) + C (s.pre (iterP (pred A s) i y)) < s.far (iterP (pred A s) i y)
  lst : 1 ≤ r → (∀ x, rel x = r → 0 ≤ s.last) ∧ (0 ≤ s.last → rel s.last = r)
variable {A B C}
theorem Inv.step {cs : List Change} (hne : ∀ c, c ∈ cs → A c ≠ B c) (hB : ∀ c, c ∈ cs → 0 ≤ B c) (hC : ∀ c, c ∈ cs → -1 ≤ C c) {r : Nat} (hr : 1 ≤ r) {c : Change} {todo : List Change} {rel : Int → Nat} {N : Nat} {s : BF} (hc : c ∈ cs) (h : Inv A B C cs r (c :: todo) rel N s) :
    ∃ rel', Inv A B C cs r todo rel' (N + 1) (relax A B C s c) ∧ ∀ x, rel x ≤ rel' x := by
  unfold relax
  by_cases hlt : s.far (A c) + C c < s.far (B c)
  · rw [if_pos hlt]
    have hlo := h.lo (A c)
    have hhi := h.hi (B c)
    have hcc := hC c hc
    have hne' := hne c hc
    have hleft : r ≤ rel (A c) + 1 := by rcases h.left c hc with h1 | h1; · omega
                                         · exact h1
    refine ⟨fun x => if x = B c then r else rel x, ?_, fun x => ?_⟩
    rotate_left
    · have := h.le x
      simp only; split <;> omega
    have hrel : ∀ x, (if x = B c then r else rel x) = if x = B c then r else rel x := fun _ => rfl
    have hfarle : ∀ x, upd s.far (B c) (s.far (A c) + C c) x ≤ s.far x := fun x => by
      unfold upd; split
      · rename_i e; subst e; omega
      · omega
    -- the predecessor of a node
    have hpred : ∀ x, pred A ⟨upd s.far (B c) (s.far (A c) + C c), upd s.pre (B c) c, B c⟩ x = if x = B c then A c else pred A s x := fun x => by
      unfold pred upd; simp only; split <;> rfl
    refine ⟨fun x => ?_, fun x => ?_, fun x => ?_, fun x hx => ?_, fun d hd => ?_, fun d hd => ?_, fun y k hk hall hcyc => ?_, fun _ => ⟨fun x _ => hB c hc, fun _ => by simp⟩⟩
    · have := h.lo x
      simp only [upd]; split <;> omega
    · have := h.hi x; have := hfarle x; simp only at *; omega
    · have := h.le x
      show (if x = B c then r else rel x) ≤ r
      split <;> omega
    · simp only at hx ⊢
      by_cases hxb : x = B c
      · subst hxb
        rw [upd_same, upd_same, upd_ne hne', if_pos rfl, if_neg hne']
        exact ⟨hc, rfl, Int.le_refl _, hleft⟩
      · rw [if_neg hxb] at hx
        rw [upd_ne hxb, upd_ne hxb, if_neg hxb]
        obtain ⟨h1, h2, h3, h4⟩ := h.pc x hx
        refine ⟨h1, h2, ?_, ?_⟩
        · have := hfarle (A (s.pre x)); omega
        · have := h.le x
          split
          · omega
          · exact h4
    · simp only
      by_cases hda : A d = B c
      · right; right; rw [if_pos hda]; exact Nat.le_refl _
      · rw [if_neg hda, upd_ne hda]
        by_cases hdc : d = c
        · subst hdc
          right; left
          rw [upd_same]; exact Int.le_refl _
        · rcases h.done d hd with h1 | h1 | h1
          · rcases List.mem_cons.1 h1 with h1 | h1
            · exact absurd h1 hdc
            · exact .inl h1
          · right; left; have := hfarle (B d); omega
          · exact .inr (.inr h1)
    · simp only
      by_cases hda : A d = B c
      · right; rw [if_pos hda]; omega
      · rw [if_neg hda, upd_ne hda]
        rcases h.left d hd with h1 | h1
        · left; have := hfarle (B d); omega
        · exact .inr h1
    · -- what goes round
      generalize hp' : pred A ⟨upd s.far (B c) (s.far (A c) + C c), upd s.pre (B c) c, B c⟩ = p' at hall hcyc hpred ⊢
      by_cases hb : ∃ m, m < k ∧ iterP p' m y = B c
      · -- it leads over the node that turned: the one behind it is slack
        obtain ⟨m, hm, hmb⟩ := hb
        have key : ∃ i, i < k ∧ iterP p' (i + 1) y = B c := by
          cases m with
          | zero => exact ⟨k - 1, by omega, by rw [show k - 1 + 1 = k by omega, hcyc]; exact hmb⟩
          | succ m => exact ⟨m, by omega, hmb⟩
        obtain ⟨i, hi, hib⟩ := key
        refine ⟨i, hi, ?_⟩
        have hz : p' (iterP p' i y) = B c := (iterP_succ p' i y).symm.trans hib
        rw [hib]
        have hri := hall i hi
        generalize iterP p' i y = z at hri hz ⊢
        by_cases hzb : z = B c
        · subst hzb
          rw [hpred, if_pos rfl] at hz
          exact absurd hz hne'
        · simp only [upd_ne hzb, upd_same, hzb, if_false] at hri ⊢
          rw [hpred, if_neg hzb] at hz
          obtain ⟨h1, h2, h3, h4⟩ := h.pc z hri
          unfold pred at hz
          rw [hz] at h3
          omega
      · have hno : ∀ m, m < k → iterP p' m y ≠ B c := fun m hm e => hb ⟨m, hm, e⟩
        have heq : ∀ m, m ≤ k → iterP p' m y = iterP (pred A s) m y := by
          intro m
          induction m with
          | zero => intro _; rfl
          | succ m ih =>
            intro hm
            rw [iterP_succ, iterP_succ, ih (by omega), hpred, if_neg (by rw [← ih (by omega)]; exact hno m (by omega))]
        obtain ⟨i, hi, h1⟩ := h.strict y k hk (fun i hi => by
          have := hall i hi
          simp only [hno i hi, if_false] at this
          rwa [heq i (by omega)] at this) (by rw [← heq k (Nat.le_refl _)]; exact hcyc)
        refine ⟨i, hi, ?_⟩
        have e1 : iterP p' (i + 1) y ≠ B c := by
          by_cases hik : i + 1 = k
          · rw [hik, hcyc]; have := hno 0 hk; exact this
          · exact hno (i + 1) (by omega)
        show upd s.far (B c) (s.far (A c) + C c) (iterP p' (i + 1) y) + C (upd s.pre (B c) c (iterP p' i y)) < upd s.far (B c) (s.far (A c) + C c) (iterP p' i y)
        rw [upd_ne e1, upd_ne (hno i hi), upd_ne (hno i hi), heq i (by omega), heq (i + 1) (by omega)]
        exact h1
  · rw [if_neg hlt]
    refine ⟨rel, ⟨fun x => by have := h.lo x; omega, h.hi, h.le, h.pc, fun d hd => ?_, h.left, h.strict, h.lst⟩, fun x => Nat.le_refl _⟩
    rcases h.done d hd with h1 | h1
    · rcases List.mem_cons.1 h1 with h1 | h1
      · subst h1; right; left; omega
      · exact .inl h1
    · exact .inr h1
end
end Go.Sp

namespace Go.Sp
theorem exists_least {P : Nat → Prop} (h : ∃ n, P n) : ∃ n, P n ∧ ∀ m, m < n → ¬ P m := by
  obtain ⟨n, hn⟩ := h
  induction n using Nat.strongRecOn with
  | _ n ih =>
    by_cases hs : ∃ m, m < n ∧ P m
    · obtain ⟨m, hm, hpm⟩ := hs
      exact ih m hm hpm
    · exact ⟨n, hn, fun m hm hpm => hs ⟨m, hm, hpm⟩⟩
theorem pig : ∀ (n : Nat) (l : List Int), l.Nodup → (∀ x, x ∈ l → 0 ≤ x ∧ x < (n : Int)) → l.length ≤ n
  | 0, l, _, h => by
    cases l with
    | nil => simp
    | cons x l => have := h x (by simp); omega
  | n + 1, l, hn, h => by
    have h1 : ∀ x, x ∈ l.erase (n : Int) → 0 ≤ x ∧ x < (n : Int) := fun x hx => by
      have hx2 := (hn.mem_erase_iff).1 hx
      have := h x hx2.2
      have := hx2.1
      omega
    have h2 := pig n (l.erase (n : Int)) (hn.erase _) h1
    by_cases hm : (n : Int) ∈ l
    · rw [List.length_erase_of_mem hm] at h2
      omega
    · rw [List.erase_of_not_mem hm] at h2
      omega
theorem pig_fun {n : Nat} (f : Nat → Int) (h : ∀ j, j ≤ n → 0 ≤ f j ∧ f j < (n : Int)) : ∃ i j, i < j ∧ j ≤ n ∧ f i = f j := by
  by_cases hx : ∃ i j, i < j ∧ j ≤ n ∧ f i = f j
  · exact hx
  · exfalso
    have hn : ((List.range (n + 1)).map f).Nodup := by
      unfold List.Nodup
      rw [List.pairwise_map, List.pairwise_iff_getElem]
      intro i j hi hj hij e
      simp only [List.getElem_range] at e
      simp only [List.length_range] at hj
      exact hx ⟨i, j, hij, by omega, e⟩
    have := pig n _ hn (fun x hx => by
      obtain ⟨j, hj, rfl⟩ := List.mem_map.1 hx
      exact h j (by have := List.mem_range.1 hj; omega))
    simp at this
    omega
def sumTo (f : Nat → Int) : Nat → Int
  | 0 => 0
  | k + 1 => sumTo f k + f k
theorem sumTo_congr {f g : Nat → Int} : ∀ {k : Nat}, (∀ j, j < k → f j = g j) → sumTo f k = sumTo g k
  | 0, _ => rfl
  | k + 1, h => by simp only [sumTo]; rw [sumTo_congr (fun j hj => h j (by omega)), h k (by omega)]
theorem sumTo_tele (f : Nat → Int) : ∀ k, sumTo (fun j => f j - f (j + 1)) k = f 0 - f k
  | 0 => by simp [sumTo]
  | k + 1 => by simp only [sumTo]; rw [sumTo_tele f k]; omega
theorem sumTo_le {f g : Nat → Int} : ∀ {k : Nat}, (∀ j, j < k → f j ≤ g j) → sumTo f k ≤ sumTo g k
  | 0, _ => Int.le_refl _
  | k + 1, h => by have h1 := sumTo_le (k := k) (fun j hj => h j (by omega)); have := h k (by omega); simp only [sumTo]; omega
theorem sumTo_lt {f g : Nat → Int} : ∀ {k : Nat}, (∀ j, j < k → f j ≤ g j) → (∃ i, i < k ∧ f i < g i) → sumTo f k < sumTo g k
  | 0, _, ⟨i, hi, _⟩ => by omega
  | k + 1, h, ⟨i, hi, hlt⟩ => by
    simp only [sumTo]
    by_cases hik : i = k
    · subst hik
      have := sumTo_le (k := i) (fun j hj => h j (by omega)); omega
    · have := sumTo_lt (k := k) (fun j hj => h j (by omega)) ⟨i, by omega, hlt⟩
      have := h k (by omega); omega
section
variable {A B C : Change → Int}
theorem Inv.next {cs : List Change} {r : Nat} {rel : Int → Nat} {N : Nat} {s : BF} (h : Inv A B C cs r [] rel N s) : Inv A B C cs (r + 1) cs rel N { s with last := -1 } :=
  ⟨h.lo, h.hi, fun x => by have := h.le x; omega, h.pc, fun _ hc => .inl hc, fun c hc => by
    rcases h.done c hc with h1 | h1 | h1
    · cases h1
    · exact .inl h1
    · right; omega, h.strict, fun _ => ⟨fun x hx => by have := h.le x; omega, fun h0 => by simp at h0⟩⟩
theorem Inv.start {cs : List Change} (pre : Int → Change) : Inv A B C cs 0 [] (fun _ => 0) 0 ⟨fun _ => 0, pre, -1⟩ :=
  ⟨fun _ => by simp, fun _ => by simp, fun _ => Nat.le_refl _, fun _ h => by omega, fun _ _ => .inr (.inr (Nat.zero_le _)), fun _ _ => .inr (Nat.zero_le _),
   fun y k hk h _ => by have := h 0 hk; omega, fun h => by omega⟩
theorem Inv.fold {cs : List Change} (hne : ∀ c, c ∈ cs → A c ≠ B c) (hB : ∀ c, c ∈ cs → 0 ≤ B c) (hC : ∀ c, c ∈ cs → -1 ≤ C c) {r : Nat} (hr : 1 ≤ r) : ∀ (todo : List Change), (∀ c, c ∈ todo → c ∈ cs) → ∀ {rel : Int → Nat} {N : Nat} {s : BF}, Inv A B C cs r todo rel N s →
    ∃ rel', Inv A B C cs r [] rel' (N + todo.length) (todo.foldl (relax A B C) s)
  | [], _, rel, N, s, h => ⟨rel, h⟩
  | c :: todo, ht, rel, N, s, h => by
    obtain ⟨rel1, h1, _⟩ := h.step hne hB hC hr (ht c (by simp))
    obtain ⟨rel2, h2⟩ := Inv.fold hne hB hC hr todo (fun d hd => ht d (by simp [hd])) h1
    exact ⟨rel2, by rw [List.length_cons, show N + (todo.length + 1) = N + 1 + todo.length by omega]; exact h2⟩
def round (A B C : Change → Int) (cs : List Change) (s : BF) : BF := cs.foldl (relax A B C) { s with last := -1 }
def rounds (A B C : Change → Int) (cs : List Change) (pre : Int → Change) : Nat → BF
  | 0 => ⟨fun _ => 0, pre, -1⟩
  | k + 1 => round A B C cs (rounds A B C cs pre k)
theorem rounds_inv {cs : List Change} (hne : ∀ c, c ∈ cs → A c ≠ B c) (hB : ∀ c, c ∈ cs → 0 ≤ B c) (hC : ∀ c, c ∈ cs → -1 ≤ C c) (pre : Int → Change) : ∀ r, ∃ rel, Inv A B C cs r [] rel (r * cs.length) (rounds A B C cs pre r)
  | 0 => ⟨fun _ => 0, by rw [Nat.zero_mul]; exact Inv.start pre⟩
  | r + 1 => by
    obtain ⟨rel, h⟩ := rounds_inv hne hB hC pre r
    obtain ⟨rel', h'⟩ := Inv.fold hne hB hC (Nat.succ_pos r) cs (fun _ h => h) h.next
    exact ⟨rel', by rw [Nat.add_mul, Nat.one_mul]; exact h'⟩
theorem rounds_pot {cs : List Change} (hne : ∀ c, c ∈ cs → A c ≠ B c) (hB : ∀ c, c ∈ cs → 0 ≤ B c) (hC : ∀ c, c ∈ cs → -1 ≤ C c) (pre : Int → Change) {r : Nat} (hr : 1 ≤ r) (hl : (rounds A B C cs pre r).last < 0) :
    ∀ c, c ∈ cs → (rounds A B C cs pre r).far (B c) ≤ (rounds A B C cs pre r).far (A c) + C c := by
  obtain ⟨rel, h⟩ := rounds_inv hne hB hC pre r
  intro c hc
  rcases h.done c hc with h1 | h1 | h1
  · cases h1
  · exact h1
  · have h2 := h.le (A c)
    have := (h.lst hr).1 (A c) (by omega)
    omega
theorem rounds_loop {cs : List Change} {n : Nat} (hne : ∀ c, c ∈ cs → A c ≠ B c) (hA : ∀ c, c ∈ cs → 0 ≤ A c ∧ A c < (n : Int)) (hB : ∀ c, c ∈ cs → 0 ≤ B c ∧ B c < (n : Int)) (hC : ∀ c, c ∈ cs → -1 ≤ C c) (pre : Int → Change) (hl : 0 ≤ (rounds A B C cs pre (n + 1)).last) :
    let s := rounds A B C cs pre (n + 1)
    (∀ j, s.pre (iterP (pred A s) j s.last) ∈ cs ∧ B (s.pre (iterP (pred A s) j s.last)) = iterP (pred A s) j s.last) ∧
    ∃ k, 0 < k ∧ k ≤ n ∧ iterP (pred A s) k (iterP (pred A s) n s.last) = iterP (pred A s) n s.last ∧ (∀ j, 0 < j → j < k → iterP (pred A s) j (iterP (pred A s) n s.last) ≠ iterP (pred A s) n s.last) ∧
      sumTo (fun j => C (s.pre (iterP (pred A s) j (iterP (pred A s) n s.last)))) k < 0 := by
  intro s
  obtain ⟨rel, h⟩ := rounds_inv hne (fun c hc => (hB c hc).1) hC pre (n + 1)
  change Inv A B C cs (n + 1) [] rel _ s at h
  generalize hp : pred A s = p
  have hrl : rel s.last = n + 1 := (h.lst (by omega)).2 hl
  have hrel : ∀ j, j ≤ n → n + 1 - j ≤ rel (iterP p j s.last) := by
    intro j
    induction j with
    | zero => intro _; show _ ≤ rel s.last; omega
    | succ j ih =>
      intro hj
      have h1 := ih (by omega)
      obtain ⟨_, _, _, h2⟩ := h.pc (iterP p j s.last) (by omega)
      rw [iterP_succ, ← hp]
      show _ ≤ rel (A (s.pre _))
      rw [hp]
      omega
  have hin : ∀ j, j ≤ n → s.pre (iterP p j s.last) ∈ cs ∧ B (s.pre (iterP p j s.last)) = iterP p j s.last := fun j hj => by
    have h1 := hrel j hj
    obtain ⟨h2, h3, _, _⟩ := h.pc (iterP p j s.last) (by omega)
    exact ⟨h2, h3⟩
  obtain ⟨i, j, hij, hj, he⟩ := pig_fun (n := n) (fun j => iterP p j s.last) (fun j hj => by
    obtain ⟨h1, h2⟩ := hin j hj
    have := hB _ h1
    rw [h2] at this
    exact this)
  change iterP p i s.last = iterP p j s.last at he
  have hall : ∀ m, ∃ m', m' ≤ n ∧ iterP p m s.last = iterP p m' s.last := by
    intro m
    induction m using Nat.strongRecOn with
    | _ m ih =>
      by_cases hm : m ≤ n
      · exact ⟨m, hm, rfl⟩
      · obtain ⟨m', h1, h2⟩ := ih (m - (j - i)) (by omega)
        refine ⟨m', h1, ?_⟩
        rw [← h2]
        have e1 : m = (m - j) + j := by omega
        have e2 : m - (j - i) = (m - j) + i := by omega
        rw [e2, iterP_add, he, ← iterP_add, ← e1]
  have hrel' : ∀ m, 1 ≤ rel (iterP p m s.last) := fun m => by
    obtain ⟨m', h1, h2⟩ := hall m
    rw [h2]
    have := hrel m' h1
    omega
  have hin' : ∀ m, s.pre (iterP p m s.last) ∈ cs ∧ B (s.pre (iterP p m s.last)) = iterP p m s.last := fun m => by
    obtain ⟨m', h1, h2⟩ := hall m
    rw [h2]
    exact hin m' h1
  refine ⟨hin', ?_⟩
  have hper : iterP p (j - i) (iterP p n s.last) = iterP p n s.last := by
    rw [← iterP_add]
    have e1 : j - i + n = (n - i) + j := by omega
    have e2 : n = (n - i) + i := by omega
    rw [e1, iterP_add, ← he, ← iterP_add, ← e2]
  obtain ⟨k, ⟨hk0, hk1⟩, hk2⟩ := exists_least (P := fun k => 0 < k ∧ iterP p k (iterP p n s.last) = iterP p n s.last) ⟨j - i, by omega, hper⟩
  have hkle : k ≤ j - i := by
    by_cases hle : k ≤ j - i
    · exact hle
    · exact absurd ⟨by omega, hper⟩ (hk2 (j - i) (by omega))
  refine ⟨k, hk0, by omega, hk1, fun m hm hmk e => hk2 m hmk ⟨hm, e⟩, ?_⟩
  have hr2 : ∀ m, 1 ≤ rel (iterP p m (iterP p n s.last)) := fun m => by rw [← iterP_add]; exact hrel' _
  have hst := h.strict (iterP p n s.last) k hk0 (fun i _ => by rw [hp]; exact hr2 i) (by rw [hp]; exact hk1)
  rw [hp] at hst
  obtain ⟨z, hz, hlt⟩ := hst
  have := sumTo_lt (k := k) (f := fun j => C (s.pre (iterP p j (iterP p n s.last)))) (g := fun j => s.far (iterP p j (iterP p n s.last)) - s.far (iterP p (j + 1) (iterP p n s.last))) (fun m _ => by
    obtain ⟨_, _, h3, _⟩ := h.pc _ (hr2 m)
    have e : A (s.pre (iterP p m (iterP p n s.last))) = iterP p (m + 1) (iterP p n s.last) := by
      rw [iterP_succ, ← hp]; rfl
    rw [e] at h3
    omega) ⟨z, hz, by omega⟩
  rw [sumTo_tele (fun j => s.far (iterP p j (iterP p n s.last))), hk1] at this
  have e0 : iterP p 0 (iterP p n s.last) = iterP p n s.last := rfl
  rw [e0] at this
  omega
end
end Go.Sp

namespace Go.Sp
structure BS where
  met : Int → Bool
  pre : Int → Change
section
variable (A B : Change → Int)
def visit (s : BS) (c : Change) : BS := if s.met (A c) = true ∧ s.met (B c) = false then ⟨upd s.met (B c) true, upd s.pre (B c) c⟩ else s
structure BInv (cs : List Change) (src : Int) (d : Int → Nat) (N : Nat) (s : BS) : Prop where
  srcm : s.met src = true
  dle : ∀ x, d x ≤ N
  pc : ∀ x, s.met x = true → x ≠ src → s.pre x ∈ cs ∧ B (s.pre x) = x ∧ s.met (A (s.pre x)) = true ∧ d (A (s.pre x)) < d x
variable {A B}
theorem visit_mono (s : BS) (c : Change) : ∀ x, s.met x = true → (visit A B s c).met x = true := fun x hx => by
  unfold visit
  split
  · simp only [upd]; split <;> simp [hx]
  · exact hx
theorem visit_done (s : BS) (c : Change) (h : s.met (A c) = true) : (visit A B s c).met (B c) = true := by
  unfold visit
  split
  · simp [upd]
  · rename_i h2
    cases hb : s.met (B c) with
    | true => rfl
    | false => exact absurd ⟨h, hb⟩ h2
theorem BInv.step {cs : List Change} {src : Int} {d : Int → Nat} {N : Nat} {s : BS} (h : BInv A B cs src d N s) {c : Change} (hc : c ∈ cs) : ∃ d', BInv A B cs src d' (N + 1) (visit A B s c) := by
  unfold visit
  split
  · rename_i hif
    obtain ⟨h1, h2⟩ := hif
    have hsrc : src ≠ B c := fun e => by rw [← e, h.srcm] at h2; cases h2
    have hAB : A c ≠ B c := fun e => by rw [e, h2] at h1; cases h1
    refine ⟨fun x => if x = B c then d (A c) + 1 else d x, (by show upd s.met (B c) true src = true; rw [upd_ne hsrc]; exact h.srcm), fun x => ?_, fun x hx hxs => ?_⟩
    · have := h.dle (A c); have := h.dle x
      show (if x = B c then d (A c) + 1 else d x) ≤ N + 1
      split <;> omega
    · simp only at hx ⊢
      by_cases hxb : x = B c
      · subst hxb
        rw [upd_same, upd_ne hAB, if_neg hAB, if_pos rfl]
        exact ⟨hc, rfl, h1, Nat.lt_succ_self _⟩
      · rw [upd_ne hxb] at hx ⊢
        rw [if_neg hxb]
        obtain ⟨g1, g2, g3, g4⟩ := h.pc x hx hxs
        have hne : A (s.pre x) ≠ B c := fun e => by rw [e, h2] at g3; cases g3
        rw [upd_ne hne, if_neg hne]
        exact ⟨g1, g2, g3, g4⟩
  · exact ⟨d, h.srcm, fun x => by have := h.dle x; omega, h.pc⟩
theorem BInv.fold {cs : List Change} {src : Int} : ∀ (todo : List Change), (∀ c, c ∈ todo → c ∈ cs) → ∀ {d : Int → Nat} {N : Nat} {s : BS}, BInv A B cs src d N s → ∃ d', BInv A B cs src d' (N + todo.length) (todo.foldl (visit A B) s)
  | [], _, d, N, s, h => ⟨d, h⟩
  | c :: todo, ht, d, N, s, h => by
    obtain ⟨d1, h1⟩ := h.step (ht c (by simp))
    obtain ⟨d2, h2⟩ := BInv.fold todo (fun x hx => ht x (by simp [hx])) h1
    exact ⟨d2, by rw [List.length_cons, show N + (todo.length + 1) = N + 1 + todo.length by omega]; exact h2⟩
theorem fold_mono : ∀ (todo : List Change) (s : BS) (x : Int), s.met x = true → (todo.foldl (visit A B) s).met x = true
  | [], _, _, h => h
  | c :: todo, s, x, h => fold_mono todo _ x (visit_mono s c x h)
theorem fold_done : ∀ (todo : List Change) (s : BS) (c : Change), c ∈ todo → s.met (A c) = true → (todo.foldl (visit A B) s).met (B c) = true
  | [], _, _, h, _ => by cases h
  | d :: todo, s, c, h, ha => by
    rcases List.mem_cons.1 h with rfl | h
    · exact fold_mono todo _ _ (visit_done s c ha)
    · exact fold_done todo _ c h (visit_mono s d _ ha)
theorem BInv.back {cs : List Change} {src : Int} {d : Int → Nat} {N : Nat} {s : BS} (h : BInv A B cs src d N s) {to : Int} (ht : s.met to = true) :
    let p := fun x => A (s.pre x)
    ∃ k, k ≤ N ∧ iterP p k to = src ∧ (∀ j, j < k → iterP p j to ≠ src ∧ s.pre (iterP p j to) ∈ cs ∧ B (s.pre (iterP p j to)) = iterP p j to) ∧ (∀ i j, i < j → j ≤ k → d (iterP p j to) < d (iterP p i to)) := by
  intro p
  have key2 : ∀ n, ∀ x, d x ≤ n → s.met x = true → ∃ k, k ≤ d x ∧ iterP p k x = src ∧ (∀ j, j < k → iterP p j x ≠ src ∧ s.pre (iterP p j x) ∈ cs ∧ B (s.pre (iterP p j x)) = iterP p j x) ∧ (∀ i j, i < j → j ≤ k → d (iterP p j x) < d (iterP p i x)) := by
    intro n
    induction n with
    | zero =>
      intro x hx hm
      by_cases hxs : x = src
      · exact ⟨0, Nat.zero_le _, hxs, fun j hj => by omega, fun i j hij hj => by omega⟩
      · obtain ⟨_, _, _, h4⟩ := h.pc x hm hxs
        omega
    | succ n ih =>
      intro x hx hm
      by_cases hxs : x = src
      · exact ⟨0, Nat.zero_le _, hxs, fun j hj => by omega, fun i j hij hj => by omega⟩
      · obtain ⟨h1, h2, h3, h4⟩ := h.pc x hm hxs
        obtain ⟨k, g1, g2, g3, g4⟩ := ih (p x) (by show d (A (s.pre x)) ≤ n; omega) h3
        refine ⟨k + 1, by have : d (p x) = d (A (s.pre x)) := rfl; omega, g2, fun j hj => ?_, fun i j hij hj => ?_⟩
        · cases j with
          | zero => exact ⟨hxs, h1, h2⟩
          | succ j => exact g3 j (by omega)
        · cases j with
          | zero => omega
          | succ j =>
            cases i with
            | zero =>
              show d (iterP p j (p x)) < d x
              cases j with
              | zero => exact h4
              | succ j =>
                have := g4 0 (j + 1) (by omega) (by omega)
                have e : d (iterP p 0 (p x)) = d (A (s.pre x)) := rfl
                omega
            | succ i => exact g4 i j (by omega) (by omega)
  obtain ⟨k, h1, h2, h3, h4⟩ := key2 (d to) to (Nat.le_refl _) ht
  exact ⟨k, Nat.le_trans h1 (h.dle to), h2, h3, h4⟩
end
end Go.Sp

namespace Go.Sp
def wy (l : List Wy) (c : Change) : Wy := l.getD c.way.toNat default
def eA (l : List Wy) (c : Change) : Int := if c.more = true then (wy l c).fr else (wy l c).dst
def eB (l : List Wy) (c : Change) : Int := if c.more = true then (wy l c).dst else (wy l c).fr
def eC (l : List Wy) (c : Change) : Int := if c.more = true then (wy l c).cost else -(wy l c).cost
def rm (l : List Wy) (c : Change) : Int := if c.more = true then (wy l c).hi - (wy l c).goes else (wy l c).goes - min (wy l c).lo (wy l c).goes
def adjW (w : Wy) (more : Bool) (m : Int) : Wy := { w with goes := if more = true then w.goes + m else w.goes - m }
def adj (l : List Wy) (c : Change) (m : Int) : List Wy := l.set c.way.toNat (adjW (wy l c) c.more m)
def isWay (l : List Wy) (c : Change) : Prop := 0 ≤ c.way ∧ c.way < (l.length : Int)
def res (l : List Wy) : List Change := (List.range l.length).flatMap fun i : Nat => ([⟨(i : Int), true⟩, ⟨(i : Int), false⟩] : List Change).filter fun c => decide (0 < rm l c)
structure WyOK (w : Wy) : Prop where
  fr : 0 ≤ w.fr ∧ w.fr < 12
  dst : 0 ≤ w.dst ∧ w.dst < 12
  ne : w.fr ≠ w.dst
  cost : -1 ≤ w.cost ∧ w.cost ≤ 1
  lo : 0 ≤ w.lo
  hi : w.lo ≤ w.hi ∧ w.hi ≤ 1000000
  goes : 0 ≤ w.goes ∧ w.goes ≤ w.hi
def NetOK (l : List Wy) : Prop := l.length ≤ 41 ∧ ∀ w, w ∈ l → WyOK w
theorem wy_mem {l : List Wy} {c : Change} (h : isWay l c) : wy l c ∈ l := by
  obtain ⟨h1, h2⟩ := h
  unfold wy
  rw [List.getD_eq_getElem?_getD, List.getElem?_eq_getElem (by omega)]
  exact List.getElem_mem _
theorem wy_get {l : List Wy} {c : Change} (h : isWay l c) : l[c.way.toNat]? = some (wy l c) := by
  obtain ⟨h1, h2⟩ := h
  unfold wy
  rw [List.getD_eq_getElem?_getD, List.getElem?_eq_getElem (by omega)]
  rfl
theorem res_mem {l : List Wy} {c : Change} : c ∈ res l ↔ isWay l c ∧ 0 < rm l c := by
  unfold res isWay
  simp only [List.mem_flatMap, List.mem_range, List.mem_filter, List.mem_cons, List.not_mem_nil, or_false, decide_eq_true_eq]
  constructor
  · rintro ⟨i, hi, h1, h2⟩
    rcases h1 with rfl | rfl
    · exact ⟨⟨by simp, by simpa using hi⟩, h2⟩
    · exact ⟨⟨by simp, by simpa using hi⟩, h2⟩
  · rintro ⟨⟨h1, h2⟩, h3⟩
    refine ⟨c.way.toNat, by omega, ?_, h3⟩
    obtain ⟨i, m⟩ := c
    simp only at h1 h2 ⊢
    have e : ((i.toNat : Nat) : Int) = i := by omega
    rw [e]
    cases m <;> simp
section same
variable {l l' : List Wy}
theorem same_get (h : Same l l') (i : Nat) : (l[i]?).map base = (l'[i]?).map base := by
  have := congrArg (fun z : List Wy => z[i]?) h
  simpa [List.getElem?_map] using this
theorem same_wy (h : Same l l') (c : Change) : base (wy l c) = base (wy l' c) := by
  have := same_get h c.way.toNat
  unfold wy
  rw [List.getD_eq_getElem?_getD, List.getD_eq_getElem?_getD]
  cases h1 : l[c.way.toNat]? with
  | none =>
    cases h2 : l'[c.way.toNat]? with
    | none => rfl
    | some w => rw [h1, h2] at this; cases this
  | some v =>
    cases h2 : l'[c.way.toNat]? with
    | none => rw [h1, h2] at this; cases this
    | some w => rw [h1, h2] at this; simpa using this
theorem same_eA (h : Same l l') (c : Change) : eA l c = eA l' c := by
  obtain ⟨h1, h2, _⟩ := base_eq (same_wy h c)
  unfold eA; rw [h1, h2]
theorem same_eB (h : Same l l') (c : Change) : eB l c = eB l' c := by
  obtain ⟨h1, h2, _⟩ := base_eq (same_wy h c)
  unfold eB; rw [h1, h2]
theorem same_eC (h : Same l l') (c : Change) : eC l c = eC l' c := by
  obtain ⟨_, _, _, _, h1⟩ := base_eq (same_wy h c)
  unfold eC; rw [h1]
theorem set_same {i : Nat} {w v : Wy} (hi : l[i]? = some w) (hb : base v = base w) : Same l (l.set i v) := by
  unfold Same
  apply List.ext_getElem?
  intro j
  rw [List.getElem?_map, List.getElem?_map, List.getElem?_set]
  split
  · rename_i hj; subst hj
    rw [hi]
    split
    · simp [hb]
    · rename_i hlt; have := (List.getElem?_eq_some_iff.1 hi).1; omega
  · rfl
end same
theorem adj_same {l : List Wy} {c : Change} (h : isWay l c) (m : Int) : Same l (adj l c m) := set_same (wy_get h) (by simp [base, adjW])
theorem sum_set (f : Wy → Int) : ∀ (l : List Wy) (i : Nat) (w v : Wy), l[i]? = some w → sumI f (l.set i v) = sumI f l + (f v - f w)
  | [], i, w, v, h => by simp at h
  | x :: l, 0, w, v, h => by
    simp only [List.getElem?_cons_zero, Option.some.injEq] at h
    subst h
    simp only [List.set_cons_zero, sumI]; omega
  | x :: l, i + 1, w, v, h => by
    simp only [List.getElem?_cons_succ] at h
    simp only [List.set_cons_succ, sumI]
    rw [sum_set f l i w v h]; omega
theorem adj_bal {l : List Wy} {c : Change} (h : isWay l c) (m : Int) (φ : Int → Int) : bal φ (adj l c m) = bal φ l + m * (φ (eB l c) - φ (eA l c)) := by
  unfold bal adj
  rw [sum_set _ l _ _ _ (wy_get h)]
  unfold eA eB adjW
  cases c.more with
  | true => simp only [if_true, Int.mul_add, Int.mul_comm m]; omega
  | false =>
    simp only [Bool.false_eq_true, if_false, Int.mul_sub, Int.sub_mul, Int.mul_comm m]; omega
theorem adj_costs {l : List Wy} {c : Change} (h : isWay l c) (m : Int) : costs (adj l c m) = costs l + m * eC l c := by
  unfold costs adj
  rw [sum_set _ l _ _ _ (wy_get h)]
  unfold eC adjW
  cases c.more with
  | true => simp only [if_true, Int.mul_add, Int.mul_comm m]; omega
  | false => simp only [Bool.false_eq_true, if_false, Int.mul_sub, Int.mul_neg, Int.neg_mul, Int.mul_comm m]; omega
theorem adj_other {l : List Wy} {c d : Change} {m : Int} (hd : 0 ≤ d.way) (hc : 0 ≤ c.way) (h : d.way ≠ c.way) : wy (adj l c m) d = wy l d := by
  unfold wy adj
  rw [List.getD_eq_getElem?_getD, List.getD_eq_getElem?_getD, List.getElem?_set_ne (by omega)]
theorem adj_at {l : List Wy} {c : Change} {m : Int} (h : isWay l c) : (adj l c m)[c.way.toNat]? = some (adjW (wy l c) c.more m) := by
  unfold adj
  obtain ⟨h1, h2⟩ := h
  rw [List.getElem?_set_self (by omega)]
theorem adj_len {l : List Wy} {c : Change} {m : Int} : (adj l c m).length = l.length := by simp [adj]
theorem adj_isWay {l : List Wy} {c d : Change} {m : Int} (h : isWay l d) : isWay (adj l c m) d := by unfold isWay at *; rw [adj_len]; exact h
theorem adj_ok {l : List Wy} {c : Change} {m : Int} (hl : NetOK l) (h : isWay l c) (h0 : 0 ≤ m) (hm : m ≤ rm l c) : NetOK (adj l c m) := by
  refine ⟨by rw [adj_len]; exact hl.1, fun w hw => ?_⟩
  rcases List.mem_or_eq_of_mem_set hw with hw | rfl
  · exact hl.2 w hw
  · have hk := hl.2 _ (wy_mem h)
    unfold rm at hm
    have hg := hk.goes; have hlo := hk.lo; have hhi := hk.hi
    refine ⟨hk.fr, hk.dst, hk.ne, hk.cost, hk.lo, hk.hi, ?_⟩
    unfold adjW
    cases hmo : c.more with
    | true => simp only [hmo, if_true] at hm ⊢; omega
    | false => simp only [hmo, Bool.false_eq_true, if_false] at hm ⊢; omega
theorem adj_least {l : List Wy} {c : Change} {m : Int} (h : isWay l c) (h0 : 0 ≤ m) (hm : m ≤ rm l c) (i : Nat) {w v : Wy} (hw : l[i]? = some w) (hv : (adj l c m)[i]? = some v) (hge : w.lo ≤ w.goes) : v.lo ≤ v.goes := by
  by_cases hi : i = c.way.toNat
  · subst hi
    rw [adj_at h] at hv
    rw [wy_get h] at hw
    obtain rfl := Option.some.inj hv
    obtain rfl := Option.some.inj hw
    unfold rm at hm
    unfold adjW
    cases hmo : c.more with
    | true => simp only [hmo, if_true] at hm ⊢; omega
    | false => simp only [hmo, Bool.false_eq_true, if_false] at hm ⊢; omega
  · unfold adj at hv
    rw [List.getElem?_set_ne (fun e => hi e.symm), hw] at hv
    obtain rfl := Option.some.inj hv
    exact hge
def makeL (l : List Wy) (L : List Change) (m : Int) : List Wy := L.foldl (fun l c => adj l c m) l
structure MakeOK (l : List Wy) (L : List Change) (m : Int) : Prop where
  way : ∀ c, c ∈ L → isWay l c
  room : ∀ c, c ∈ L → m ≤ rm l c
  once : L.Pairwise fun c d => c.way ≠ d.way
theorem MakeOK.tail {l : List Wy} {c : Change} {L : List Change} {m : Int} (h : MakeOK l (c :: L) m) : MakeOK (adj l c m) L m := by
  obtain ⟨h1, h2⟩ := List.pairwise_cons.1 h.once
  have hc := h.way c (by simp)
  refine ⟨fun d hd => adj_isWay (h.way d (by simp [hd])), fun d hd => ?_, h2⟩
  have hw := h.way d (by simp [hd])
  have := h.room d (by simp [hd])
  unfold rm at this ⊢
  rw [adj_other hw.1 hc.1 (fun e => h1 d hd e.symm)]
  exact this
theorem makeL_same : ∀ {l : List Wy} (L : List Change) {m : Int}, MakeOK l L m → Same l (makeL l L m)
  | l, [], m, h => Same.refl l
  | l, c :: L, m, h => (adj_same (h.way c (by simp)) m).trans (makeL_same L h.tail)
theorem makeL_ok : ∀ {l : List Wy} (L : List Change) {m : Int}, NetOK l → 0 ≤ m → MakeOK l L m → NetOK (makeL l L m)
  | l, [], m, hl, _, h => hl
  | l, c :: L, m, hl, h0, h => makeL_ok L (adj_ok hl (h.way c (by simp)) h0 (h.room c (by simp))) h0 h.tail
theorem makeL_bal (φ : Int → Int) : ∀ {l : List Wy} (L : List Change) {m : Int}, MakeOK l L m → bal φ (makeL l L m) = bal φ l + m * sumI (fun c => φ (eB l c) - φ (eA l c)) L
  | l, [], m, h => by simp [makeL, sumI]
  | l, c :: L, m, h => by
    have ih := makeL_bal φ L h.tail
    have hs := adj_same (h.way c (by simp)) m
    show bal φ (makeL (adj l c m) L m) = _
    rw [ih, adj_bal (h.way c (by simp)) m φ]
    simp only [sumI, Int.mul_add]
    rw [sumI_congr (g := fun c => φ (eB l c) - φ (eA l c)) (fun d _ => by rw [same_eB hs, same_eA hs])]
    omega
theorem makeL_costs : ∀ {l : List Wy} (L : List Change) {m : Int}, MakeOK l L m → costs (makeL l L m) = costs l + m * sumI (fun c => eC l c) L
  | l, [], m, h => by simp [makeL, sumI]
  | l, c :: L, m, h => by
    have ih := makeL_costs L h.tail
    have hs := adj_same (h.way c (by simp)) m
    show costs (makeL (adj l c m) L m) = _
    rw [ih, adj_costs (h.way c (by simp)) m]
    simp only [sumI, Int.mul_add]
    rw [sumI_congr (g := fun c => eC l c) (fun d _ => by rw [same_eC hs])]
    omega
theorem makeL_least : ∀ {l : List Wy} (L : List Change) {m : Int}, 0 ≤ m → MakeOK l L m → ∀ (i : Nat) (w v : Wy), l[i]? = some w → (makeL l L m)[i]? = some v → w.lo ≤ w.goes → v.lo ≤ v.goes
  | l, [], m, _, h, i, w, v, hw, hv, hge => by
    have : l[i]? = some v := hv
    rw [hw] at this; cases this; exact hge
  | l, c :: L, m, h0, h, i, w, v, hw, hv, hge => by
    have hc := h.way c (by simp)
    have hlt : i < (adj l c m).length := by rw [adj_len]; exact (List.getElem?_eq_some_iff.1 hw).1
    have hu : (adj l c m)[i]? = some (adj l c m)[i] := List.getElem?_eq_getElem hlt
    exact makeL_least L h0 h.tail i _ v hu hv (adj_least hc h0 (h.room c (by simp)) i hw hu hge)
theorem makeL_at : ∀ {l : List Wy} (L : List Change) {m : Int}, MakeOK l L m → ∀ c, c ∈ L → (makeL l L m)[c.way.toNat]? = some (adjW (wy l c) c.more m)
  | l, [], m, h, c, hc => by cases hc
  | l, d :: L, m, h, c, hc => by
    obtain ⟨h1, h2⟩ := List.pairwise_cons.1 h.once
    have hd := h.way d (by simp)
    rcases List.mem_cons.1 hc with rfl | hc
    · have key : ∀ (L : List Change) (l : List Wy), (∀ x, x ∈ L → 0 ≤ x.way ∧ c.way ≠ x.way) → 0 ≤ c.way → (makeL l L m)[c.way.toNat]? = l[c.way.toNat]? := by
        intro L
        induction L with
        | nil => intro l _ _; rfl
        | cons x L ih =>
          intro l hx h0
          have := hx x (by simp)
          show (makeL (adj l x m) L m)[c.way.toNat]? = _
          rw [ih _ (fun y hy => hx y (by simp [hy])) h0]
          unfold adj
          rw [List.getElem?_set_ne (by omega)]
      show (makeL (adj l c m) L m)[c.way.toNat]? = _
      rw [key L _ (fun x hx => ⟨(h.way x (by simp [hx])).1, h1 x hx⟩) hd.1, adj_at hd]
    · show (makeL (adj l d m) L m)[c.way.toNat]? = _
      rw [makeL_at L h.tail c hc, adj_other (h.way c (by simp [hc])).1 hd.1 (fun e => h1 c hc e.symm)]
def mostL (l : List Wy) (L : List Change) (m : Int) : Int := L.foldl (fun m c => min m (rm l c)) m
theorem mostL_le (l : List Wy) : ∀ (L : List Change) (m : Int), mostL l L m ≤ m ∧ ∀ c, c ∈ L → mostL l L m ≤ rm l c
  | [], m => ⟨Int.le_refl _, fun _ h => by cases h⟩
  | d :: L, m => by
    obtain ⟨h1, h2⟩ := mostL_le l L (min m (rm l d))
    refine ⟨by show mostL l L (min m (rm l d)) ≤ m; omega, fun c hc => ?_⟩
    show mostL l L (min m (rm l d)) ≤ _
    rcases List.mem_cons.1 hc with rfl | hc
    · omega
    · exact h2 c hc
theorem mostL_pos (l : List Wy) : ∀ (L : List Change) (m : Int), 0 < m → (∀ c, c ∈ L → 0 < rm l c) → 0 < mostL l L m
  | [], m, h, _ => h
  | d :: L, m, h, hr => mostL_pos l L _ (by have := hr d (by simp); show 0 < min m (rm l d); omega) (fun c hc => hr c (by simp [hc]))
end Go.Sp

namespace Go.Sp
def chainL (pre : Int → Change) (p : Int → Int) (y : Int) (k : Nat) : List Change := (List.range k).map fun j => pre (iterP p j y)
theorem sumI_range {α : Type} (f : α → Int) (g : Nat → α) : ∀ k, sumI f ((List.range k).map g) = sumTo (fun j => f (g j)) k
  | 0 => rfl
  | k + 1 => by
    rw [List.range_succ, List.map_append, sumI_append, sumI_range f g k]
    simp [sumI, sumTo]
theorem chain_sum {l : List Wy} {pre : Int → Change} {y : Int} {k : Nat} (hB : ∀ j, j < k → eB l (pre (iterP (fun x => eA l (pre x)) j y)) = iterP (fun x => eA l (pre x)) j y) (φ : Int → Int) :
    sumI (fun c => φ (eB l c) - φ (eA l c)) (chainL pre (fun x => eA l (pre x)) y k) = φ y - φ (iterP (fun x => eA l (pre x)) k y) := by
  unfold chainL
  rw [sumI_range]
  have e : ∀ j, j < k → φ (eB l (pre (iterP (fun x => eA l (pre x)) j y))) - φ (eA l (pre (iterP (fun x => eA l (pre x)) j y))) = (fun j => φ (iterP (fun x => eA l (pre x)) j y)) j - (fun j => φ (iterP (fun x => eA l (pre x)) j y)) (j + 1) := fun j hj => by
    simp only
    rw [hB j hj, iterP_succ]
  rw [sumTo_congr e, sumTo_tele (fun j => φ (iterP (fun x => eA l (pre x)) j y))]
  rfl
theorem same_way {l : List Wy} {c d : Change} (h : c.way = d.way) : c = d ∨ (eA l c = eB l d ∧ eB l c = eA l d ∧ eC l c = - eC l d) := by
  obtain ⟨i, m⟩ := c
  obtain ⟨j, n⟩ := d
  simp only at h
  subst h
  cases m <;> cases n
  · exact .inl rfl
  · right; simp [eA, eB, eC, wy]
  · right; simp [eA, eB, eC, wy]
  · exact .inl rfl
theorem chain_once {l : List Wy} {pre : Int → Change} {y : Int} {k : Nat} (hB : ∀ j, j < k → eB l (pre (iterP (fun x => eA l (pre x)) j y)) = iterP (fun x => eA l (pre x)) j y)
    (hne : ∀ i j, i < j → j < k → iterP (fun x => eA l (pre x)) i y ≠ iterP (fun x => eA l (pre x)) j y)
    (hop : ∀ i j, i < j → j < k → iterP (fun x => eA l (pre x)) (i + 1) y = iterP (fun x => eA l (pre x)) j y → iterP (fun x => eA l (pre x)) (j + 1) y = iterP (fun x => eA l (pre x)) i y → eC l (pre (iterP (fun x => eA l (pre x)) i y)) = - eC l (pre (iterP (fun x => eA l (pre x)) j y)) → False) :
    (chainL pre (fun x => eA l (pre x)) y k).Pairwise fun c d => c.way ≠ d.way := by
  unfold chainL
  rw [List.pairwise_map, List.pairwise_iff_getElem]
  intro i j hi hj hij
  simp only [List.getElem_range, List.length_range] at hi hj ⊢
  intro e
  rcases same_way (l := l) e with h | ⟨h1, h2, h3⟩
  · refine hne i j hij hj ?_
    rw [← hB i (by omega), ← hB j hj, h]
  · refine hop i j hij hj ?_ ?_ h3
    · rw [iterP_succ]
      rw [hB j hj] at h1
      exact h1
    · rw [iterP_succ]
      rw [hB i (by omega)] at h2
      exact h2.symm
theorem pairwise_append_one {α : Type} {R : α → α → Prop} {l : List α} {x : α} (h : l.Pairwise R) (hx : ∀ y, y ∈ l → R y x) : (l ++ [x]).Pairwise R := by
  rw [List.pairwise_append]
  exact ⟨h, List.pairwise_singleton _ _, fun y hy z hz => by rw [List.mem_singleton] at hz; subst hz; exact hx y hy⟩
theorem path_make {l : List Wy} (hl : NetOK l) {i : Nat} (hi : i < l.length) (hlow : (wy l ⟨i, true⟩).goes < (wy l ⟨i, true⟩).lo) {pre : Int → Change} {k : Nat} {d : Int → Nat}
    (hsrc : iterP (fun x => eA l (pre x)) k (wy l ⟨i, true⟩).fr = (wy l ⟨i, true⟩).dst)
    (hch : ∀ j, j < k → iterP (fun x => eA l (pre x)) j (wy l ⟨i, true⟩).fr ≠ (wy l ⟨i, true⟩).dst ∧ pre (iterP (fun x => eA l (pre x)) j (wy l ⟨i, true⟩).fr) ∈ res l ∧ eB l (pre (iterP (fun x => eA l (pre x)) j (wy l ⟨i, true⟩).fr)) = iterP (fun x => eA l (pre x)) j (wy l ⟨i, true⟩).fr)
    (hd : ∀ i' j, i' < j → j ≤ k → d (iterP (fun x => eA l (pre x)) j (wy l ⟨i, true⟩).fr) < d (iterP (fun x => eA l (pre x)) i' (wy l ⟨i, true⟩).fr)) (need : Int) (hneed : 0 < need) :
    let L := chainL pre (fun x => eA l (pre x)) (wy l ⟨i, true⟩).fr k ++ [⟨(i : Int), true⟩]
    let m := mostL l L need
    0 < m ∧ m ≤ need ∧ MakeOK l L m ∧ (∀ φ : Int → Int, sumI (fun c => φ (eB l c) - φ (eA l c)) L = 0) := by
  intro L m
  have hway : isWay l ⟨(i : Int), true⟩ := ⟨by simp, by simpa using hi⟩
  have hk := hl.2 _ (wy_mem hway)
  have hmem : ∀ c, c ∈ L → isWay l c ∧ 0 < rm l c := fun c hc => by
    rcases List.mem_append.1 hc with hc | hc
    · obtain ⟨j, hj, rfl⟩ := List.mem_map.1 hc
      exact res_mem.1 (hch j (by simpa using hj)).2.1
    · rw [List.mem_singleton] at hc
      subst hc
      refine ⟨hway, ?_⟩
      simp only [rm, if_true]
      have := hk.hi; omega
  obtain ⟨m1, m2⟩ := mostL_le l L need
  refine ⟨mostL_pos l L need hneed (fun c hc => (hmem c hc).2), m1, ⟨fun c hc => (hmem c hc).1, m2, ?_⟩, fun φ => ?_⟩
  · refine pairwise_append_one (chain_once (fun j hj => (hch j hj).2.2) (fun a b hab hb e => ?_) (fun a b hab hb h1 h2 _ => ?_)) (fun c hc e => ?_)
    · have := hd a b hab (by omega)
      rw [e] at this; omega
    · have g1 := hd a b hab (by omega)
      have g2 := hd b (b + 1) (by omega) (by omega)
      rw [h2] at g2; omega
    · obtain ⟨j, hj, rfl⟩ := List.mem_map.1 hc
      have hj' : j < k := by simpa using hj
      obtain ⟨h1, h2, h3⟩ := hch j hj'
      have hr := (res_mem.1 h2).2
      generalize pre (iterP (fun x => eA l (pre x)) j (wy l ⟨i, true⟩).fr) = c at h2 h3 hr e
      obtain ⟨w, mo⟩ := c
      simp only at e
      subst e
      cases mo with
      | true =>
        have : eB l ⟨(i : Int), true⟩ = (wy l ⟨(i : Int), true⟩).dst := by simp [eB]
        rw [this] at h3
        exact h1 h3.symm
      | false =>
        have e2 : wy l ⟨(i : Int), false⟩ = wy l ⟨(i : Int), true⟩ := rfl
        simp only [rm, Bool.false_eq_true, if_false, e2] at hr
        omega
  · rw [sumI_append, chain_sum (fun j hj => (hch j hj).2.2) φ, hsrc]
    simp only [sumI, eB, eA, if_true]
    omega
theorem loop_make {l : List Wy} {pre : Int → Change} {y : Int} {k : Nat} (hk : 0 < k) (hch : ∀ j, j < k → pre (iterP (fun x => eA l (pre x)) j y) ∈ res l ∧ eB l (pre (iterP (fun x => eA l (pre x)) j y)) = iterP (fun x => eA l (pre x)) j y)
    (hper : iterP (fun x => eA l (pre x)) k y = y) (hmin : ∀ j, 0 < j → j < k → iterP (fun x => eA l (pre x)) j y ≠ y) (hneg : sumTo (fun j => eC l (pre (iterP (fun x => eA l (pre x)) j y))) k < 0) (need : Int) (hneed : 0 < need) :
    let L := chainL pre (fun x => eA l (pre x)) y k
    let m := mostL l L need
    0 < m ∧ m ≤ need ∧ MakeOK l L m ∧ (∀ φ : Int → Int, sumI (fun c => φ (eB l c) - φ (eA l c)) L = 0) ∧ sumI (fun c => eC l c) L < 0 := by
  intro L m
  have hmem : ∀ c, c ∈ L → isWay l c ∧ 0 < rm l c := fun c hc => by
    obtain ⟨j, hj, rfl⟩ := List.mem_map.1 hc
    exact res_mem.1 (hch j (by simpa using hj)).1
  obtain ⟨m1, m2⟩ := mostL_le l L need
  have hne : ∀ i j, i < j → j < k → iterP (fun x => eA l (pre x)) i y ≠ iterP (fun x => eA l (pre x)) j y := fun i j hij hj e => by
    refine hmin (k - j + i) (by omega) (by omega) ?_
    rw [iterP_add, e, ← iterP_add, show k - j + j = k by omega, hper]
  refine ⟨mostL_pos l L need hneed (fun c hc => (hmem c hc).2), m1, ⟨fun c hc => (hmem c hc).1, m2, ?_⟩, fun φ => ?_, ?_⟩
  · refine chain_once (fun j hj => (hch j hj).2) hne (fun i j hij hj h1 h2 h3 => ?_)
    have e1 : i + 1 = j := by
      by_cases hlt : i + 1 < j
      · exact absurd h1 (hne (i + 1) j hlt hj)
      · omega
    have e2 : j + 1 = k := by
      by_cases hlt : j + 1 < k
      · exact absurd h2.symm (hne i (j + 1) (by omega) hlt)
      · omega
    have e3 : i = 0 := by
      by_cases h0 : i = 0
      · exact h0
      · rw [e2, hper] at h2
        exact absurd h2.symm (hmin i (by omega) (by omega))
    subst e3
    have ek : k = 2 := by omega
    have ej : j = 1 := by omega
    subst ek ej
    simp only [sumTo] at hneg
    omega
  · rw [chain_sum (fun j hj => (hch j hj).2) φ, hper]; omega
  · show sumI (fun c => eC l c) (chainL pre (fun x => eA l (pre x)) y k) < 0
    unfold chainL
    rw [sumI_range]
    exact hneg
end Go.Sp

namespace Go.Gx
theorem addc_eq {a b : Int} (h : -9223372036854775808 ≤ a + b ∧ a + b ≤ 9223372036854775807) : addc a b = some (a + b) := if_pos h
theorem subc_eq {a b : Int} (h : -9223372036854775808 ≤ a - b ∧ a - b ≤ 9223372036854775807) : subc a b = some (a - b) := if_pos h
theorem mulc_eq {a b : Int} (h : -9223372036854775808 ≤ a * b ∧ a * b ≤ 9223372036854775807) : mulc a b = some (a * b) := if_pos h
theorem negc_eq {a : Int} (h : -9223372036854775808 ≤ -a ∧ -a ≤ 9223372036854775807) : negc a = some (-a) := if_pos h
theorem quoc_eq {a b : Int} (h0 : b ≠ 0) (h : -9223372036854775808 ≤ a.tdiv b ∧ a.tdiv b ≤ 9223372036854775807) : quoc a b = some (a.tdiv b) := if_pos ⟨h0, h⟩
theorem remc_eq {a b : Int} (h0 : b ≠ 0) : remc a b = some (a.tmod b) := if_pos h0
theorem ix_eq {α : Type} {l : List α} {i : Int} (d : α) (h0 : 0 ≤ i) (h1 : i < l.length) : ix l i = some (l.getD i.toNat d) := by
  unfold ix
  rw [if_neg (by omega), List.getD_eq_getElem?_getD]
  have : i.toNat < l.length := by omega
  simp [this]
theorem ix_nat {α : Type} {l : List α} {k : Nat} (d : α) (h1 : k < l.length) : ix l (k : Int) = some (l.getD k d) := by
  have := ix_eq (l := l) (i := (k : Int)) d (by omega) (by omega)
  simpa using this
theorem appc_eq {α : Type} {b : Nat} {l m : List α} (h : (l.length + m.length) * b ≤ 140737488355328) : appc b l m = some (l ++ m) := if_pos h
theorem makec_eq {α : Type} {b : Nat} {z : α} {n c : Int} (h : 0 ≤ n ∧ n ≤ c ∧ (b : Int) * c ≤ 140737488355328 ∧ c ≤ 140737488355328) : makec b z n c = some (List.replicate n.toNat z) := if_pos h
@[simp] theorem oc_inl {α β γ : Type} (a : α) (f : α → γ) (g : β → γ) : oc (.inl a) f g = f a := rfl
@[simp] theorem oc_inr {α β γ : Type} (b : β) (f : α → γ) (g : β → γ) : oc (.inr b) f g = g b := rfl

theorem iterM_step {σ β : Type} {f : σ → Option (σ ⊕ β)} {s s' : σ} {N : Nat} (h : f s = some (.inl s')) : iterM (N + 1) f s = iterM N f s' := by simp [iterM, h]
theorem iterM_done {σ β : Type} {f : σ → Option (σ ⊕ β)} {s : σ} {b : β} {N : Nat} (h : f s = some (.inr b)) : iterM (N + 1) f s = some b := by simp [iterM, h]
theorem iterM_inv {σ β : Type} {f : σ → Option (σ ⊕ β)} (Inv : σ → Prop) (μ : σ → Nat) (Q : β → Prop)
    (h : ∀ s, Inv s → (∃ s', f s = some (.inl s') ∧ Inv s' ∧ μ s' < μ s) ∨ ∃ b, f s = some (.inr b) ∧ Q b) : ∀ (N : Nat) (s : σ), μ s < N → Inv s → ∃ b, iterM N f s = some b ∧ Q b
  | 0, _, hN, _ => absurd hN (Nat.not_lt_zero _)
  | N + 1, s, hN, hI => by
    rcases h s hI with ⟨s', h1, h2, h3⟩ | ⟨b, h1, h2⟩
    · rw [iterM_step h1]
      exact iterM_inv Inv μ Q h N s' (by omega) h2
    · exact ⟨b, iterM_done h1, h2⟩
theorem iterM_run {σ β : Type} {f : σ → Option (σ ⊕ β)} (I : Nat → σ) (n : Nat) {b : β} (hs : ∀ k, k < n → f (I k) = some (.inl (I (k + 1)))) (he : f (I n) = some (.inr b)) : ∀ (N : Nat), n < N → iterM N f (I 0) = some b := by
  have key : ∀ (m k N : Nat), k + m = n → m < N → iterM N f (I k) = some b := by
    intro m
    induction m with
    | zero =>
      intro k N hk hN
      obtain ⟨N, rfl⟩ : ∃ N', N = N' + 1 := ⟨N - 1, by omega⟩
      have : k = n := by omega
      subst this
      exact iterM_done he
    | succ m ih =>
      intro k N hk hN
      obtain ⟨N, rfl⟩ : ∃ N', N = N' + 1 := ⟨N - 1, by omega⟩
      rw [iterM_step (hs k (by omega))]
      exact ih (k + 1) N (by omega) (by omega)
  intro N hN
  exact key n 0 N (by omega) hN
theorem iterM_any {ρ : Type} {f : Int → Option (Int ⊕ (Unit ⊕ ρ))} (i0 : Int) (n : Nat) (bad : Nat → Bool) (e : Nat → ρ) (h1 : ∀ k, k < n → f (i0 + (k : Int)) = some (if bad k then .inr (.inr (e k)) else .inl (i0 + (k : Int) + 1))) (h2 : f (i0 + (n : Int)) = some (.inr (.inl ()))) {N : Nat} (hN : n < N) :
    iterM N f i0 = some (match (List.range n).find? bad with | some k => .inr (e k) | none => .inl ()) := by
  have key : ∀ (m k N : Nat), k + m = n → m < N → (∀ j, j < k → bad j = false) → iterM N f (i0 + (k : Int)) = some (match (List.range n).find? bad with | some k => .inr (e k) | none => .inl ()) := by
    intro m
    induction m with
    | zero =>
      intro k N hk hN hb
      obtain ⟨N, rfl⟩ : ∃ N', N = N' + 1 := ⟨N - 1, by omega⟩
      have : k = n := by omega
      subst this
      rw [iterM_done h2]
      have : (List.range k).find? bad = none := by
        rw [List.find?_eq_none]
        intro x hx
        simp [hb x (by simpa using hx)]
      rw [this]
    | succ m ih =>
      intro k N hk hN hb
      obtain ⟨N, rfl⟩ : ∃ N', N = N' + 1 := ⟨N - 1, by omega⟩
      have hk2 := h1 k (by omega)
      cases hbk : bad k with
      | true =>
        rw [hbk] at hk2
        simp only [if_true] at hk2
        rw [iterM_done hk2]
        have : (List.range n).find? bad = some k := by
          rw [List.find?_range_eq_some]
          exact ⟨hbk, by simp; omega, fun j hj => by simp [hb j hj]⟩
        rw [this]
      | false =>
        rw [hbk] at hk2
        simp only [Bool.false_eq_true, if_false] at hk2
        rw [iterM_step hk2]
        have := ih (k + 1) N (by omega) (by omega) (fun j hj => by
          by_cases hjk : j = k
          · subst hjk; exact hbk
          · exact hb j (by omega))
        rw [show i0 + (k : Int) + 1 = i0 + ((k + 1 : Nat) : Int) by push_cast; omega]
        exact this
  have := key n 0 N (by omega) hN (fun j hj => absurd hj (by omega))
  simpa using this
theorem iterM_any0 {ρ : Type} {f : Int → Option (Int ⊕ (Unit ⊕ ρ))} (n : Nat) (bad : Nat → Bool) (e : ρ) (h1 : ∀ k : Nat, k < n → f (k : Int) = some (if bad k then .inr (.inr e) else .inl ((k : Int) + 1))) (h2 : f (n : Int) = some (.inr (.inl ()))) {N : Nat} (hN : n < N) :
    iterM N f 0 = some (if (List.range n).any bad then .inr e else .inl ()) := by
  have := iterM_any 0 n bad (fun _ => e) (fun k hk => by simpa using h1 k hk) (by simpa using h2) hN
  rw [this]
  cases hf : (List.range n).find? bad with
  | none =>
    have : (List.range n).any bad = false := by
      rw [List.any_eq_false]; intro x hx; simpa using List.find?_eq_none.1 hf x hx
    simp [this]
  | some k =>
    have : (List.range n).any bad = true := List.any_eq_true.2 ⟨k, List.mem_of_find?_eq_some hf, List.find?_some hf⟩
    simp [this]
theorem any_range {α : Type} {l : List α} {d : α} {p : α → Bool} : (List.range l.length).any (fun k => p (l.getD k d)) = l.any p := by
  rw [Bool.eq_iff_iff, List.any_eq_true, List.any_eq_true]
  constructor
  · rintro ⟨k, hk, hp⟩
    have hk' : k < l.length := by simpa using hk
    refine ⟨l[k], List.getElem_mem hk', ?_⟩
    simpa [List.getD_eq_getElem?_getD, hk'] using hp
  · rintro ⟨x, hx, hp⟩
    obtain ⟨k, hk, rfl⟩ := List.getElem_of_mem hx
    exact ⟨k, by simpa using hk, by simpa [List.getD_eq_getElem?_getD, hk] using hp⟩
theorem FU_lt2 {n : Nat} (h : n ≤ 9223372036854775807) : n < FU := by unfold FU; omega
theorem FU_lt {n : Nat} (h : n < 1000000000000) : n < FU := by unfold FU; omega
end Go.Gx

namespace Go.Gx
open Go
theorem contains_loop {α : Type} {f : Int → Option (Int ⊕ (Unit ⊕ Int))} (l : List α) (d : α) (bad : α → Bool) (hl : l.length < 1000000000000)
    (h : ∀ k : Nat, k < l.length → f (k : Int) = some (if bad (l.getD k d) = true then .inr (.inr (k : Int)) else .inl ((k : Int) + 1))) (he : f (l.length : Int) = some (.inr (.inl ()))) :
    (((iterM FU f 0).bind fun o => oc o (fun _ => (some (-1) : Option Int)) (fun r => some r)).bind fun t => some (decide (0 ≤ t))) = some (l.any bad) := by
  have key := iterM_any (f := f) 0 l.length (fun k => bad (l.getD k d)) (fun k => (k : Int)) (fun k hk => by
    have := h k hk
    rw [Int.zero_add]
    exact this) (by rw [Int.zero_add]; exact he) (N := FU) (FU_lt hl)
  rw [key]
  cases hf : (List.range l.length).find? (fun k => bad (l.getD k d)) with
  | none =>
    have : l.any bad = false := by
      rw [List.any_eq_false]
      intro x hx
      obtain ⟨i, hi, rfl⟩ := List.getElem_of_mem hx
      have h2 := List.find?_eq_none.1 hf i (by simpa using hi)
      simpa [List.getD_eq_getElem?_getD, hi] using h2
    rw [this]
    rfl
  | some k =>
    have h1 := List.find?_some hf
    have h2 : k < l.length := by simpa using List.mem_of_find?_eq_some hf
    have : l.any bad = true := by
      rw [List.any_eq_true]
      refine ⟨l[k], List.getElem_mem h2, ?_⟩
      simpa [List.getD_eq_getElem?_getD, h2] using h1
    rw [this, Option.bind_some, oc_inr, Option.bind_some, decide_eq_true (show (0 : Int) ≤ (k : Int) by omega)]
theorem not_any_not {α : Type} {l : List α} {p : α → Bool} : (!l.any fun x => !p x) = l.all p := by rw [List.not_any_eq_all_not]; simp
end Go.Gx
namespace Go.Gx
theorem iterM_find {σ β : Type} {f : σ → Option (σ ⊕ β)} (I : Nat → σ) (n : Nat) (bad : Nat → Bool) (e : Nat → β) (e0 : β) (h1 : ∀ k, k < n → (∀ j, j < k → bad j = false) → f (I k) = some (if bad k = true then .inr (e k) else .inl (I (k + 1)))) (h2 : f (I n) = some (.inr e0)) {N : Nat} (hN : n < N) :
    iterM N f (I 0) = some (match (List.range n).find? bad with | some k => e k | none => e0) := by
  have key : ∀ (m k N : Nat), k + m = n → m < N → (∀ j, j < k → bad j = false) → iterM N f (I k) = some (match (List.range n).find? bad with | some k => e k | none => e0) := by
    intro m
    induction m with
    | zero =>
      intro k N hk hN hb
      obtain ⟨N, rfl⟩ : ∃ N', N = N' + 1 := ⟨N - 1, by omega⟩
      have : k = n := by omega
      subst this
      rw [iterM_done h2]
      have : (List.range k).find? bad = none := by
        rw [List.find?_eq_none]
        intro x hx
        simp [hb x (by simpa using hx)]
      rw [this]
    | succ m ih =>
      intro k N hk hN hb
      obtain ⟨N, rfl⟩ : ∃ N', N = N' + 1 := ⟨N - 1, by omega⟩
      have hk2 := h1 k (by omega) hb
      cases hbk : bad k with
      | true =>
        rw [hbk] at hk2
        simp only [if_true] at hk2
        rw [iterM_done hk2]
        have : (List.range n).find? bad = some k := by
          rw [List.find?_range_eq_some]
          exact ⟨hbk, by simp; omega, fun j hj => by simp [hb j hj]⟩
        rw [this]
      | false =>
        rw [hbk] at hk2
        simp only [Bool.false_eq_true, if_false] at hk2
        rw [iterM_step hk2]
        exact ih (k + 1) N (by omega) (by omega) (fun j hj => by
          by_cases hjk : j = k
          · subst hjk; exact hbk
          · exact hb j (by omega))
  exact key n 0 N (by omega) hN (fun j hj => absurd hj (by omega))
def filtL (p : Nat → Bool) (k : Nat) : List Int := ((List.range k).filter p).map fun i : Nat => (i : Int)
theorem filtL_succ {p : Nat → Bool} {k : Nat} : filtL p (k + 1) = if p k = true then filtL p k ++ [(k : Int)] else filtL p k := by
  unfold filtL
  rw [List.range_succ, List.filter_append, List.map_append]
  cases h : p k with
  | true => simp [h]
  | false => simp [h]
theorem filtL_len {p : Nat → Bool} {k : Nat} : (filtL p k).length ≤ k := by
  unfold filtL
  rw [List.length_map]
  exact Nat.le_trans (List.length_filter_le _ _) (by simp)
end Go.Gx

namespace Go.Gx
open Go
theorem range_set {α : Type} {f : Nat → α} {n i : Nat} {v : α} : ((List.range n).map f).set i v = (List.range n).map fun t => if t = i then v else f t := by
  apply List.ext_getElem
  · simp
  · intro j h1 h2
    simp only [List.length_set, List.length_map, List.length_range] at h1
    rw [List.getElem_set]
    simp only [List.getElem_map, List.getElem_range]
    by_cases h : i = j
    · subst h; simp
    · rw [if_neg h, if_neg (fun e => h e.symm)]
theorem range_ix {α : Type} {f : Nat → α} {n i : Nat} (h : i < n) : ix ((List.range n).map f) (i : Int) = some (f i) := by
  unfold ix
  rw [if_neg (by omega), Int.toNat_natCast]
  simp [h]
end Go.Gx

namespace Go.Proofs.Ws
open Go Go.Fw Go.Gx Go.Sp
theorem Yg (a b : Int) : Jx a [b] = some (min a b) := by
  unfold Jx
  have h1 : yJ [b] ⟨a, 0⟩ = some (.inl ⟨min a b, 1⟩) := by
    unfold yJ
    simp [ix, addc]
  have h2 : yJ [b] ⟨min a b, 1⟩ = some (.inr (min a b)) := by
    unfold yJ
    simp
  have e : FU = (FU - 2) + 1 + 1 := by unfold FU; rfl
  rw [e, iterM_step h1, iterM_done h2]
  rfl
theorem ix_way {l : List Wy} {c : Change} (h : isWay l c) : ix l c.way = some (wy l c) := by
  obtain ⟨h1, h2⟩ := h
  exact ix_eq default h1 h2
theorem Ki {l : List Wy} (hl : NetOK l) {c : Change} (h : isWay l c) : qy l c = some ⟨eA l c, eB l c, eC l c, rm l c⟩ := by
  have hk := hl.2 _ (wy_mem h)
  have h1 := hk.hi; have h2 := hk.goes; have h3 := hk.cost; have h4 := hk.lo
  unfold qy
  rw [ix_way h, Option.bind_some]
  unfold eA eB eC rm
  cases c.more with
  | true =>
    simp only [if_true]
    rw [subc_eq (by omega), Option.bind_some]
  | false =>
    simp only [Bool.false_eq_true, if_false]
    rw [negc_eq (by omega), Option.bind_some, Yg, Option.bind_some, subc_eq (by omega), Option.bind_some]
def gI {α : Type} (d : α) (l : List α) (x : Int) : α := if 0 ≤ x then l.getD x.toNat d else d
theorem gI_set {α : Type} {d v : α} {l : List α} {b : Int} (h0 : 0 ≤ b) (h1 : b < l.length) : gI d (l.set b.toNat v) = upd (gI d l) b v := by
  funext x
  unfold gI upd
  by_cases hx : x = b
  · subst hx
    rw [if_pos h0, if_pos rfl, List.getD_eq_getElem?_getD, List.getElem?_set_self (by omega)]
    rfl
  · rw [if_neg hx]
    by_cases h : 0 ≤ x
    · simp only [h, if_true]
      rw [List.getD_eq_getElem?_getD, List.getD_eq_getElem?_getD, List.getElem?_set_ne (by omega)]
    · simp only [h, if_false]
theorem ix_gI {α : Type} (d : α) {l : List α} {x : Int} (h0 : 0 ≤ x) (h1 : x < l.length) : ix l x = some (gI d l x) := by
  unfold gI
  rw [if_pos h0]
  exact ix_eq d h0 h1
def resTo (l : List Wy) (k : Nat) : List Change := (List.range k).flatMap fun i : Nat => ([⟨(i : Int), true⟩, ⟨(i : Int), false⟩] : List Change).filter fun c => decide (0 < rm l c)
theorem resTo_succ {l : List Wy} {k : Nat} : resTo l (k + 1) = resTo l k ++ ((if 0 < rm l ⟨(k : Int), true⟩ then [⟨(k : Int), true⟩] else []) ++ (if 0 < rm l ⟨(k : Int), false⟩ then [⟨(k : Int), false⟩] else [])) := by
  unfold resTo
  rw [List.range_succ, List.flatMap_append]
  congr 1
  simp only [List.flatMap_cons, List.flatMap_nil, List.append_nil, List.filter_cons, List.filter_nil]
  by_cases h1 : 0 < rm l ⟨(k : Int), true⟩ <;> by_cases h2 : 0 < rm l ⟨(k : Int), false⟩ <;> simp [h1, h2]
theorem resTo_all (l : List Wy) : resTo l l.length = res l := rfl
theorem res_len (l : List Wy) : (res l).length ≤ 2 * l.length := by
  have key : ∀ k, (resTo l k).length ≤ 2 * k := by
    intro k
    induction k with
    | zero => simp [resTo]
    | succ k ih =>
      rw [resTo_succ]
      simp only [List.length_append]
      split <;> split <;> simp <;> omega
  rw [← resTo_all]
  exact key l.length
theorem ends_in {l : List Wy} (hl : NetOK l) {c : Change} (h : isWay l c) : (0 ≤ eA l c ∧ eA l c < 12) ∧ (0 ≤ eB l c ∧ eB l c < 12) ∧ eA l c ≠ eB l c ∧ -1 ≤ eC l c ∧ eC l c ≤ 1 := by
  have hk := hl.2 _ (wy_mem h)
  have h1 := hk.fr; have h2 := hk.dst; have h3 := hk.ne; have h4 := hk.cost
  unfold eA eB eC
  cases c.more with
  | true => simp only [if_true]; omega
  | false => simp only [Bool.false_eq_true, if_false]; omega
theorem way_nat {l : List Wy} {k : Nat} (h : k < l.length) (m : Bool) : isWay l ⟨(k : Int), m⟩ := ⟨by simp, by simpa using h⟩
end Go.Proofs.Ws

namespace Go.Proofs.Ws
open Go Go.Fw Go.Gx Go.Sp
abbrev nil0 : Change := ⟨0, false⟩
def visitL (l : List Wy) (s : List Bool × List Change) (c : Change) : List Bool × List Change :=
  if gI false s.1 (eA l c) = true ∧ gI false s.1 (eB l c) = false then (s.1.set (eB l c).toNat true, s.2.set (eB l c).toNat c) else s
def L12 (s : List Bool × List Change) : Prop := s.1.length = 12 ∧ s.2.length = 12
def bsOf (s : List Bool × List Change) : BS := ⟨gI false s.1, gI nil0 s.2⟩
theorem visitL_12 {l : List Wy} {s : List Bool × List Change} (h : L12 s) (c : Change) : L12 (visitL l s c) := by
  unfold visitL L12 at *
  split <;> simp [h.1, h.2]
theorem visitL_bs {l : List Wy} (hl : NetOK l) {s : List Bool × List Change} (h : L12 s) {c : Change} (hc : isWay l c) : bsOf (visitL l s c) = visit (eA l) (eB l) (bsOf s) c := by
  obtain ⟨h1, h2, _⟩ := ends_in hl hc
  unfold visitL visit bsOf
  split
  · simp only
    rw [gI_set h2.1 (by rw [h.1]; exact h2.2), gI_set h2.1 (by rw [h.2]; exact h2.2)]
  · rfl
theorem jaI {l : List Wy} (hl : NetOK l) {s : List Bool × List Change} (h : L12 s) {c : Change} (hc : isWay l c) (C R : Int) :
    yc c (eA l c) (eB l c) C R s.1 s.2 = some ⟨(visitL l s c).1, (visitL l s c).2⟩ := by
  obtain ⟨h1, h2, _⟩ := ends_in hl hc
  unfold yc visitL
  rw [ix_gI false h1.1 (by rw [h.1]; exact h1.2), Option.bind_some]
  cases ha : gI false s.1 (eA l c) with
  | false => simp
  | true =>
    simp only [if_true, true_and]
    rw [ix_gI false h2.1 (by rw [h.1]; exact h2.2), Option.bind_some]
    cases hb : gI false s.1 (eB l c) with
    | true => simp
    | false =>
      simp only [Option.bind_some, Bool.not_false, if_true]
      rw [ix_gI nil0 h2.1 (by rw [h.2]; exact h2.2), Option.bind_some]
theorem fold_12 {l : List Wy} : ∀ (L : List Change) {s : List Bool × List Change}, L12 s → L12 (L.foldl (visitL l) s)
  | [], _, h => h
  | c :: L, _, h => fold_12 L (visitL_12 h c)
theorem fold_bs {l : List Wy} (hl : NetOK l) : ∀ (L : List Change), (∀ c, c ∈ L → isWay l c) → ∀ {s : List Bool × List Change}, L12 s → bsOf (L.foldl (visitL l) s) = L.foldl (visit (eA l) (eB l)) (bsOf s)
  | [], _, _, _ => rfl
  | c :: L, hL, s, h => by
    show bsOf (L.foldl (visitL l) (visitL l s c)) = _
    rw [fold_bs hl L (fun d hd => hL d (by simp [hd])) (visitL_12 h c), visitL_bs hl h (hL c (by simp))]
    rfl
theorem YE {l : List Wy} (hl : NetOK l) {s : List Bool × List Change} (h : L12 s) : yu l s.1 s.2 = some ⟨((res l).foldl (visitL l) s).1, ((res l).foldl (visitL l) s).2⟩ := by
  unfold yu
  have key := iterM_run (f := kY l) (fun k => ⟨(k : Int), ((resTo l k).foldl (visitL l) s).1, ((resTo l k).foldl (visitL l) s).2⟩) l.length (b := ⟨((res l).foldl (visitL l) s).1, ((res l).foldl (visitL l) s).2⟩) (fun k hk => ?_) ?_ FU (FU_lt (by have := hl.1; omega))
  · simp only [resTo, List.range_zero, List.flatMap_nil, List.foldl_nil] at key
    have e : ((0 : Nat) : Int) = 0 := rfl
    rw [e] at key
    rw [key, Option.bind_some]
  · have h12 : L12 ((resTo l k).foldl (visitL l) s) := fold_12 _ h
    generalize hs : (resTo l k).foldl (visitL l) s = t at h12
    unfold kY
    have hlt : (k : Int) < (l.length : Int) := by omega
    simp only [hlt, if_true]
    have step : ∀ (b : Bool) (u : List Bool × List Change), L12 u → ((qy l (⟨(k : Int), b⟩ : Change)).bind fun t32 => if 0 < t32.r3 then ((yc (⟨(k : Int), b⟩ : Change) t32.r0 t32.r1 t32.r2 t32.r3 u.1 u.2).bind fun t45 => some (⟨t45.a55_0, t45.a66_0⟩ : k7)) else (some (⟨u.1, u.2⟩ : k7))) = some (⟨(if 0 < rm l ⟨(k : Int), b⟩ then visitL l u ⟨(k : Int), b⟩ else u).1, (if 0 < rm l ⟨(k : Int), b⟩ then visitL l u ⟨(k : Int), b⟩ else u).2⟩ : k7) := fun b u hu => by
      rw [Ki hl (way_nat hk b), Option.bind_some]
      by_cases hr : 0 < rm l ⟨(k : Int), b⟩
      · simp only [hr, if_true]
        rw [jaI hl hu (way_nat hk b), Option.bind_some]
      · simp only [hr, if_false]
    obtain ⟨u1, hu1⟩ : ∃ u1, u1 = if 0 < rm l ⟨(k : Int), true⟩ then visitL l t ⟨(k : Int), true⟩ else t := ⟨_, rfl⟩
    obtain ⟨u2, hu2⟩ : ∃ u2, u2 = if 0 < rm l ⟨(k : Int), false⟩ then visitL l u1 ⟨(k : Int), false⟩ else u1 := ⟨_, rfl⟩
    have hu112 : L12 u1 := by rw [hu1]; split; exact visitL_12 h12 _; exact h12
    have f1 : j8 l ⟨(k : Int), t.1, t.2⟩ ⟨0, t.1, t.2⟩ = some (.inl ⟨1, u1.1, u1.2⟩) := by
      unfold j8
      simp only [List.length_cons, List.length_nil]
      rw [if_pos (by decide)]
      have e : ix [true, false] (0 : Int) = some true := rfl
      rw [e, Option.bind_some, step true t h12, ← hu1, Option.bind_some]
      rfl
    have f2 : j8 l ⟨(k : Int), t.1, t.2⟩ ⟨1, u1.1, u1.2⟩ = some (.inl ⟨2, u2.1, u2.2⟩) := by
      unfold j8
      simp only [List.length_cons, List.length_nil]
      rw [if_pos (by decide)]
      have e : ix [true, false] (1 : Int) = some false := rfl
      rw [e, Option.bind_some, step false u1 hu112, ← hu2, Option.bind_some]
      rfl
    have f3 : j8 l ⟨(k : Int), t.1, t.2⟩ ⟨2, u2.1, u2.2⟩ = some (.inr ⟨u2.1, u2.2⟩) := by
      unfold j8
      simp only [List.length_cons, List.length_nil]
      rw [if_neg (by decide)]
    have e : FU = (FU - 3) + 1 + 1 + 1 := by unfold FU; rfl
    rw [e, iterM_step f1, iterM_step f2, iterM_done f3, Option.bind_some, addc_eq (by have := hl.1; omega), Option.bind_some]
    have hn : (resTo l (k + 1)).foldl (visitL l) s = u2 := by
      rw [resTo_succ, List.foldl_append, List.foldl_append, hs, hu2, hu1]
      by_cases h1 : 0 < rm l ⟨(k : Int), true⟩ <;> by_cases h2 : 0 < rm l ⟨(k : Int), false⟩ <;> simp [h1, h2]
    rw [hn]
    rfl
  · unfold kY
    simp only [Int.lt_irrefl, if_false]
    rw [resTo_all]
end Go.Proofs.Ws

namespace Go.Proofs.Ws
open Go Go.Fw Go.Gx Go.Sp
theorem count_lt : ∀ (m m' : List Bool), m.length = m'.length → (∀ i : Nat, i < m.length → m.getD i false = true → m'.getD i false = true) → m ≠ m' → m.count true < m'.count true
  | [], [], _, _, h => absurd rfl h
  | [], _ :: _, h, _, _ => by simp at h
  | _ :: _, [], h, _, _ => by simp at h
  | a :: m, b :: m', hl, hm, hne => by
    have hab : a = true → b = true := fun h => by
      have := hm 0 (by simp) (by simpa using h)
      simpa using this
    have hm' : ∀ i : Nat, i < m.length → m.getD i false = true → m'.getD i false = true := fun i hi h => by
      have := hm (i + 1) (by simpa using hi) (by simpa using h)
      simpa using this
    have hl' : m.length = m'.length := by simpa using hl
    by_cases he : m = m'
    · subst he
      cases a <;> cases b
      · exact absurd rfl hne
      · simp [List.count_cons]
      · have := hab rfl; cases this
      · exact absurd rfl hne
    · have ih := count_lt m m' hl' hm' he
      cases a <;> cases b
      · simpa [List.count_cons] using ih
      · simp only [List.count_cons, beq_self_eq_true, if_true]; simp; omega
      · have := hab rfl; cases this
      · simpa [List.count_cons] using ih
def pOf (l : List Wy) (by_ : List Change) : Int → Int := fun x => eA l (gI nil0 by_ x)
theorem ZA {l : List Wy} (hl : NetOK l) {src to : Int} (hs : 0 ≤ src ∧ src < 12) (ht : 0 ≤ to ∧ to < 12) :
    ∃ (met : List Bool) (by_ : List Change), met.length = 12 ∧ gI false met src = true ∧ (∀ c, c ∈ res l → gI false met (eA l c) = true → gI false met (eB l c) = true) ∧
      ((gI false met to = false ∧ Kp l src to = some ⟨met, []⟩) ∨
       (gI false met to = true ∧ ∃ (k : Nat) (d : Int → Nat), Kp l src to = some ⟨met, chainL (gI nil0 by_) (pOf l by_) to k⟩ ∧ k ≤ 1066 ∧ iterP (pOf l by_) k to = src ∧
        (∀ j, j < k → iterP (pOf l by_) j to ≠ src ∧ gI nil0 by_ (iterP (pOf l by_) j to) ∈ res l ∧ eB l (gI nil0 by_ (iterP (pOf l by_) j to)) = iterP (pOf l by_) j to) ∧
        (∀ i j, i < j → j ≤ k → d (iterP (pOf l by_) j to) < d (iterP (pOf l by_) i to)))) := by
  unfold Kp
  have hrl := res_len l
  have hlen := hl.1
  rw [ix_gI false hs.1 (by simpa using hs.2), Option.bind_some, Option.bind_some]
  have hres : ∀ c, c ∈ res l → isWay l c := fun c hc => (res_mem.1 hc).1
  have hround : ∃ o, iterM FU (zV l) ⟨List.replicate 12 nil0, (List.replicate 12 false).set src.toNat true⟩ = some o ∧ L12 (o.met8, o.by9) ∧ gI false o.met8 src = true ∧ (∀ c, c ∈ res l → gI false o.met8 (eA l c) = true → gI false o.met8 (eB l c) = true) ∧ ∃ d N, BInv (eA l) (eB l) (res l) src d N (bsOf (o.met8, o.by9)) ∧ N ≤ 1066 := by
    refine iterM_inv (f := zV l) (fun s => L12 (s.met8, s.by9) ∧ ∃ d N, BInv (eA l) (eB l) (res l) src d N (bsOf (s.met8, s.by9)) ∧ N ≤ 82 * s.met8.count true) (fun s => 12 - s.met8.count true) (fun o => L12 (o.met8, o.by9) ∧ gI false o.met8 src = true ∧ (∀ c, c ∈ res l → gI false o.met8 (eA l c) = true → gI false o.met8 (eB l c) = true) ∧ ∃ d N, BInv (eA l) (eB l) (res l) src d N (bsOf (o.met8, o.by9)) ∧ N ≤ 1066) (fun s hs => ?_) FU ⟨List.replicate 12 nil0, (List.replicate 12 false).set src.toNat true⟩ (FU_lt (by omega)) ?_
    · -- a round
      obtain ⟨h12, d, N, hb, hN⟩ := hs
      unfold zV
      rw [YE hl h12, Option.bind_some]
      have h12' := fold_12 (l := l) (res l) h12
      have hbs := fold_bs hl (res l) hres h12
      obtain ⟨d', hb'⟩ := hb.fold (res l) (fun _ h => h)
      rw [← hbs] at hb'
      obtain ⟨t, ht'⟩ : ∃ t, t = (res l).foldl (visitL l) (s.met8, s.by9) := ⟨_, rfl⟩
      rw [← ht'] at h12' hb' hbs ⊢
      by_cases heq : t.1 = s.met8
      · right
        simp only [heq, if_true]
        refine ⟨_, rfl, ?_, ?_, fun c hc ha => ?_, d', N + (res l).length, ?_, ?_⟩
        · rw [← heq]; exact h12'
        · exact hb.srcm
        · have := fold_done (A := eA l) (B := eB l) (res l) (bsOf (s.met8, s.by9)) c hc ha
          rw [← hbs] at this
          show gI false s.met8 (eB l c) = true
          rw [← heq]; exact this
        · rw [← heq]; exact hb'
        · have h1 : s.met8.count true ≤ s.met8.length := List.count_le_length
          have h2 := h12.1
          simp only at h2
          omega
      · left
        simp only [heq, if_false]
        have hlt : s.met8.count true < t.1.count true := count_lt _ _ (by rw [h12.1, h12'.1]) (fun i hi hi2 => by
          have := fold_mono (A := eA l) (B := eB l) (res l) (bsOf (s.met8, s.by9)) (i : Int) (by
            show gI false s.met8 (i : Int) = true
            unfold gI; rw [if_pos (by omega)]; simpa using hi2)
          rw [← hbs] at this
          have h3 : gI false t.1 (i : Int) = true := this
          unfold gI at h3
          rw [if_pos (by omega)] at h3
          simpa using h3) (fun e => heq e.symm)
        refine ⟨_, rfl, ⟨h12', d', N + (res l).length, hb', ?_⟩, ?_⟩
        · show N + (res l).length ≤ 82 * t.1.count true
          omega
        · have h1 : t.1.count true ≤ t.1.length := List.count_le_length
          have h2 := h12'.1
          show 12 - t.1.count true < 12 - s.met8.count true
          omega
    · refine ⟨⟨by simp, by simp⟩, fun _ => 0, 0, ⟨?_, fun _ => Nat.le_refl _, fun x hx hne => ?_⟩, Nat.zero_le _⟩
      · show gI false ((List.replicate 12 false).set src.toNat true) src = true
        rw [gI_set hs.1 (by simpa using hs.2), upd_same]
      · exfalso
        have hx' : gI false ((List.replicate 12 false).set src.toNat true) x = true := hx
        rw [gI_set hs.1 (by simpa using hs.2), upd_ne hne] at hx'
        unfold gI at hx'
        split at hx'
        · rw [List.getD_eq_getElem?_getD, List.getElem?_replicate] at hx'
          split at hx' <;> simp at hx'
        · cases hx'
  obtain ⟨o, ho, ⟨hoL, hosrc, hocl, d, N, hb, hN⟩⟩ := hround
  rw [ho, Option.bind_some, ix_gI false ht.1 (by rw [hoL.1]; exact ht.2), Option.bind_some]
  refine ⟨o.met8, o.by9, hoL.1, hosrc, hocl, ?_⟩
  cases hto : gI false o.met8 to with
  | false => exact .inl ⟨rfl, by simp⟩
  | true =>
    right
    obtain ⟨k, h1, h2, h3, h4⟩ := hb.back (to := to) hto
    refine ⟨rfl, k, d, ?_, by omega, h2, h3, h4⟩
    simp only [Bool.not_true, Bool.false_eq_true, if_false]
    have key := iterM_run (f := zZ src o l) (fun j => ⟨iterP (pOf l o.by9) j to, chainL (gI nil0 o.by9) (pOf l o.by9) to j⟩) k (b := chainL (gI nil0 o.by9) (pOf l o.by9) to k) (fun j hj => ?_) ?_ FU (FU_lt (by omega))
    · have e : (⟨iterP (pOf l o.by9) 0 to, chainL (gI nil0 o.by9) (pOf l o.by9) to 0⟩ : z6) = ⟨to, []⟩ := rfl
      rw [← e, key, Option.bind_some]
    · obtain ⟨g1, g2, g3⟩ := h3 j hj
      have hw := hres _ g2
      have hin := (ends_in hl hw).2.1
      have g1' : iterP (pOf l o.by9) j to ≠ src := g1
      have g2' : gI nil0 o.by9 (iterP (pOf l o.by9) j to) ∈ res l := g2
      have g3' : eB l (gI nil0 o.by9 (iterP (pOf l o.by9) j to)) = iterP (pOf l o.by9) j to := g3
      have hw' : isWay l (gI nil0 o.by9 (iterP (pOf l o.by9) j to)) := hres _ g2'
      have hin' := (ends_in hl hw').2.1
      rw [g3'] at hin'
      unfold zZ
      simp only
      rw [if_neg g1', ix_gI nil0 hin'.1 (by rw [hoL.2]; exact hin'.2), Option.bind_some, appc_eq (by
        unfold chainL; simp only [List.length_map, List.length_range, List.length_cons, List.length_nil]; omega), Option.bind_some, Option.bind_some, Ki hl hw', Option.bind_some]
      have e1 : chainL (gI nil0 o.by9) (pOf l o.by9) to (j + 1) = chainL (gI nil0 o.by9) (pOf l o.by9) to j ++ [⟨(gI nil0 o.by9 (iterP (pOf l o.by9) j to)).way, (gI nil0 o.by9 (iterP (pOf l o.by9) j to)).more⟩] := by
        unfold chainL
        rw [List.range_succ, List.map_append]
        rfl
      rw [e1, iterP_succ]
      rfl
    · unfold zZ
      have h2' : iterP (pOf l o.by9) k to = src := h2
      simp only
      rw [if_pos h2']
end Go.Proofs.Ws

namespace Go.Proofs.Ws
open Go Go.Fw Go.Gx Go.Sp
structure FL where
  far : List Int
  by_ : List Change
  last : Int
def relaxL (l : List Wy) (s : FL) (c : Change) : FL :=
  if gI 0 s.far (eA l c) + eC l c < gI 0 s.far (eB l c) then ⟨s.far.set (eB l c).toNat (gI 0 s.far (eA l c) + eC l c), s.by_.set (eB l c).toNat c, eB l c⟩ else s
structure F12 (K : Nat) (s : FL) : Prop where
  far : s.far.length = 12
  by_ : s.by_.length = 12
  lo : ∀ x, -(K : Int) ≤ gI 0 s.far x ∧ gI 0 s.far x ≤ 0
def bfOf (s : FL) : BF := ⟨gI 0 s.far, gI nil0 s.by_, s.last⟩
theorem F12.mono {K K' : Nat} {s : FL} (h : F12 K s) (hk : K ≤ K') : F12 K' s := ⟨h.far, h.by_, fun x => by have := h.lo x; omega⟩
theorem relaxL_12 {l : List Wy} (hl : NetOK l) {K : Nat} {s : FL} (h : F12 K s) {c : Change} (hc : isWay l c) : F12 (K + 1) (relaxL l s c) := by
  obtain ⟨h1, h2, h3, h4, h5⟩ := ends_in hl hc
  unfold relaxL
  split
  · rename_i hlt
    refine ⟨by simp [h.far], by simp [h.by_], fun x => ?_⟩
    simp only
    rw [gI_set h2.1 (by rw [h.far]; exact h2.2)]
    unfold upd
    have := h.lo x; have := h.lo (eA l c); have := h.lo (eB l c)
    split <;> omega
  · exact h.mono (by omega)
theorem relaxL_bf {l : List Wy} (hl : NetOK l) {K : Nat} {s : FL} (h : F12 K s) {c : Change} (hc : isWay l c) : bfOf (relaxL l s c) = relax (eA l) (eB l) (eC l) (bfOf s) c := by
  obtain ⟨h1, h2, _⟩ := ends_in hl hc
  unfold relaxL relax bfOf
  split
  · simp only
    rw [gI_set h2.1 (by rw [h.far]; exact h2.2), gI_set h2.1 (by rw [h.by_]; exact h2.2)]
  · rfl
theorem jaO {l : List Wy} (hl : NetOK l) {K : Nat} (hK : K ≤ 100000) {s : FL} (h : F12 K s) {c : Change} (hc : isWay l c) (R : Int) :
    kM c (eA l c) (eB l c) (eC l c) R s.far s.by_ s.last = some ⟨(relaxL l s c).far, (relaxL l s c).by_, (relaxL l s c).last⟩ := by
  obtain ⟨h1, h2, h3, h4, h5⟩ := ends_in hl hc
  have b1 := h.lo (eA l c)
  unfold kM relaxL
  have hf := h.far; have hb := h.by_
  rw [ix_gI 0 h1.1 (by rw [hf]; exact h1.2), Option.bind_some, addc_eq (by omega), Option.bind_some, ix_gI 0 h2.1 (by rw [hf]; exact h2.2), Option.bind_some]
  by_cases hlt : gI 0 s.far (eA l c) + eC l c < gI 0 s.far (eB l c)
  · simp only [hlt, if_true]
    rw [Option.bind_some, addc_eq (by omega), Option.bind_some, Option.bind_some, Option.bind_some, ix_gI nil0 h2.1 (by rw [hb]; exact h2.2), Option.bind_some, Option.bind_some]
  · simp only [hlt, if_false]
theorem foldF_12 {l : List Wy} (hl : NetOK l) : ∀ (L : List Change), (∀ c, c ∈ L → isWay l c) → ∀ {K : Nat} {s : FL}, F12 K s → F12 (K + L.length) (L.foldl (relaxL l) s)
  | [], _, K, s, h => h
  | c :: L, hL, K, s, h => by
    have := foldF_12 hl L (fun d hd => hL d (by simp [hd])) (relaxL_12 hl h (hL c (by simp)))
    rw [List.length_cons, show K + (L.length + 1) = K + 1 + L.length by omega]
    exact this
theorem foldF_bf {l : List Wy} (hl : NetOK l) : ∀ (L : List Change), (∀ c, c ∈ L → isWay l c) → ∀ {K : Nat} {s : FL}, F12 K s → bfOf (L.foldl (relaxL l) s) = L.foldl (relax (eA l) (eB l) (eC l)) (bfOf s)
  | [], _, _, _, _ => rfl
  | c :: L, hL, K, s, h => by
    show bfOf (L.foldl (relaxL l) (relaxL l s c)) = _
    rw [foldF_bf hl L (fun d hd => hL d (by simp [hd])) (relaxL_12 hl h (hL c (by simp))), relaxL_bf hl h (hL c (by simp))]
    rfl
theorem resTo_way {l : List Wy} {k : Nat} (hk : k ≤ l.length) : ∀ c, c ∈ resTo l k → isWay l c := fun c hc => by
  unfold resTo at hc
  obtain ⟨i, hi, h⟩ := List.mem_flatMap.1 hc
  have hi' : i < l.length := by have := List.mem_range.1 hi; omega
  have := (List.mem_filter.1 h).1
  simp only [List.mem_cons, List.not_mem_nil, or_false] at this
  rcases this with rfl | rfl <;> exact way_nat hi' _
theorem resTo_len {l : List Wy} (k : Nat) : (resTo l k).length ≤ 2 * k := by
  induction k with
  | zero => simp [resTo]
  | succ k ih =>
    rw [resTo_succ]
    simp only [List.length_append]
    split <;> split <;> simp <;> omega
theorem YY {l : List Wy} (hl : NetOK l) {K : Nat} (hK : K ≤ 2000) {s : FL} (h : F12 K s) : yw l s.far s.by_ s.last = some ⟨((res l).foldl (relaxL l) s).far, ((res l).foldl (relaxL l) s).by_, ((res l).foldl (relaxL l) s).last⟩ := by
  unfold yw
  have hlen := hl.1
  have key := iterM_run (f := kZ l) (fun k => ⟨(k : Int), ((resTo l k).foldl (relaxL l) s).far, ((resTo l k).foldl (relaxL l) s).by_, ((resTo l k).foldl (relaxL l) s).last⟩) l.length (b := ⟨((res l).foldl (relaxL l) s).far, ((res l).foldl (relaxL l) s).by_, ((res l).foldl (relaxL l) s).last⟩) (fun k hk => ?_) ?_ FU (FU_lt (by omega))
  · simp only [resTo, List.range_zero, List.flatMap_nil, List.foldl_nil] at key
    have e : ((0 : Nat) : Int) = 0 := rfl
    rw [e] at key
    rw [key, Option.bind_some]
  · have h12 := foldF_12 hl (resTo l k) (resTo_way (by omega)) h
    have hrl := resTo_len (l := l) k
    replace h12 := h12.mono (K' := 3000) (by omega)
    generalize hs : (resTo l k).foldl (relaxL l) s = t at h12
    unfold kZ
    have hlt : (k : Int) < (l.length : Int) := by omega
    simp only [hlt, if_true]
    have step : ∀ (b : Bool) (u : FL) (K : Nat), K ≤ 100000 → F12 K u → ((qy l (⟨(k : Int), b⟩ : Change)).bind fun t32 => if 0 < t32.r3 then ((kM (⟨(k : Int), b⟩ : Change) t32.r0 t32.r1 t32.r2 t32.r3 u.far u.by_ u.last).bind fun t45 => some (⟨t45.a55_0, t45.a66_0, t45.a77⟩ : qa)) else (some (⟨u.far, u.by_, u.last⟩ : qa))) = some (⟨(if 0 < rm l ⟨(k : Int), b⟩ then relaxL l u ⟨(k : Int), b⟩ else u).far, (if 0 < rm l ⟨(k : Int), b⟩ then relaxL l u ⟨(k : Int), b⟩ else u).by_, (if 0 < rm l ⟨(k : Int), b⟩ then relaxL l u ⟨(k : Int), b⟩ else u).last⟩ : qa) := fun b u K hK hu => by
      rw [Ki hl (way_nat hk b), Option.bind_some]
      by_cases hr : 0 < rm l ⟨(k : Int), b⟩
      · simp only [hr, if_true]
        rw [jaO hl hK hu (way_nat hk b), Option.bind_some]
      · simp only [hr, if_false]
    obtain ⟨u1, hu1⟩ : ∃ u1, u1 = if 0 < rm l ⟨(k : Int), true⟩ then relaxL l t ⟨(k : Int), true⟩ else t := ⟨_, rfl⟩
    obtain ⟨u2, hu2⟩ : ∃ u2, u2 = if 0 < rm l ⟨(k : Int), false⟩ then relaxL l u1 ⟨(k : Int), false⟩ else u1 := ⟨_, rfl⟩
    have hu112 : F12 3001 u1 := by rw [hu1]; split; exact relaxL_12 hl h12 (way_nat hk true); exact h12.mono (by omega)
    have f1 : j7 l ⟨(k : Int), t.far, t.by_, t.last⟩ ⟨0, t.far, t.by_, t.last⟩ = some (.inl ⟨1, u1.far, u1.by_, u1.last⟩) := by
      unfold j7
      simp only [List.length_cons, List.length_nil]
      rw [if_pos (by decide)]
      have e : ix [true, false] (0 : Int) = some true := rfl
      rw [e, Option.bind_some, step true t 3000 (by omega) h12, ← hu1, Option.bind_some]
      rfl
    have f2 : j7 l ⟨(k : Int), t.far, t.by_, t.last⟩ ⟨1, u1.far, u1.by_, u1.last⟩ = some (.inl ⟨2, u2.far, u2.by_, u2.last⟩) := by
      unfold j7
      simp only [List.length_cons, List.length_nil]
      rw [if_pos (by decide)]
      have e : ix [true, false] (1 : Int) = some false := rfl
      rw [e, Option.bind_some, step false u1 3001 (by omega) hu112, ← hu2, Option.bind_some]
      rfl
    have f3 : j7 l ⟨(k : Int), t.far, t.by_, t.last⟩ ⟨2, u2.far, u2.by_, u2.last⟩ = some (.inr ⟨u2.far, u2.by_, u2.last⟩) := by
      unfold j7
      simp only [List.length_cons, List.length_nil]
      rw [if_neg (by decide)]
    have e : FU = (FU - 3) + 1 + 1 + 1 := by unfold FU; rfl
    rw [e, iterM_step f1, iterM_step f2, iterM_done f3, Option.bind_some, addc_eq (by omega), Option.bind_some]
    have hn : (resTo l (k + 1)).foldl (relaxL l) s = u2 := by
      rw [resTo_succ, List.foldl_append, List.foldl_append, hs, hu2, hu1]
      by_cases h1 : 0 < rm l ⟨(k : Int), true⟩ <;> by_cases h2 : 0 < rm l ⟨(k : Int), false⟩ <;> simp [h1, h2]
    rw [hn]
    rfl
  · unfold kZ
    simp only [Int.lt_irrefl, if_false]
    rw [resTo_all]
def roundsL (l : List Wy) : Nat → FL
  | 0 => ⟨List.replicate 12 0, List.replicate 12 nil0, -1⟩
  | r + 1 => (res l).foldl (relaxL l) ⟨(roundsL l r).far, (roundsL l r).by_, -1⟩
theorem gI_rep {α : Type} (d : α) (n : Nat) : gI d (List.replicate n d) = fun _ => d := by
  funext x
  unfold gI
  split
  · rw [List.getD_eq_getElem?_getD, List.getElem?_replicate]
    split <;> rfl
  · rfl
theorem roundsL_12 {l : List Wy} (hl : NetOK l) : ∀ r, F12 (82 * r) (roundsL l r)
  | 0 => ⟨by simp [roundsL], by simp [roundsL], fun x => by show _ ≤ gI 0 (List.replicate 12 0) x ∧ gI 0 (List.replicate 12 0) x ≤ 0; rw [gI_rep]; simp⟩
  | r + 1 => by
    have h := roundsL_12 hl r
    have h2 : F12 (82 * r) ⟨(roundsL l r).far, (roundsL l r).by_, -1⟩ := ⟨h.far, h.by_, h.lo⟩
    have h3 := foldF_12 hl (res l) (fun c hc => (res_mem.1 hc).1) h2
    have := res_len l; have := hl.1
    exact h3.mono (by omega)
theorem roundsL_bf {l : List Wy} (hl : NetOK l) : ∀ r, bfOf (roundsL l r) = rounds (eA l) (eB l) (eC l) (res l) (fun _ => nil0) r
  | 0 => by show BF.mk (gI 0 (List.replicate 12 0)) (gI nil0 (List.replicate 12 nil0)) (-1) = _; rw [gI_rep, gI_rep]; rfl
  | r + 1 => by
    have h := roundsL_12 hl r
    have h2 : F12 (82 * r) ⟨(roundsL l r).far, (roundsL l r).by_, -1⟩ := ⟨h.far, h.by_, h.lo⟩
    show bfOf ((res l).foldl (relaxL l) ⟨(roundsL l r).far, (roundsL l r).by_, -1⟩) = round (eA l) (eB l) (eC l) (res l) (rounds (eA l) (eB l) (eC l) (res l) (fun _ => nil0) r)
    rw [foldF_bf hl (res l) (fun c hc => (res_mem.1 hc).1) h2, ← roundsL_bf hl r]
    rfl
theorem pot_of {l : List Wy} {π : Int → Int} (h : ∀ c, c ∈ res l → π (eB l c) ≤ π (eA l c) + eC l c) : Pot π l := by
  intro w hw
  obtain ⟨i, hi, rfl⟩ := List.getElem_of_mem hw
  have e : ∀ m, wy l ⟨(i : Int), m⟩ = l[i] := fun m => by unfold wy; simp [List.getD_eq_getElem?_getD, hi]
  refine ⟨fun h1 => ?_, fun h1 => ?_⟩
  · have := h ⟨(i : Int), true⟩ (res_mem.2 ⟨way_nat hi true, by simp only [rm, if_true, e]; omega⟩)
    simpa [eA, eB, eC, e] using this
  · have := h ⟨(i : Int), false⟩ (res_mem.2 ⟨way_nat hi false, by simp only [rm, Bool.false_eq_true, if_false, e]; omega⟩)
    simp only [eA, eB, eC, e, Bool.false_eq_true, if_false] at this
    omega
def PotB (π : Int → Int) (l : List Wy) : Prop := Pot π l ∧ ∀ v, -1000000 ≤ π v ∧ π v ≤ 0
theorem YF {l : List Wy} (hl : NetOK l) :
    (yH l = some [] ∧ ∃ π : Int → Int, PotB π l) ∨
    ∃ (pre : Int → Change) (y : Int) (k : Nat), yH l = some (chainL pre (fun x => eA l (pre x)) y k) ∧ 0 < k ∧ k ≤ 12 ∧
      (∀ j, j < k → pre (iterP (fun x => eA l (pre x)) j y) ∈ res l ∧ eB l (pre (iterP (fun x => eA l (pre x)) j y)) = iterP (fun x => eA l (pre x)) j y) ∧ iterP (fun x => eA l (pre x)) k y = y ∧
      (∀ j, 0 < j → j < k → iterP (fun x => eA l (pre x)) j y ≠ y) ∧ sumTo (fun j => eC l (pre (iterP (fun x => eA l (pre x)) j y))) k < 0 := by
  have hlen := hl.1
  have hres : ∀ c, c ∈ res l → isWay l c := fun c hc => (res_mem.1 hc).1
  have hin : ∀ c, c ∈ res l → (0 ≤ eA l c ∧ eA l c < 12) ∧ (0 ≤ eB l c ∧ eB l c < 12) ∧ eA l c ≠ eB l c ∧ -1 ≤ eC l c ∧ eC l c ≤ 1 := fun c hc => ends_in hl (hres c hc)
  have h0 : iterM FU (k4 l) ⟨0, -1, List.replicate 12 nil0, List.replicate 12 0⟩ = some ⟨(roundsL l 13).last, (roundsL l 13).by_, (roundsL l 13).far⟩ := by
    have key := iterM_run (f := k4 l) (fun r => ⟨(r : Int), (roundsL l r).last, (roundsL l r).by_, (roundsL l r).far⟩) 13 (b := ⟨(roundsL l 13).last, (roundsL l 13).by_, (roundsL l 13).far⟩) (fun r hr => ?_) ?_ FU (FU_lt (by omega))
    · exact key
    · unfold k4
      have hlt : (r : Int) < 13 := by omega
      simp only [hlt, if_true]
      have h := roundsL_12 hl r
      have h2 : F12 (82 * r) ⟨(roundsL l r).far, (roundsL l r).by_, -1⟩ := ⟨h.far, h.by_, h.lo⟩
      rw [YY (K := 82 * r) hl (by omega) h2, Option.bind_some, addc_eq (by omega), Option.bind_some]
      rfl
    · unfold k4
      rfl
  have hb := roundsL_bf hl 13
  have h12 := roundsL_12 hl 13
  generalize roundsL l 13 = s at h0 hb h12
  unfold yH
  rw [h0, Option.bind_some]
  simp only
  by_cases hlast : s.last < 0
  · left
    simp only [hlast, if_true, true_and]
    refine ⟨gI 0 s.far, pot_of ?_, fun v => by have := h12.lo v; omega⟩
    have := rounds_pot (A := eA l) (B := eB l) (C := eC l) (cs := res l) (fun c hc => (hin c hc).2.2.1) (fun c hc => (hin c hc).2.1.1) (fun c hc => (hin c hc).2.2.2.1) (fun _ => nil0) (r := 13) (by omega) (by rw [← hb]; exact hlast)
    rw [← hb] at this
    exact this
  · right
    simp only [hlast, if_false]
    have hloop := rounds_loop (A := eA l) (B := eB l) (C := eC l) (cs := res l) (n := 12) (fun c hc => (hin c hc).2.2.1) (fun c hc => (hin c hc).1) (fun c hc => (hin c hc).2.1) (fun c hc => (hin c hc).2.2.2.1) (fun _ => nil0) (by
      show 0 ≤ (rounds (eA l) (eB l) (eC l) (res l) (fun _ => nil0) 13).last
      rw [← hb]; show 0 ≤ s.last; omega)
    have hb' : bfOf s = rounds (eA l) (eB l) (eC l) (res l) (fun _ => nil0) (12 + 1) := hb
    rw [← hb'] at hloop
    obtain ⟨hall, k, hk0, hk12, hper, hmin, hneg⟩ := hloop
    have ep : Go.Sp.pred (eA l) (bfOf s) = fun x => eA l (gI nil0 s.by_ x) := rfl
    rw [ep] at hall hper hmin hneg
    change ∀ j, gI nil0 s.by_ (iterP (fun x => eA l (gI nil0 s.by_ x)) j s.last) ∈ res l ∧ eB l (gI nil0 s.by_ (iterP (fun x => eA l (gI nil0 s.by_ x)) j s.last)) = iterP (fun x => eA l (gI nil0 s.by_ x)) j s.last at hall
    change iterP (fun x => eA l (gI nil0 s.by_ x)) k (iterP (fun x => eA l (gI nil0 s.by_ x)) 12 s.last) = iterP (fun x => eA l (gI nil0 s.by_ x)) 12 s.last at hper
    change ∀ j, 0 < j → j < k → iterP (fun x => eA l (gI nil0 s.by_ x)) j (iterP (fun x => eA l (gI nil0 s.by_ x)) 12 s.last) ≠ iterP (fun x => eA l (gI nil0 s.by_ x)) 12 s.last at hmin
    change sumTo (fun j => eC l (gI nil0 s.by_ (iterP (fun x => eA l (gI nil0 s.by_ x)) j (iterP (fun x => eA l (gI nil0 s.by_ x)) 12 s.last)))) k < 0 at hneg
    generalize hp : (fun x => eA l (gI nil0 s.by_ x)) = p at hall hper hmin hneg
    have hpx : ∀ x, eA l (gI nil0 s.by_ x) = p x := fun x => congrFun hp x
    have hnode : ∀ j, 0 ≤ iterP p j s.last ∧ iterP p j s.last < 12 := fun j => by
      obtain ⟨g1, g2⟩ := hall j
      have := (hin _ g1).2.1
      rw [g2] at this
      exact this
    have hix : ∀ j, ix s.by_ (iterP p j s.last) = some (gI nil0 s.by_ (iterP p j s.last)) := fun j => ix_gI nil0 (hnode j).1 (by rw [h12.by_]; exact (hnode j).2)
    have hall2 : ∀ j, gI nil0 s.by_ (iterP p j (iterP p 12 s.last)) ∈ res l ∧ eB l (gI nil0 s.by_ (iterP p j (iterP p 12 s.last))) = iterP p j (iterP p 12 s.last) := fun j => by rw [← iterP_add]; exact hall _
    have h1 : iterM FU (qc ⟨s.last, s.by_, s.far⟩ l) ⟨s.last, 0⟩ = some (iterP p 12 s.last) := by
      have key := iterM_run (f := qc ⟨s.last, s.by_, s.far⟩ l) (fun j => ⟨iterP p j s.last, (j : Int)⟩) 12 (b := iterP p 12 s.last) (fun j hj => ?_) ?_ FU (FU_lt (by omega))
      · exact key
      · unfold qc
        have hlt : (j : Int) < 12 := by omega
        simp only [hlt, if_true]
        rw [hix j, Option.bind_some, Ki hl (hres _ (hall j).1), Option.bind_some, addc_eq (by omega), Option.bind_some]
        simp only [hpx, ← iterP_succ]
        rfl
      · unfold qc
        rfl
    rw [h1, Option.bind_some]
    have h2 : iterM FU (qg ⟨s.last, s.by_, s.far⟩ l (iterP p 12 s.last)) ⟨iterP p 12 s.last, []⟩ = some (.inr (chainL (gI nil0 s.by_) p (iterP p 12 s.last) k)) := by
      have hstep : ∀ j, j < k → qg ⟨s.last, s.by_, s.far⟩ l (iterP p 12 s.last) ⟨iterP p j (iterP p 12 s.last), chainL (gI nil0 s.by_) p (iterP p 12 s.last) j⟩ = if iterP p (j + 1) (iterP p 12 s.last) = iterP p 12 s.last then some (.inr (.inr (chainL (gI nil0 s.by_) p (iterP p 12 s.last) (j + 1)))) else some (.inl ⟨iterP p (j + 1) (iterP p 12 s.last), chainL (gI nil0 s.by_) p (iterP p 12 s.last) (j + 1)⟩) := fun j hj => by
        unfold qg
        simp only
        have e1 : ix s.by_ (iterP p j (iterP p 12 s.last)) = some (gI nil0 s.by_ (iterP p j (iterP p 12 s.last))) := by rw [← iterP_add]; exact hix _
        rw [e1, Option.bind_some, appc_eq (by unfold chainL; simp only [List.length_map, List.length_range, List.length_cons, List.length_nil]; omega), Option.bind_some, Option.bind_some, Ki hl (hres _ (hall2 j).1), Option.bind_some]
        have e2 : chainL (gI nil0 s.by_) p (iterP p 12 s.last) (j + 1) = chainL (gI nil0 s.by_) p (iterP p 12 s.last) j ++ [gI nil0 s.by_ (iterP p j (iterP p 12 s.last))] := by
          unfold chainL
          rw [List.range_succ, List.map_append]
          rfl
        simp only [hpx, ← iterP_succ, e2]
      have key := iterM_run (f := qg ⟨s.last, s.by_, s.far⟩ l (iterP p 12 s.last)) (fun j => ⟨iterP p j (iterP p 12 s.last), chainL (gI nil0 s.by_) p (iterP p 12 s.last) j⟩) (k - 1) (b := .inr (chainL (gI nil0 s.by_) p (iterP p 12 s.last) k)) (fun j hj => ?_) ?_ FU (FU_lt (by omega))
      · exact key
      · rw [hstep j (by omega), if_neg (hmin (j + 1) (by omega) (by omega))]
      · rw [hstep (k - 1) (by omega), show k - 1 + 1 = k by omega, if_pos hper]
    rw [h2, Option.bind_some]
    subst hp
    exact ⟨gI nil0 s.by_, iterP (fun x => eA l (gI nil0 s.by_ x)) 12 s.last, k, rfl, hk0, hk12, fun j _ => hall2 j, hper, hmin, hneg⟩
end Go.Proofs.Ws

namespace Go.Proofs.Ws
open Go Go.Fw Go.Gx Go.Sp
theorem makeOK_pre {l : List Wy} {L : List Change} {m : Int} (h : MakeOK l L m) (j : Nat) : MakeOK l (L.take j) m :=
  ⟨fun c hc => h.way c (List.mem_of_mem_take hc), fun c hc => h.room c (List.mem_of_mem_take hc), List.Pairwise.sublist (List.take_sublist j L) h.once⟩
theorem makeL_snoc (l : List Wy) (L : List Change) (c : Change) (m : Int) : makeL l (L ++ [c]) m = adj (makeL l L m) c m := by simp [makeL]
theorem makeL_len : ∀ (L : List Change) (l : List Wy) (m : Int), (makeL l L m).length = l.length
  | [], _, _ => rfl
  | c :: L, l, m => by show (makeL (adj l c m) L m).length = _; rw [makeL_len L, adj_len]
theorem Zl {l : List Wy} (hl : NetOK l) {L : List Change} (hL : L.length ≤ 100000) {most : Int} (h0 : 0 ≤ mostL l L most) (h : MakeOK l L (mostL l L most)) : zu l L most = some (makeL l L (mostL l L most)) := by
  unfold zu
  have k1 : iterM FU (qI L l) ⟨most, 0⟩ = some (mostL l L most) := by
    have key := iterM_run (f := qI L l) (fun j => ⟨mostL l (L.take j) most, (j : Int)⟩) L.length (b := mostL l L most) (fun j hj => ?_) ?_ FU (FU_lt (by omega))
    · exact key
    · unfold qI
      have hlt : (j : Int) < (L.length : Int) := by omega
      simp only [hlt, if_true]
      rw [ix_nat nil0 hj, Option.bind_some]
      have hc : L.getD j nil0 = L[j] := by simp [List.getD_eq_getElem?_getD, hj]
      rw [hc, Ki hl (h.way _ (List.getElem_mem hj)), Option.bind_some, Yg, Option.bind_some, addc_eq (by omega), Option.bind_some]
      have e : L.take (j + 1) = L.take j ++ [L[j]] := by rw [List.take_append_getElem]
      rw [e]
      unfold mostL
      rw [List.foldl_append]
      rfl
    · unfold qI
      simp [mostL]
  rw [k1, Option.bind_some]
  generalize mostL l L most = m at h0 h
  have k2 : iterM FU (qL L m) ⟨0, l⟩ = some (makeL l L m) := by
    have key := iterM_run (f := qL L m) (fun j => ⟨(j : Int), makeL l (L.take j) m⟩) L.length (b := makeL l L m) (fun j hj => ?_) ?_ FU (FU_lt (by omega))
    · exact key
    · unfold qL
      have hlt : (j : Int) < (L.length : Int) := by omega
      simp only [hlt, if_true]
      rw [ix_nat nil0 hj, Option.bind_some]
      have hc : L.getD j nil0 = L[j] := by simp [List.getD_eq_getElem?_getD, hj]
      rw [hc]
      have hw := h.way _ (List.getElem_mem hj)
      have hroom := h.room _ (List.getElem_mem hj)
      have hok := makeL_ok (L.take j) hl h0 (makeOK_pre h j)
      have hw2 : isWay (makeL l (L.take j) m) L[j] := by unfold isWay at *; rw [makeL_len]; exact hw
      have hk := hok.2 _ (wy_mem hw2)
      have hkl := hl.2 _ (wy_mem hw)
      have b1 := hk.goes; have b2 := hk.hi
      have b3 : m ≤ 1000000 := by
        have c1 := hkl.goes; have c2 := hkl.hi; have c3 := hkl.lo
        unfold rm at hroom
        split at hroom <;> omega
      have e : L.take (j + 1) = L.take j ++ [L[j]] := by rw [List.take_append_getElem]
      rw [e, makeL_snoc]
      unfold adj adjW
      cases hmo : (L[j]).more with
      | true =>
        simp only [if_true]
        rw [ix_way hw2, Option.bind_some, addc_eq (by omega), Option.bind_some, Option.bind_some, Option.bind_some, Option.bind_some, addc_eq (by omega), Option.bind_some]
        rfl
      | false =>
        simp only [Bool.false_eq_true, if_false]
        rw [ix_way hw2, Option.bind_some, subc_eq (by omega), Option.bind_some, Option.bind_some, Option.bind_some, Option.bind_some, addc_eq (by omega), Option.bind_some]
        rfl
    · unfold qL
      simp
  rw [k2, Option.bind_some]
def goneP (x : Strip) : Span := ⟨max 0 (x.lay.lo + x.seeded.lo - x.left.hi), x.lay.hi + x.seeded.hi - x.left.lo⟩
def In30 (x : Span) : Prop := 0 ≤ x.lo ∧ x.lo ≤ 30 ∧ 0 ≤ x.hi ∧ x.hi ≤ 30
theorem Zk {x : Strip} (h1 : In30 x.lay) (h2 : In30 x.seeded) (h3 : In30 x.left) : j9 x = some (goneP x) := by
  unfold j9 goneP
  unfold In30 at *
  rw [addc_eq (by omega), Option.bind_some, subc_eq (by omega), Option.bind_some, addc_eq (by omega), Option.bind_some, subc_eq (by omega), Option.bind_some]
structure NetS (st : List Strip) (ca : List Span) : Prop where
  s6 : st.length ≤ 6
  c5 : ca.length ≤ 5
  sp : ∀ x, x ∈ st → In30 x.lay ∧ In30 x.seeded ∧ In30 x.left ∧ (goneP x).lo ≤ (goneP x).hi
  cp : ∀ x, x ∈ ca → In30 x ∧ x.lo ≤ x.hi
def stripW (g : Nat → Span) (k : Nat) : Wy := ⟨0, 1 + (k : Int), (g k).lo, (g k).hi, 0, 0⟩
def innerW (c : Nat → Nat → Int) (t k : Nat) : Wy := ⟨1 + (k : Int), 7 + (t : Int), 0, 1000000, c t k, 0⟩
def tenW (h : Nat → Span) (t : Nat) : Wy := ⟨7 + (t : Int), 0, (h t).lo, (h t).hi, 0, 0⟩
def tenL (S : Nat) (h : Nat → Span) (R : Nat → Nat → Bool) (c : Nat → Nat → Int) (t : Nat) : List Wy := ((List.range S).filter (R t)).map (innerW c t) ++ [tenW h t]
def laidTo (S : Nat) (g h : Nat → Span) (R : Nat → Nat → Bool) (c : Nat → Nat → Int) (T : Nat) : List Wy := (List.range S).map (stripW g) ++ (List.range T).flatMap (tenL S h R c)
def gOf (st : List Strip) (k : Nat) : Span := goneP (st.getD k default)
def hOf (ca : List Span) (t : Nat) : Span := ca.getD t default
def rOf (mp : List (Pair × Bool)) (t k : Nat) : Bool := (aget mp ⟨(t : Int), (k : Int)⟩).getD false
def cOf (cf : Pair → Option Int) (t k : Nat) : Int := (cf ⟨(t : Int), (k : Int)⟩).getD 0
def laidS (st : List Strip) (ca : List Span) (mp : List (Pair × Bool)) (cf : Pair → Option Int) : List Wy := laidTo st.length (gOf st) (hOf ca) (rOf mp) (cOf cf) ca.length
def CfOK (st : List Strip) (ca : List Span) (cf : Pair → Option Int) : Prop := ∀ t k : Nat, t < ca.length → k < st.length → ∃ c : Int, cf ⟨(t : Int), (k : Int)⟩ = some c ∧ -1 ≤ c ∧ c ≤ 1
theorem filt_len {S : Nat} {p : Nat → Bool} : ((List.range S).filter p).length ≤ S := Nat.le_trans (List.length_filter_le _ _) (by simp)
theorem laidTo_len {S T : Nat} {g h : Nat → Span} {R : Nat → Nat → Bool} {c : Nat → Nat → Int} : (laidTo S g h R c T).length ≤ S + T * (S + 1) := by
  induction T with
  | zero => simp [laidTo]
  | succ T ih =>
    have e : laidTo S g h R c (T + 1) = laidTo S g h R c T ++ tenL S h R c T := by
      unfold laidTo
      rw [List.range_succ, List.flatMap_append, List.append_assoc]
      simp
    rw [e, List.length_append]
    have : (tenL S h R c T).length ≤ S + 1 := by
      unfold tenL
      have := filt_len (S := S) (p := R T)
      simp only [List.length_append, List.length_map, List.length_cons, List.length_nil]; omega
    rw [Nat.add_mul, Nat.one_mul]
    omega
theorem reachL_map (n : Nat) (mp : List (Pair × Bool)) (t : Nat) : reachL n mp (t : Int) = ((List.range n).filter (rOf mp t)).map fun k : Nat => (k : Int) := by
  unfold reachL
  rw [List.filter_map]
  rfl
theorem jac {st : List Strip} {ca : List Span} (hS : NetS st ca) {mp : List (Pair × Bool)} {cf : Pair → Option Int} (hc : CfOK st ca cf) : JD st ca mp cf = some (laidS st ca mp cf) := by
  unfold JD
  have h6 := hS.s6; have h5 := hS.c5
  have k1 : iterM FU (qH st) ⟨0, []⟩ = some ((List.range st.length).map (stripW (gOf st))) := by
    have key := iterM_run (f := qH st) (fun j => ⟨(j : Int), (List.range j).map (stripW (gOf st))⟩) st.length (b := (List.range st.length).map (stripW (gOf st))) (fun j hj => ?_) ?_ FU (FU_lt (by omega))
    · exact key
    · unfold qH
      have hlt : (j : Int) < (st.length : Int) := by omega
      simp only [hlt, if_true]
      have hx : st.getD j default = st[j] := by simp [List.getD_eq_getElem?_getD, hj]
      obtain ⟨b1, b2, b3, b4⟩ := hS.sp _ (List.getElem_mem hj)
      rw [ix_nat default hj, Option.bind_some, hx, addc_eq (by omega), Option.bind_some, Zk b1 b2 b3, Option.bind_some, Option.bind_some, appc_eq (by simp only [List.length_map, List.length_range, List.length_cons, List.length_nil]; omega), Option.bind_some, addc_eq (by omega), Option.bind_some]
      rw [List.range_succ, List.map_append]
      simp only [List.map_cons, List.map_nil, stripW, gOf, hx]
      rfl
    · unfold qH
      simp
  rw [k1, Option.bind_some]
  have k2 : iterM FU (qG ca st cf mp) ⟨0, (List.range st.length).map (stripW (gOf st))⟩ = some (laidS st ca mp cf) := by
    have key := iterM_run (f := qG ca st cf mp) (fun j => ⟨(j : Int), laidTo st.length (gOf st) (hOf ca) (rOf mp) (cOf cf) j⟩) ca.length (b := laidS st ca mp cf) (fun j hj => ?_) ?_ FU (FU_lt (by omega))
    · have e : laidTo st.length (gOf st) (hOf ca) (rOf mp) (cOf cf) 0 = (List.range st.length).map (stripW (gOf st)) := by simp [laidTo]
      rw [← e]
      exact key
    · unfold qG
      have hlt : (j : Int) < (ca.length : Int) := by omega
      have hln : (st.length : Int) ≤ 1000000 := by omega
      simp only [hlt, if_true]
      have hx : ca.getD j default = ca[j] := by simp [List.getD_eq_getElem?_getD, hj]
      have hbound := laidTo_len (S := st.length) (T := j) (g := gOf st) (h := hOf ca) (R := rOf mp) (c := cOf cf)
      have hb2 : (laidTo st.length (gOf st) (hOf ca) (rOf mp) (cOf cf) j).length ≤ 6 + 5 * 7 := by
        have : j * (st.length + 1) ≤ 5 * 7 := Nat.mul_le_mul (by omega) (by omega)
        omega
      rw [ix_nat default hj, Option.bind_some]
      unfold Kj
      rw [Option.bind_some, if_pos hln, reachL_map]
      have hstep : ∀ (k : Nat), k < st.length → ∀ (acc : List Wy), acc.length ≤ 1000 → yz ⟨(j : Int), laidTo st.length (gOf st) (hOf ca) (rOf mp) (cOf cf) j⟩ cf (k : Int) acc = some (acc ++ [innerW (cOf cf) j k]) := fun k hkl acc hacc => by
        obtain ⟨c, hcf, hc1, hc2⟩ := hc j k hj hkl
        unfold yz
        simp only
        rw [addc_eq (by omega), Option.bind_some, addc_eq (by omega), Option.bind_some, hcf, Option.bind_some, appc_eq (by simp only [List.length_cons, List.length_nil]; omega), Option.bind_some]
        simp [innerW, cOf, hcf]
      have hinner : ∀ (L : List Nat), (∀ k, k ∈ L → k < st.length) → ∀ (acc : List Wy), acc.length + L.length ≤ 1000 → iterL (yz ⟨(j : Int), laidTo st.length (gOf st) (hOf ca) (rOf mp) (cOf cf) j⟩ cf) (L.map fun k : Nat => (k : Int)) acc = some (acc ++ L.map (innerW (cOf cf) j)) := by
        intro L
        induction L with
        | nil => intro _ acc _; simp [iterL]
        | cons k L ih =>
          intro hk acc hacc
          simp only [List.length_cons] at hacc
          simp only [List.map_cons, iterL]
          rw [hstep k (hk k (by simp)) acc (by omega), Option.bind_some, ih (fun x hx => hk x (by simp [hx])) _ (by simp only [List.length_append, List.length_cons, List.length_nil]; omega)]
          simp
      have hfl := filt_len (S := st.length) (p := rOf mp j)
      rw [hinner _ (fun k hk => by have := (List.mem_filter.1 hk).1; simpa using this) _ (by omega), Option.bind_some, addc_eq (by omega), Option.bind_some, appc_eq (by
        simp only [List.length_append, List.length_map, List.length_cons, List.length_nil]; omega), Option.bind_some, addc_eq (by omega), Option.bind_some]
      have e : laidTo st.length (gOf st) (hOf ca) (rOf mp) (cOf cf) (j + 1) = laidTo st.length (gOf st) (hOf ca) (rOf mp) (cOf cf) j ++ tenL st.length (hOf ca) (rOf mp) (cOf cf) j := by
        unfold laidTo
        rw [List.range_succ, List.flatMap_append, List.append_assoc]
        simp
      rw [e]
      simp only [tenL, tenW, hOf, hx, List.append_assoc]
      rfl
    · unfold qG
      simp [laidS]
  rw [k2, Option.bind_some]
theorem laid_mem {st : List Strip} {ca : List Span} {mp : List (Pair × Bool)} {cf : Pair → Option Int} {w : Wy} (hw : w ∈ laidS st ca mp cf) :
    (∃ k, k < st.length ∧ w = stripW (gOf st) k) ∨ (∃ t k, t < ca.length ∧ k < st.length ∧ rOf mp t k = true ∧ w = innerW (cOf cf) t k) ∨ (∃ t, t < ca.length ∧ w = tenW (hOf ca) t) := by
  unfold laidS laidTo at hw
  rcases List.mem_append.1 hw with hw | hw
  · obtain ⟨k, hk, rfl⟩ := List.mem_map.1 hw
    exact .inl ⟨k, by simpa using hk, rfl⟩
  · obtain ⟨t, ht, hw⟩ := List.mem_flatMap.1 hw
    unfold tenL at hw
    rcases List.mem_append.1 hw with hw | hw
    · obtain ⟨k, hk, rfl⟩ := List.mem_map.1 hw
      obtain ⟨h1, h2⟩ := List.mem_filter.1 hk
      exact .inr (.inl ⟨t, k, by simpa using ht, by simpa using h1, h2, rfl⟩)
    · rw [List.mem_singleton] at hw
      exact .inr (.inr ⟨t, by simpa using ht, hw⟩)
theorem gOf_ok {st : List Strip} {ca : List Span} (hS : NetS st ca) {k : Nat} (hk : k < st.length) : 0 ≤ (gOf st k).lo ∧ (gOf st k).lo ≤ (gOf st k).hi ∧ (gOf st k).hi ≤ 60 := by
  have hx : st.getD k default = st[k] := by simp [List.getD_eq_getElem?_getD, hk]
  obtain ⟨b1, b2, b3, b4⟩ := hS.sp _ (List.getElem_mem hk)
  unfold gOf
  rw [hx]
  unfold In30 at *
  refine ⟨by show 0 ≤ max _ _; omega, b4, by show _ + _ - _ ≤ (60 : Int); omega⟩
theorem hOf_ok {st : List Strip} {ca : List Span} (hS : NetS st ca) {t : Nat} (ht : t < ca.length) : 0 ≤ (hOf ca t).lo ∧ (hOf ca t).lo ≤ (hOf ca t).hi ∧ (hOf ca t).hi ≤ 30 := by
  have hx : ca.getD t default = ca[t] := by simp [List.getD_eq_getElem?_getD, ht]
  obtain ⟨b1, b2⟩ := hS.cp _ (List.getElem_mem ht)
  unfold hOf
  rw [hx]
  unfold In30 at *
  omega
theorem laid_ok {st : List Strip} {ca : List Span} (hS : NetS st ca) {mp : List (Pair × Bool)} {cf : Pair → Option Int} (hc : CfOK st ca cf) : NetOK (laidS st ca mp cf) := by
  have h6 := hS.s6; have h5 := hS.c5
  refine ⟨?_, fun w hw => ?_⟩
  · have := laidTo_len (S := st.length) (T := ca.length) (g := gOf st) (h := hOf ca) (R := rOf mp) (c := cOf cf)
    have h2 : ca.length * (st.length + 1) ≤ 5 * 7 := Nat.mul_le_mul (by omega) (by omega)
    unfold laidS
    omega
  · rcases laid_mem hw with ⟨k, hk, rfl⟩ | ⟨t, k, ht, hk, _, rfl⟩ | ⟨t, ht, rfl⟩
    · have := gOf_ok hS hk
      unfold stripW
      exact ⟨by simp, by simp only; omega, by simp only; omega, by simp, by simp only; omega, by simp only; omega, by simp only; omega⟩
    · obtain ⟨c, hcf, h1, h2⟩ := hc t k ht hk
      have e : cOf cf t k = c := by simp [cOf, hcf]
      unfold innerW
      exact ⟨by simp only; omega, by simp only; omega, by simp only; omega, by simp only [e]; omega, by simp, by simp, by simp⟩
    · have := hOf_ok hS ht
      unfold tenW
      exact ⟨by simp only; omega, by simp, by simp only; omega, by simp, by simp only; omega, by simp only; omega, by simp only; omega⟩
theorem laid_zero {st : List Strip} {ca : List Span} {mp : List (Pair × Bool)} {cf : Pair → Option Int} : Round (laidS st ca mp cf) := fun φ => by
  unfold bal
  rw [sumI_congr (g := fun _ => 0) (fun w hw => ?_), sumI_zero]
  have : w.goes = 0 := by rcases laid_mem hw with ⟨k, hk, rfl⟩ | ⟨t, k, ht, hk, _, rfl⟩ | ⟨t, ht, rfl⟩ <;> rfl
  rw [this, Int.mul_zero]
end Go.Proofs.Ws

namespace Go.Proofs.Ws
open Go Go.Fw Go.Gx Go.Sp
def lackP (st : List Strip) (ca : List Span) (w : Wy) (met : List Bool) : Lack :=
  if w.dst = 0 then ⟨true, filtL (fun t => !gI false met (7 + (t : Int))) ca.length⟩ else ⟨false, filtL (fun k => gI false met (1 + (k : Int))) st.length⟩
theorem filtL_step {p : Nat → Bool} {k : Nat} : filtL p (k + 1) = filtL p k ++ (if p k = true then [(k : Int)] else []) := by
  rw [filtL_succ]; split <;> simp
theorem Z6 {st : List Strip} {ca : List Span} (h6 : st.length ≤ 6) (h5 : ca.length ≤ 5) (w : Wy) {met : List Bool} (hm : met.length = 12) : K7 st ca w met = some (lackP st ca w met) := by
  unfold K7 lackP
  by_cases hw : w.dst = 0
  · simp only [hw, if_true]
    have key := iterM_run (f := zX ca met) (fun j => ⟨(j : Int), filtL (fun t => !gI false met (7 + (t : Int))) j⟩) ca.length (b := filtL (fun t => !gI false met (7 + (t : Int))) ca.length) (fun j hj => ?_) ?_ FU (FU_lt (by omega))
    · have e : (⟨0, []⟩ : zQ) = ⟨((0 : Nat) : Int), filtL (fun t => !gI false met (7 + (t : Int))) 0⟩ := rfl
      rw [e, key]
      rfl
    · unfold zX
      have hlt : (j : Int) < (ca.length : Int) := by omega
      simp only [hlt, if_true]
      have hfl := filtL_len (p := fun t : Nat => !gI false met (7 + (t : Int))) (k := j)
      rw [addc_eq (by omega), Option.bind_some, ix_gI false (by omega) (by rw [hm]; omega), Option.bind_some, filtL_step]
      by_cases hb : (!gI false met (7 + (j : Int))) = true
      · simp only [hb, if_true]
        rw [appc_eq (by simp only [List.length_cons, List.length_nil]; omega), Option.bind_some, Option.bind_some, addc_eq (by omega), Option.bind_some]
        rfl
      · simp only [hb, Bool.false_eq_true, if_false]
        rw [Option.bind_some, addc_eq (by omega), Option.bind_some, List.append_nil]
        rfl
    · unfold zX
      simp
  · simp only [hw, if_false]
    have key := iterM_run (f := Ja st met) (fun j => ⟨(j : Int), filtL (fun k => gI false met (1 + (k : Int))) j⟩) st.length (b := filtL (fun k => gI false met (1 + (k : Int))) st.length) (fun j hj => ?_) ?_ FU (FU_lt (by omega))
    · have e : (⟨0, []⟩ : zP) = ⟨((0 : Nat) : Int), filtL (fun k => gI false met (1 + (k : Int))) 0⟩ := rfl
      rw [e, key]
      rfl
    · unfold Ja
      have hlt : (j : Int) < (st.length : Int) := by omega
      simp only [hlt, if_true]
      have hfl := filtL_len (p := fun k : Nat => gI false met (1 + (k : Int))) (k := j)
      rw [addc_eq (by omega), Option.bind_some, ix_gI false (by omega) (by rw [hm]; omega), Option.bind_some, filtL_step]
      by_cases hb : gI false met (1 + (j : Int)) = true
      · simp only [hb, if_true]
        rw [appc_eq (by simp only [List.length_cons, List.length_nil]; omega), Option.bind_some, Option.bind_some, addc_eq (by omega), Option.bind_some]
        rfl
      · simp only [hb, Bool.false_eq_true, if_false]
        rw [Option.bind_some, addc_eq (by omega), Option.bind_some, List.append_nil]
        rfl
    · unfold Ja
      simp
structure Good (l0 l : List Wy) : Prop where
  same : Same l0 l
  ok : NetOK l
  rnd : Round l
structure Lk (l0 : List Wy) (w : Wy) (met : List Bool) : Prop where
  len : met.length = 12
  ex : ∃ l, Good l0 l ∧ w ∈ l ∧ w.goes < w.lo ∧ gI false met w.dst = true ∧ gI false met w.fr = false ∧ (∀ c, c ∈ res l → gI false met (eA l c) = true → gI false met (eB l c) = true)
theorem chainL_len {pre : Int → Change} {p : Int → Int} {y : Int} {k : Nat} : (chainL pre p y k).length = k := by simp [chainL]
theorem good_make {l0 l : List Wy} (h : Good l0 l) {L : List Change} {m : Int} (h0 : 0 ≤ m) (hm : MakeOK l L m) (hz : ∀ φ : Int → Int, sumI (fun c => φ (eB l c) - φ (eA l c)) L = 0) : Good l0 (makeL l L m) :=
  ⟨h.same.trans (makeL_same L hm), makeL_ok L h.ok h0 hm, fun φ => by rw [makeL_bal φ L hm, h.rnd φ, hz φ, Int.mul_zero]; rfl⟩
def OkTo (l : List Wy) (i : Nat) : Prop := ∀ j w, j < i → l[j]? = some w → w.lo ≤ w.goes
theorem okTo_make {l : List Wy} {i : Nat} (h : OkTo l i) {L : List Change} {m : Int} (h0 : 0 ≤ m) (hm : MakeOK l L m) : OkTo (makeL l L m) i := fun j v hj hv => by
  have hlt : j < l.length := by rw [← makeL_len L l m]; exact (List.getElem?_eq_some_iff.1 hv).1
  exact makeL_least L h0 hm j l[j] v (List.getElem?_eq_getElem hlt) hv (h j _ hj (List.getElem?_eq_getElem hlt))
theorem wy_makeL {l : List Wy} {L : List Change} {m : Int} (h : MakeOK l L m) {c : Change} (hc : c ∈ L) : wy (makeL l L m) c = adjW (wy l c) c.more m := by
  have := makeL_at L h c hc
  show (makeL l L m).getD c.way.toNat default = _
  rw [List.getD_eq_getElem?_getD, this]
  rfl
theorem ZU {st : List Strip} {ca : List Span} (h6 : st.length ≤ 6) (h5 : ca.length ≤ 5) {l0 l : List Wy} (hg : Good l0 l) {i : Nat} (hi : i < l.length) (hok : OkTo l i) (s : kH) (hs : s.t20 = (i : Int)) :
    ∃ b, iterM FU (qz s st ca) l = some b ∧ ((∃ l', b = .inl l' ∧ Good l0 l' ∧ OkTo l' (i + 1)) ∨ ∃ w met, b = .inr (.inl (lackP st ca w met)) ∧ Lk l0 w met) := by
  have hgi : ∀ l : List Wy, (wy l ⟨(i : Int), true⟩) = l.getD i default := fun l => by unfold wy; simp
  refine iterM_inv (f := qz s st ca) (fun l => Good l0 l ∧ i < l.length ∧ OkTo l i) (fun l => ((wy l ⟨(i : Int), true⟩).lo - (wy l ⟨(i : Int), true⟩).goes).toNat) _ (fun l hl => ?_) FU l (FU_lt ?_) ⟨hg, hi, hok⟩
  · obtain ⟨hg, hi, hok⟩ := hl
    have hw : isWay l ⟨(i : Int), true⟩ := way_nat hi true
    have hix : ix l (i : Int) = some (wy l ⟨(i : Int), true⟩) := ix_way hw
    have hk := hg.ok.2 _ (wy_mem hw)
    unfold qz
    rw [hs, hix, Option.bind_some, Option.bind_some]
    by_cases hlow : (wy l ⟨(i : Int), true⟩).goes < (wy l ⟨(i : Int), true⟩).lo
    · simp only [hlow, if_true]
      rw [Option.bind_some]
      obtain ⟨met, by_, hml, hmsrc, hmcl, hcase⟩ := ZA hg.ok (src := (wy l ⟨(i : Int), true⟩).dst) (to := (wy l ⟨(i : Int), true⟩).fr) hk.dst hk.fr
      rcases hcase with ⟨hno, hp⟩ | ⟨hyes, k, d, hp, hk1066, hsrc, hch, hd⟩
      · right
        rw [hp, Option.bind_some]
        simp only [List.isEmpty_nil, if_true]
        rw [Z6 h6 h5 _ hml, Option.bind_some]
        exact ⟨_, rfl, .inr ⟨_, met, rfl, ⟨hml, l, hg, wy_mem hw, hlow, hmsrc, hno, hmcl⟩⟩⟩
      · left
        rw [hp, Option.bind_some]
        have hk0 : k ≠ 0 := fun e => by
          subst e
          exact hk.ne hsrc
        have hne : (chainL (gI nil0 by_) (pOf l by_) (wy l ⟨(i : Int), true⟩).fr k).isEmpty = false := by
          cases hc : chainL (gI nil0 by_) (pOf l by_) (wy l ⟨(i : Int), true⟩).fr k with
          | nil => have := chainL_len (pre := gI nil0 by_) (p := pOf l by_) (y := (wy l ⟨(i : Int), true⟩).fr) (k := k); rw [hc] at this; simp at this; omega
          | cons _ _ => rfl
        simp only [hne, Bool.false_eq_true, if_false]
        obtain ⟨m1, m2, m3, m4⟩ := path_make hg.ok hi hlow (pre := gI nil0 by_) (k := k) (d := d) hsrc hch hd ((wy l ⟨(i : Int), true⟩).lo - (wy l ⟨(i : Int), true⟩).goes) (by omega)
        have b1 := hk.goes; have b2 := hk.hi; have b3 := hk.lo
        rw [subc_eq (by omega), Option.bind_some, appc_eq (by rw [chainL_len]; simp only [List.length_cons, List.length_nil]; omega), Option.bind_some]
        have em := Zl hg.ok (L := chainL (gI nil0 by_) (pOf l by_) (wy l ⟨(i : Int), true⟩).fr k ++ [⟨(i : Int), true⟩]) (by rw [List.length_append, chainL_len]; simp only [List.length_cons, List.length_nil]; omega) (most := (wy l ⟨(i : Int), true⟩).lo - (wy l ⟨(i : Int), true⟩).goes) (Int.le_of_lt m1) m3
        rw [em, Option.bind_some]
        refine ⟨_, rfl, ⟨good_make hg (Int.le_of_lt m1) m3 m4, by rw [makeL_len]; exact hi, okTo_make hok (Int.le_of_lt m1) m3⟩, ?_⟩
        have e2 := wy_makeL m3 (c := ⟨(i : Int), true⟩) (by simp)
        change wy (makeL l (chainL (gI nil0 by_) (pOf l by_) (wy l ⟨(i : Int), true⟩).fr k ++ [⟨(i : Int), true⟩]) (mostL l (chainL (gI nil0 by_) (pOf l by_) (wy l ⟨(i : Int), true⟩).fr k ++ [⟨(i : Int), true⟩]) ((wy l ⟨(i : Int), true⟩).lo - (wy l ⟨(i : Int), true⟩).goes))) ⟨(i : Int), true⟩ = adjW (wy l ⟨(i : Int), true⟩) true (mostL l (chainL (gI nil0 by_) (pOf l by_) (wy l ⟨(i : Int), true⟩).fr k ++ [⟨(i : Int), true⟩]) ((wy l ⟨(i : Int), true⟩).lo - (wy l ⟨(i : Int), true⟩).goes)) at e2
        rw [e2]
        have m1' : 0 < mostL l (chainL (gI nil0 by_) (pOf l by_) (wy l ⟨(i : Int), true⟩).fr k ++ [⟨(i : Int), true⟩]) ((wy l ⟨(i : Int), true⟩).lo - (wy l ⟨(i : Int), true⟩).goes) := m1
        simp only [adjW, if_true]
        omega
    · right
      simp only [hlow, if_false]
      refine ⟨_, rfl, .inl ⟨l, rfl, hg, fun j w hj hjw => ?_⟩⟩
      by_cases hji : j = i
      · subst hji
        have : wy l ⟨(j : Int), true⟩ = w := by rw [hgi, List.getD_eq_getElem?_getD, hjw]; rfl
        rw [← this]; omega
      · exact hok j w (by omega) hjw
  · have hk := hg.ok.2 _ (wy_mem (way_nat hi true))
    have := hk.hi; have := hk.goes
    omega
theorem Zm {l0 l : List Wy} (hg : Good l0 l) (hok : OkTo l l.length) : ∃ l', iterM FU qC l = some l' ∧ Good l0 l' ∧ OkTo l' l'.length ∧ ∃ π : Int → Int, PotB π l' := by
  have hbound : ∀ l : List Wy, NetOK l → -41000000 ≤ costs l ∧ costs l ≤ 41000000 := fun l hl => by
    have key : ∀ m : List Wy, (∀ w, w ∈ m → WyOK w) → -(1000000 * (m.length : Int)) ≤ costs m ∧ costs m ≤ 1000000 * (m.length : Int) := by
      intro m
      induction m with
      | nil => intro _; simp [costs, sumI]
      | cons w m ih =>
        intro h
        obtain ⟨i1, i2⟩ := ih (fun x hx => h x (by simp [hx]))
        have hk := h w (by simp)
        have c1 := hk.cost; have c2 := hk.goes; have c3 := hk.hi
        unfold costs at *
        simp only [sumI, List.length_cons]
        have hp : -1000000 ≤ w.cost * w.goes ∧ w.cost * w.goes ≤ 1000000 := by
          have : w.cost = -1 ∨ w.cost = 0 ∨ w.cost = 1 := by omega
          rcases this with h | h | h <;> rw [h] <;> omega
        push_cast
        omega
    have := key l hl.2
    have := hl.1
    omega
  refine iterM_inv (f := qC) (fun l => Good l0 l ∧ OkTo l l.length) (fun l => (costs l + 41000000).toNat) _ (fun l hl => ?_) FU l (FU_lt (by have := hbound l hg.ok; omega)) ⟨hg, hok⟩
  obtain ⟨hg, hok⟩ := hl
  unfold qC
  rcases YF hg.ok with ⟨h1, π, h2⟩ | ⟨pre, y, k, h1, hk0, hk12, hch, hper, hmin, hneg⟩
  · right
    rw [h1, Option.bind_some]
    exact ⟨l, rfl, hg, hok, π, h2⟩
  · left
    rw [h1, Option.bind_some]
    have hne : (chainL pre (fun x => eA l (pre x)) y k).isEmpty = false := by
      cases hc : chainL pre (fun x => eA l (pre x)) y k with
      | nil => have := chainL_len (pre := pre) (p := fun x => eA l (pre x)) (y := y) (k := k); rw [hc] at this; simp at this; omega
      | cons _ _ => rfl
    simp only [hne, Bool.false_eq_true, if_false]
    obtain ⟨m1, m2, m3, m4, m5⟩ := loop_make hk0 hch hper hmin hneg 1000000 (by omega)
    have em := Zl hg.ok (L := chainL pre (fun x => eA l (pre x)) y k) (by rw [chainL_len]; omega) (most := 1000000) (Int.le_of_lt m1) m3
    rw [em, Option.bind_some]
    have hg' := good_make hg (Int.le_of_lt m1) m3 m4
    refine ⟨_, rfl, ⟨hg', by rw [makeL_len]; exact okTo_make hok (Int.le_of_lt m1) m3⟩, ?_⟩
    have hc := makeL_costs _ m3
    have b1 := hbound l hg.ok; have b2 := hbound _ hg'.ok
    have hprod : mostL l (chainL pre (fun x => eA l (pre x)) y k) 1000000 * sumI (fun c => eC l c) (chainL pre (fun x => eA l (pre x)) y k) < 0 := Int.mul_neg_of_pos_of_neg m1 m5
    rw [hc] at b2 ⊢
    omega
theorem okTo_within {l : List Wy} (hl : NetOK l) (h : OkTo l l.length) : Within l := fun w hw => by
  obtain ⟨i, hi, rfl⟩ := List.getElem_of_mem hw
  exact ⟨h i _ hi (List.getElem?_eq_getElem hi), (hl.2 _ hw).goes.2⟩
theorem Y2 {st : List Strip} {ca : List Span} (hS : NetS st ca) {mp : List (Pair × Bool)} {cf : Pair → Option Int} (hc : CfOK st ca cf) :
    (∃ l, j0 st ca mp cf = some (.inr ⟨⟨false, []⟩, l⟩) ∧ Good (laidS st ca mp cf) l ∧ Within l ∧ ∃ π : Int → Int, PotB π l) ∨
    (∃ w met, j0 st ca mp cf = some (.inl (lackP st ca w met)) ∧ Lk (laidS st ca mp cf) w met) := by
  unfold j0
  rw [jac hS hc, Option.bind_some]
  have hl0 := laid_ok hS (mp := mp) hc
  have hg0 : Good (laidS st ca mp cf) (laidS st ca mp cf) := ⟨Same.refl _, hl0, laid_zero⟩
  generalize laidS st ca mp cf = l0 at hl0 hg0
  have hlen0 := hl0.1
  have hloop : ∃ b, iterM FU (qw l0 st ca) ⟨0, l0⟩ = some b ∧ ((∃ l', b = .inl l' ∧ Good l0 l' ∧ OkTo l' l'.length) ∨ ∃ w met, b = .inr (.inl (lackP st ca w met)) ∧ Lk l0 w met) := by
    refine iterM_inv (f := qw l0 st ca) (fun s => ∃ i : Nat, s.t20 = (i : Int) ∧ i ≤ l0.length ∧ Good l0 s.t12 ∧ OkTo s.t12 i) (fun s => l0.length - s.t20.toNat) _ (fun s hs => ?_) FU _ (FU_lt (by omega)) ⟨0, rfl, Nat.zero_le _, hg0, fun j w hj _ => by omega⟩
    obtain ⟨i, hi, hile, hg, hok⟩ := hs
    have hlen := hg.same.len
    unfold qw
    by_cases hlt : s.t20 < (l0.length : Int)
    · simp only [hlt, if_true]
      obtain ⟨b, hb, hcase⟩ := ZU hS.s6 hS.c5 hg (i := i) (by omega) hok s hi
      rw [hb, Option.bind_some]
      rcases hcase with ⟨l', rfl, hg', hok'⟩ | ⟨w, met, rfl, hlk⟩
      · left
        simp only [oc_inl]
        rw [addc_eq (by omega), Option.bind_some]
        exact ⟨_, rfl, ⟨i + 1, by simp only; omega, by omega, hg', hok'⟩, by simp only; omega⟩
      · right
        exact ⟨_, rfl, .inr ⟨w, met, rfl, hlk⟩⟩
    · right
      simp only [hlt, if_false]
      refine ⟨_, rfl, .inl ⟨s.t12, rfl, hg, ?_⟩⟩
      have : i = s.t12.length := by omega
      rw [← this]; exact hok
  obtain ⟨b, hb, hcase⟩ := hloop
  rw [hb, Option.bind_some]
  rcases hcase with ⟨l, rfl, hg, hok⟩ | ⟨w, met, rfl, hlk⟩
  · left
    simp only [oc_inl]
    obtain ⟨l', h1, h2, h3, h4⟩ := Zm hg hok
    rw [h1, Option.bind_some]
    exact ⟨l', rfl, h2, okTo_within h2.ok h3, h4⟩
  · right
    exact ⟨w, met, rfl, hlk⟩
end Go.Proofs.Ws

namespace Go.Proofs.Ws
open Go Go.Fw Go.Gx Go.Sp
theorem sumTo_add (f g : Nat → Int) : ∀ k, sumTo (fun j => f j + g j) k = sumTo f k + sumTo g k
  | 0 => rfl
  | k + 1 => by simp only [sumTo]; rw [sumTo_add f g k]; omega
theorem sumTo_mul (c : Int) (f : Nat → Int) : ∀ k, sumTo (fun j => c * f j) k = c * sumTo f k
  | 0 => by simp [sumTo]
  | k + 1 => by simp only [sumTo]; rw [sumTo_mul c f k, Int.mul_add]
theorem sumTo_zero : ∀ k, sumTo (fun _ => 0) k = 0
  | 0 => rfl
  | k + 1 => by simp only [sumTo]; rw [sumTo_zero k]; rfl
theorem sumTo_comm (f : Nat → Nat → Int) : ∀ (m n : Nat), sumTo (fun i => sumTo (f i) n) m = sumTo (fun j => sumTo (fun i => f i j) m) n
  | 0, n => by simp only [sumTo]; rw [sumTo_zero]
  | m + 1, n => by simp only [sumTo]; rw [sumTo_comm f m n, sumTo_add]
theorem sumTo_one {f : Nat → Int} {k0 : Nat} : ∀ {n : Nat}, k0 < n → sumTo (fun k => if k = k0 then f k else 0) n = f k0
  | 0, h => by omega
  | n + 1, h => by
    simp only [sumTo]
    by_cases hk : k0 = n
    · subst hk
      rw [sumTo_congr (g := fun _ => 0) (fun j hj => by rw [if_neg (by omega)]), sumTo_zero]
      simp
    · rw [sumTo_one (n := n) (by omega), if_neg (by omega)]; omega
theorem sumTo_nonneg {f : Nat → Int} {n : Nat} (h : ∀ j, j < n → 0 ≤ f j) : 0 ≤ sumTo f n := by
  have := sumTo_le (f := fun _ => 0) (g := f) (k := n) h
  rwa [sumTo_zero] at this
theorem sumTo_mem_le {f : Nat → Int} : ∀ {n j : Nat}, (∀ j, j < n → 0 ≤ f j) → j < n → f j ≤ sumTo f n
  | 0, j, _, hj => by omega
  | n + 1, j, h, hj => by
    simp only [sumTo]
    by_cases hjn : j = n
    · subst hjn
      have := sumTo_nonneg (f := f) (n := j) (fun i hi => h i (by omega)); omega
    · have := sumTo_mem_le (f := f) (n := n) (j := j) (fun i hi => h i (by omega)) (by omega)
      have := h n (by omega); omega
theorem sumI_filter (p : Nat → Bool) (F : Nat → Int) : ∀ n, sumI F ((List.range n).filter p) = sumTo (fun k => if p k = true then F k else 0) n
  | 0 => rfl
  | n + 1 => by
    rw [List.range_succ, List.filter_append, sumI_append, sumI_filter p F n]
    simp only [sumTo, List.filter_cons, List.filter_nil]
    split <;> simp [sumI]
def laidG (S : Nat) (g h : Nat → Span) (R : Nat → Nat → Bool) (c : Nat → Nat → Int) (gs : Nat → Int) (ys : Nat → Nat → Int) (zs : Nat → Int) (T : Nat) : List Wy :=
  (List.range S).map (fun k => { stripW g k with goes := gs k }) ++ (List.range T).flatMap fun t => ((List.range S).filter (R t)).map (fun k => { innerW c t k with goes := ys t k }) ++ [{ tenW h t with goes := zs t }]
theorem same_split {a b l : List Wy} (h : Same (a ++ b) l) : ∃ la lb, l = la ++ lb ∧ Same a la ∧ Same b lb := by
  unfold Same at h
  rw [List.map_append] at h
  obtain ⟨la, lb, h1, h2, h3⟩ := List.map_eq_append_iff.1 h.symm
  exact ⟨la, lb, h1, h2.symm, h3.symm⟩
theorem same_map {f : Nat → Wy} : ∀ {L : List Nat}, L.Nodup → ∀ {l : List Wy}, Same (L.map f) l → ∃ gs : Nat → Int, l = L.map fun k => { f k with goes := gs k }
  | [], _, l, h => ⟨fun _ => 0, List.length_eq_zero_iff.1 (by have := h.len; simpa using this.symm)⟩
  | k :: L, hn, [], h => by have := h.len; simp at this
  | k :: L, hn, w :: l, h => by
    obtain ⟨h1, h2⟩ := h.cons
    obtain ⟨n1, n2⟩ := List.nodup_cons.1 hn
    obtain ⟨gs, hgs⟩ := same_map n2 h2
    refine ⟨fun x => if x = k then w.goes else gs x, ?_⟩
    simp only [List.map_cons, if_true]
    congr 1
    · obtain ⟨e1, e2, e3, e4, e5⟩ := base_eq h1
      cases w; simp_all
    · rw [hgs]
      refine List.map_congr_left fun x hx => ?_
      rw [if_neg (show ¬ x = k from fun e => n1 (by rw [← e]; exact hx))]
theorem range_nodup (n : Nat) : (List.range n).Nodup := List.nodup_range
theorem same_laid {S T : Nat} {g h : Nat → Span} {R : Nat → Nat → Bool} {c : Nat → Nat → Int} {l : List Wy} (hs : Same (laidTo S g h R c T) l) : ∃ gs ys zs, l = laidG S g h R c gs ys zs T := by
  obtain ⟨la, lb, rfl, h1, h2⟩ := same_split hs
  obtain ⟨gs, rfl⟩ := same_map (range_nodup S) h1
  have key : ∀ T, ∀ lb, Same ((List.range T).flatMap (tenL S h R c)) lb → ∃ (ys : Nat → Nat → Int) (zs : Nat → Int), lb = (List.range T).flatMap fun t => ((List.range S).filter (R t)).map (fun k => { innerW c t k with goes := ys t k }) ++ [{ tenW h t with goes := zs t }] := by
    intro T
    induction T with
    | zero => intro lb h; exact ⟨fun _ _ => 0, fun _ => 0, List.length_eq_zero_iff.1 (by have := h.len; simpa using this.symm)⟩
    | succ T ih =>
      intro lb hlb
      rw [List.range_succ, List.flatMap_append] at hlb
      obtain ⟨l1, l2, rfl, g1, g2⟩ := same_split hlb
      obtain ⟨ys, zs, rfl⟩ := ih l1 g1
      simp only [List.flatMap_cons, List.flatMap_nil, List.append_nil] at g2
      unfold tenL at g2
      obtain ⟨l3, l4, rfl, g3, g4⟩ := same_split g2
      obtain ⟨y, rfl⟩ := same_map ((range_nodup S).filter _) g3
      have e4 : [tenW h T] = ([T] : List Nat).map (tenW h) := rfl
      rw [e4] at g4
      obtain ⟨z, rfl⟩ := same_map (show ([T] : List Nat).Nodup by simp) g4
      refine ⟨fun t => if t = T then y else ys t, fun t => if t = T then z T else zs t, ?_⟩
      rw [List.range_succ, List.flatMap_append]
      congr 1
      · rw [List.flatMap_def, List.flatMap_def]
        congr 1
        refine List.map_congr_left fun t ht => ?_
        have : t ≠ T := by have := List.mem_range.1 ht; omega
        simp only [this, if_false]
      · simp
  obtain ⟨ys, zs, rfl⟩ := key T lb h2
  exact ⟨gs, ys, zs, rfl⟩
theorem laidG_same {S T : Nat} {g h : Nat → Span} {R : Nat → Nat → Bool} {c : Nat → Nat → Int} {gs : Nat → Int} {ys : Nat → Nat → Int} {zs : Nat → Int} : Same (laidTo S g h R c T) (laidG S g h R c gs ys zs T) := by
  unfold Same laidTo laidG tenL
  rw [List.map_append, List.map_append, List.map_flatMap, List.map_flatMap]
  congr 1
  · rw [List.map_map, List.map_map]; rfl
  · rw [List.flatMap_def, List.flatMap_def]
    congr 1
    refine List.map_congr_left fun t _ => ?_
    rw [List.map_append, List.map_append, List.map_map, List.map_map]
    rfl
theorem sumI_flat {α : Type} (F : α → Int) (f : Nat → List α) : ∀ n, sumI F ((List.range n).flatMap f) = sumTo (fun t => sumI F (f t)) n
  | 0 => rfl
  | n + 1 => by
    rw [List.range_succ, List.flatMap_append, sumI_append, sumI_flat F f n]
    simp [sumTo, sumI]
def Yr (R : Nat → Nat → Bool) (ys : Nat → Nat → Int) (t k : Nat) : Int := if R t k = true then ys t k else 0
theorem bal_laidG {S T : Nat} {g h : Nat → Span} {R : Nat → Nat → Bool} {c : Nat → Nat → Int} {gs : Nat → Int} {ys : Nat → Nat → Int} {zs : Nat → Int} (φ : Int → Int) :
    bal φ (laidG S g h R c gs ys zs T) = sumTo (fun k => (φ (1 + (k : Int)) - φ 0) * gs k) S + sumTo (fun t => sumTo (fun k => (φ (7 + (t : Int)) - φ (1 + (k : Int))) * Yr R ys t k) S + (φ 0 - φ (7 + (t : Int))) * zs t) T := by
  unfold bal laidG
  rw [sumI_append, sumI_map, sumI_flat]
  congr 1
  · have := sumI_range (fun k : Nat => (φ (1 + (k : Int)) - φ 0) * gs k) (fun k => k) S
    simp only [List.map_id'] at this
    exact this
  · refine sumTo_congr fun t _ => ?_
    rw [sumI_append, sumI_map, sumI_filter]
    congr 1
    · refine sumTo_congr fun k _ => ?_
      unfold Yr
      split
      · rfl
      · rw [Int.mul_zero]
    · simp [sumI, tenW]
theorem costs_laidG {S T : Nat} {g h : Nat → Span} {R : Nat → Nat → Bool} {c : Nat → Nat → Int} {gs : Nat → Int} {ys : Nat → Nat → Int} {zs : Nat → Int} :
    costs (laidG S g h R c gs ys zs T) = sumTo (fun t => sumTo (fun k => c t k * Yr R ys t k) S) T := by
  unfold costs laidG
  rw [sumI_append, sumI_map, sumI_flat]
  have e : sumI (fun x : Nat => ({ stripW g x with goes := gs x } : Wy).cost * ({ stripW g x with goes := gs x } : Wy).goes) (List.range S) = 0 := by
    rw [sumI_congr (g := fun _ => 0) (fun x _ => by simp [stripW]), sumI_zero]
  rw [e, Int.zero_add]
  refine sumTo_congr fun t _ => ?_
  rw [sumI_append, sumI_map, sumI_filter]
  have e2 : sumI (fun w : Wy => w.cost * w.goes) [{ tenW h t with goes := zs t }] = 0 := by simp [sumI, tenW]
  rw [e2, Int.add_zero]
  refine sumTo_congr fun k _ => ?_
  unfold Yr
  split
  · rfl
  · rw [Int.mul_zero]
theorem round_sums {S T : Nat} (hS : S ≤ 6) {g h : Nat → Span} {R : Nat → Nat → Bool} {c : Nat → Nat → Int} {gs : Nat → Int} {ys : Nat → Nat → Int} {zs : Nat → Int} (hr : Round (laidG S g h R c gs ys zs T)) :
    (∀ k, k < S → gs k = sumTo (fun t => Yr R ys t k) T) ∧ (∀ t, t < T → zs t = sumTo (fun k => Yr R ys t k) S) := by
  constructor
  · intro k0 hk0
    have := hr (fun v => if v = 1 + (k0 : Int) then 1 else 0)
    rw [bal_laidG] at this
    have e1 : sumTo (fun k => ((if (1 + (k : Int)) = 1 + (k0 : Int) then (1 : Int) else 0) - (if (0 : Int) = 1 + (k0 : Int) then 1 else 0)) * gs k) S = gs k0 := by
      rw [← sumTo_one (f := gs) hk0]
      refine sumTo_congr fun k _ => ?_
      rw [if_neg (show ¬ (0 : Int) = 1 + (k0 : Int) by omega)]
      by_cases hk : k = k0
      · subst hk; simp
      · rw [if_neg (by omega), if_neg hk]; simp
    have e2 : sumTo (fun t => sumTo (fun k => ((if (7 + (t : Int)) = 1 + (k0 : Int) then (1 : Int) else 0) - (if (1 + (k : Int)) = 1 + (k0 : Int) then 1 else 0)) * Yr R ys t k) S + ((if (0 : Int) = 1 + (k0 : Int) then (1 : Int) else 0) - (if (7 + (t : Int)) = 1 + (k0 : Int) then 1 else 0)) * zs t) T = - sumTo (fun t => Yr R ys t k0) T := by
      rw [← Int.neg_one_mul, ← sumTo_mul]
      refine sumTo_congr fun t _ => ?_
      rw [if_neg (show ¬ (7 + (t : Int)) = 1 + (k0 : Int) by omega), if_neg (show ¬ (0 : Int) = 1 + (k0 : Int) by omega)]
      have : sumTo (fun k => ((0 : Int) - (if (1 + (k : Int)) = 1 + (k0 : Int) then 1 else 0)) * Yr R ys t k) S = -1 * Yr R ys t k0 := by
        rw [← sumTo_one (f := fun k => -1 * Yr R ys t k) hk0]
        refine sumTo_congr fun k _ => ?_
        by_cases hk : k = k0
        · subst hk; simp
        · rw [if_neg (by omega), if_neg hk]; simp
      rw [this]; omega
    rw [e1, e2] at this
    omega
  · intro t0 ht0
    have := hr (fun v => if v = 7 + (t0 : Int) then 1 else 0)
    rw [bal_laidG] at this
    have e1 : sumTo (fun k => ((if (1 + (k : Int)) = 7 + (t0 : Int) then (1 : Int) else 0) - (if (0 : Int) = 7 + (t0 : Int) then 1 else 0)) * gs k) S = 0 := by
      rw [sumTo_congr (g := fun _ => 0) (fun k hk => by rw [if_neg (show ¬ (1 + (k : Int)) = 7 + (t0 : Int) by omega), if_neg (show ¬ (0 : Int) = 7 + (t0 : Int) by omega)]; simp), sumTo_zero]
    have e2 : sumTo (fun t => sumTo (fun k => ((if (7 + (t : Int)) = 7 + (t0 : Int) then (1 : Int) else 0) - (if (1 + (k : Int)) = 7 + (t0 : Int) then 1 else 0)) * Yr R ys t k) S + ((if (0 : Int) = 7 + (t0 : Int) then (1 : Int) else 0) - (if (7 + (t : Int)) = 7 + (t0 : Int) then 1 else 0)) * zs t) T = sumTo (fun k => Yr R ys t0 k) S - zs t0 := by
      rw [← sumTo_one (f := fun t => sumTo (fun k => Yr R ys t k) S - zs t) ht0]
      refine sumTo_congr fun t _ => ?_
      rw [if_neg (show ¬ (0 : Int) = 7 + (t0 : Int) by omega)]
      by_cases ht : t = t0
      · subst ht
        simp only [if_true]
        rw [sumTo_congr (g := fun k => Yr R ys t k) (fun k hk => by rw [if_neg (show ¬ (1 + (k : Int)) = 7 + (t : Int) by omega)]; omega)]
        omega
      · rw [if_neg (show ¬ (7 + (t : Int)) = 7 + (t0 : Int) by omega), if_neg ht, sumTo_congr (g := fun _ => 0) (fun k hk => by rw [if_neg (show ¬ (1 + (k : Int)) = 7 + (t0 : Int) by omega)]; simp), sumTo_zero]
        simp
    rw [e1, e2] at this
    omega
theorem sums_round {S T : Nat} {g h : Nat → Span} {R : Nat → Nat → Bool} {c : Nat → Nat → Int} {gs : Nat → Int} {ys : Nat → Nat → Int} {zs : Nat → Int} (h1 : ∀ k, k < S → gs k = sumTo (fun t => Yr R ys t k) T) (h2 : ∀ t, t < T → zs t = sumTo (fun k => Yr R ys t k) S) : Round (laidG S g h R c gs ys zs T) := fun φ => by
  rw [bal_laidG]
  have e1 : sumTo (fun k => (φ (1 + (k : Int)) - φ 0) * gs k) S = sumTo (fun t => sumTo (fun k => (φ (1 + (k : Int)) - φ 0) * Yr R ys t k) S) T := by
    rw [sumTo_comm]
    refine sumTo_congr fun k hk => ?_
    rw [h1 k hk, sumTo_mul]
  rw [e1, ← sumTo_add]
  refine (sumTo_congr (g := fun _ => 0) fun t ht => ?_).trans (sumTo_zero T)
  rw [h2 t ht, ← sumTo_mul, ← sumTo_add, ← sumTo_add]
  refine (sumTo_congr (g := fun _ => 0) fun k hk => ?_).trans (sumTo_zero _)
  rw [← Int.add_mul, ← Int.add_mul]
  rw [show φ (1 + (k : Int)) - φ 0 + (φ (7 + (t : Int)) - φ (1 + (k : Int)) + (φ 0 - φ (7 + (t : Int)))) = 0 by omega, Int.zero_mul]
structure FitsY (st : List Strip) (ca : List Span) (mp : List (Pair × Bool)) (y : Nat → Nat → Int) : Prop where
  pos : ∀ t k, t < ca.length → k < st.length → 0 ≤ y t k ∧ (0 < y t k → rOf mp t k = true)
  ten : ∀ t, t < ca.length → (hOf ca t).lo ≤ sumTo (fun k => y t k) st.length ∧ sumTo (fun k => y t k) st.length ≤ (hOf ca t).hi
  str : ∀ k, k < st.length → (gOf st k).lo ≤ sumTo (fun t => y t k) ca.length ∧ sumTo (fun t => y t k) ca.length ≤ (gOf st k).hi
def countY (st : List Strip) (ca : List Span) (c y : Nat → Nat → Int) : Int := sumTo (fun t => sumTo (fun k => c t k * y t k) st.length) ca.length
theorem net_shares {st : List Strip} {ca : List Span} (hS : NetS st ca) {mp : List (Pair × Bool)} {cf : Pair → Option Int} {l : List Wy} (hg : Good (laidS st ca mp cf) l) (hw : Within l) :
    ∃ gs ys zs, l = laidG st.length (gOf st) (hOf ca) (rOf mp) (cOf cf) gs ys zs ca.length ∧ FitsY st ca mp (Yr (rOf mp) ys) ∧ costs l = countY st ca (cOf cf) (Yr (rOf mp) ys) := by
  obtain ⟨gs, ys, zs, rfl⟩ := same_laid hg.same
  refine ⟨gs, ys, zs, rfl, ?_, costs_laidG⟩
  obtain ⟨h1, h2⟩ := round_sums hS.s6 hg.rnd
  refine ⟨fun t k ht hk => ?_, fun t ht => ?_, fun k hk => ?_⟩
  · unfold Yr
    split
    · rename_i hr
      have hm : ({ innerW (cOf cf) t k with goes := ys t k } : Wy) ∈ laidG st.length (gOf st) (hOf ca) (rOf mp) (cOf cf) gs ys zs ca.length := by
        unfold laidG
        refine List.mem_append_right _ (List.mem_flatMap.2 ⟨t, List.mem_range.2 ht, List.mem_append_left _ (List.mem_map.2 ⟨k, List.mem_filter.2 ⟨List.mem_range.2 hk, hr⟩, rfl⟩)⟩)
      have := (hw _ hm).1
      exact ⟨this, fun _ => hr⟩
    · exact ⟨Int.le_refl _, fun h => absurd h (Int.lt_irrefl _)⟩
  · rw [← h2 t ht]
    have hm : ({ tenW (hOf ca) t with goes := zs t } : Wy) ∈ laidG st.length (gOf st) (hOf ca) (rOf mp) (cOf cf) gs ys zs ca.length := by
      unfold laidG
      exact List.mem_append_right _ (List.mem_flatMap.2 ⟨t, List.mem_range.2 ht, List.mem_append_right _ (by simp)⟩)
    exact hw _ hm
  · rw [← h1 k hk]
    have hm : ({ stripW (gOf st) k with goes := gs k } : Wy) ∈ laidG st.length (gOf st) (hOf ca) (rOf mp) (cOf cf) gs ys zs ca.length := by
      unfold laidG
      exact List.mem_append_left _ (List.mem_map.2 ⟨k, List.mem_range.2 hk, rfl⟩)
    exact hw _ hm
theorem shares_net {st : List Strip} {ca : List Span} (hS : NetS st ca) {mp : List (Pair × Bool)} {cf : Pair → Option Int} {y : Nat → Nat → Int} (hy : FitsY st ca mp y) :
    ∃ l, Same (laidS st ca mp cf) l ∧ Round l ∧ Within l ∧ costs l = countY st ca (cOf cf) y := by
  have hYr : ∀ t k, t < ca.length → k < st.length → Yr (rOf mp) y t k = y t k := fun t k ht hk => by
    unfold Yr
    split
    · rfl
    · rename_i hr
      have := hy.pos t k ht hk
      by_cases h0 : 0 < y t k
      · exact absurd (this.2 h0) hr
      · omega
  refine ⟨laidG st.length (gOf st) (hOf ca) (rOf mp) (cOf cf) (fun k => sumTo (fun t => y t k) ca.length) y (fun t => sumTo (fun k => y t k) st.length) ca.length, laidG_same, ?_, fun w hw => ?_, ?_⟩
  · exact sums_round (fun k hk => sumTo_congr fun t ht => (hYr t k ht hk).symm) (fun t ht => sumTo_congr fun k hk => (hYr t k ht hk).symm)
  · unfold laidG at hw
    rcases List.mem_append.1 hw with hw | hw
    · obtain ⟨k, hk, rfl⟩ := List.mem_map.1 hw
      exact hy.str k (by simpa using hk)
    · obtain ⟨t, ht, hw⟩ := List.mem_flatMap.1 hw
      have ht' : t < ca.length := by simpa using ht
      rcases List.mem_append.1 hw with hw | hw
      · obtain ⟨k, hk, rfl⟩ := List.mem_map.1 hw
        have hk' : k < st.length := by have := (List.mem_filter.1 hk).1; simpa using this
        have h1 := hy.pos t k ht' hk'
        have h2 := hy.ten t ht'
        have h3 := hOf_ok hS ht'
        have h4 := sumTo_mem_le (f := fun k => y t k) (n := st.length) (j := k) (fun j hj => (hy.pos t j ht' hj).1) hk'
        refine ⟨h1.1, ?_⟩
        show y t k ≤ 1000000
        omega
      · rw [List.mem_singleton] at hw
        subst hw
        exact hy.ten t ht'
  · rw [costs_laidG]
    unfold countY
    refine sumTo_congr fun t ht => sumTo_congr fun k hk => ?_
    rw [hYr t k ht hk]
theorem net_least {st : List Strip} {ca : List Span} (hS : NetS st ca) {mp : List (Pair × Bool)} {cf : Pair → Option Int} {l : List Wy} (hg : Good (laidS st ca mp cf) l) {π : Int → Int} (hp : Pot π l) {y : Nat → Nat → Int} (hy : FitsY st ca mp y) : costs l ≤ countY st ca (cOf cf) y := by
  obtain ⟨l', h1, h2, h3, h4⟩ := shares_net hS (cf := cf) hy
  rw [← h4]
  exact Pot.least (hg.same.symm.trans h1) hp hg.rnd h3 h2
theorem lk_cut {l0 : List Wy} {w : Wy} {met : List Bool} (h : Lk l0 w met) : 0 < gap (gI false met) l0 := by
  obtain ⟨l, hg, hw, hlow, hd, hf, hcl⟩ := h.ex
  have hcut : Cut (gI false met) l := fun v hv => by
    obtain ⟨i, hi, rfl⟩ := List.getElem_of_mem hv
    have e : ∀ m, wy l ⟨(i : Int), m⟩ = l[i] := fun m => by unfold wy; simp [List.getD_eq_getElem?_getD, hi]
    refine ⟨fun h1 h2 => ?_, fun h1 h2 => ?_⟩
    · by_cases hlt : (l[i]).hi ≤ (l[i]).goes
      · exact hlt
      · have := hcl ⟨(i : Int), true⟩ (res_mem.2 ⟨way_nat hi true, by simp only [rm, if_true, e]; omega⟩) (by simpa [eA, e] using h1)
        simp only [eB, if_true, e] at this
        rw [h2] at this; cases this
    · by_cases hlt : (l[i]).goes ≤ (l[i]).lo
      · exact hlt
      · have := hcl ⟨(i : Int), false⟩ (res_mem.2 ⟨way_nat hi false, by simp only [rm, Bool.false_eq_true, if_false, e]; omega⟩) (by simpa [eA, e] using h2)
        simp only [eB, Bool.false_eq_true, if_false, e] at this
        rw [h1] at this; cases this
  have := hcut.gap hg.rnd hw hf hd hlow
  rwa [← gap_same hg.same] at this
theorem lk_none {st : List Strip} {ca : List Span} (hS : NetS st ca) {mp : List (Pair × Bool)} {cf : Pair → Option Int} {w : Wy} {met : List Bool} (h : Lk (laidS st ca mp cf) w met) {y : Nat → Nat → Int} (hy : FitsY st ca mp y) : False := by
  obtain ⟨l', h1, h2, h3, _⟩ := shares_net hS (cf := cf) hy
  have := lk_cut h
  rw [gap_same h1] at this
  have := gap_le (S := gI false met) h2 h3
  omega
end Go.Proofs.Ws

namespace Go.Gx
open Go
theorem any_loop {α : Type} (l : List α) (d : α) (p : α → Option Bool) (hp : α → Bool) (hl : l.length < 1000000000000) (h : ∀ x, x ∈ l → p x = some (hp x)) {f : Int → Option (Int ⊕ (Unit ⊕ Int))}
    (hf : ∀ s, f s = if s < (l.length : Int) then ((ix l s).bind fun x => (p x).bind fun b => if b = true then (some (.inr (.inr s))) else ((addc s 1).bind fun k => some (.inl k))) else some (.inr (.inl ()))) :
    (((iterM FU f 0).bind fun o => oc o (fun _ => (some (-1) : Option Int)) (fun r => some r)).bind fun t => some (decide (0 ≤ t))) = some (l.any hp) := by
  refine contains_loop (f := f) l d hp hl (fun k hk => ?_) ?_
  · rw [hf, if_pos (by omega), ix_nat d hk, Option.bind_some, h _ (by simp [List.getD_eq_getElem?_getD, hk]), Option.bind_some, addc_eq (by omega), Option.bind_some]
    split <;> rfl
  · rw [hf, if_neg (by omega)]
end Go.Gx
namespace Go.Proofs.Ws
open Go Go.Fw Go.Gx Go.Sp
def inb (n lo hi : Int) : Bool := decide (lo ≤ n) && decide (n ≤ hi)
theorem QX (n lo hi : Int) : K8 n lo hi = some (inb n lo hi) := by
  unfold K8 inb
  by_cases h : lo ≤ n
  · simp [h]
  · simp [h]
theorem inb_iff {n lo hi : Int} : inb n lo hi = true ↔ lo ≤ n ∧ n ≤ hi := by simp [inb]
def okSp (x : Span) : Bool := inb x.lo 0 30 && inb x.hi 0 30
theorem okSp_iff {x : Span} : okSp x = true ↔ In30 x := by
  unfold okSp In30
  rw [Bool.and_eq_true, inb_iff, inb_iff]
  constructor
  · rintro ⟨⟨a, b⟩, c, d⟩; exact ⟨a, b, c, d⟩
  · rintro ⟨a, b, c, d⟩; exact ⟨⟨a, b⟩, c, d⟩
theorem Zp (x : Span) : zA x = some (okSp x) := by
  unfold zA okSp
  rw [QX, Option.bind_some]
  by_cases h : inb x.lo 0 30 = true
  · rw [if_pos h, QX, h]; rfl
  · rw [if_neg h]
    have : inb x.lo 0 30 = false := by simpa using h
    rw [this]; rfl
def spansOf (s : Scalps) : List Span := s.carried ++ s.strips.flatMap fun x => [x.lay, x.seeded, x.left]
theorem flat3_len {l : List Strip} : (l.flatMap fun x => [x.lay, x.seeded, x.left]).length = 3 * l.length := by
  induction l with
  | nil => rfl
  | cons x l ih => rw [List.flatMap_cons, List.length_append, ih]; simp; omega
theorem ZZ {s : Scalps} (h6 : s.strips.length ≤ 6) (h1 : 1 ≤ s.carried.length) (h5 : s.carried.length ≤ 5) : kF s = some (spansOf s) := by
  unfold kF Jq
  rw [if_pos (by omega), appc_eq (by simp; omega), Option.bind_some, Option.bind_some]
  have key := iterM_run (f := kx s) (fun j => ⟨(j : Int), s.carried ++ (s.strips.take j).flatMap fun x => [x.lay, x.seeded, x.left]⟩) s.strips.length (b := spansOf s) (fun j hj => ?_) ?_ FU (FU_lt (by omega))
  · simp only [List.take_zero, List.flatMap_nil, List.append_nil] at key
    rw [List.nil_append]
    rw [show (0 : Int) = ((0 : Nat) : Int) from rfl, key, Option.bind_some]
  · unfold kx
    have hlt : (j : Int) < (s.strips.length : Int) := by omega
    simp only [hlt, if_true]
    have hx : s.strips.getD j default = s.strips[j] := by simp [List.getD_eq_getElem?_getD, hj]
    rw [ix_nat default hj, Option.bind_some, hx, appc_eq (by
      have := flat3_len (l := s.strips.take j)
      rw [List.length_take] at this
      simp only [List.length_append, List.length_cons, List.length_nil]; omega), Option.bind_some, addc_eq (by omega), Option.bind_some]
    have e : s.strips.take (j + 1) = s.strips.take j ++ [s.strips[j]] := by rw [List.take_append_getElem]
    rw [e, List.flatMap_append, List.append_assoc]
    rfl
  · unfold kx
    simp [spansOf]
theorem spans_len {s : Scalps} : (spansOf s).length = s.carried.length + 3 * s.strips.length := by unfold spansOf; rw [List.length_append, flat3_len]
theorem Yn {l : List Span} (hl : l.length < 1000) : k6 l = some (l.all okSp) := by
  have := any_loop l default kp (fun x => !okSp x) (by omega) (fun x _ => by unfold kp; rw [Zp]; rfl) (f := yn l) (fun s => rfl)
  unfold k6 kS q4
  rw [this, Option.bind_some, not_any_not]
theorem YB {l : List Span} (hl : l.length < 1000) : kw l = some (l.all fun x => decide (x.lo ≤ x.hi)) := by
  have := any_loop l default kd (fun x => !decide (x.lo ≤ x.hi)) (by omega) (fun x _ => by unfold kd Kw; rfl) (f := qP l) (fun s => rfl)
  unfold kw ky qt
  rw [this, Option.bind_some, not_any_not]
theorem Zq {s : Scalps} (h : s.carried.length < 1000) (n : Int) : kf s n = some (inb n 0 ((s.carried.length : Int) - 1)) := by
  unfold kf
  rw [subc_eq (by omega), Option.bind_some, QX]; rfl
theorem ja9 {s : Scalps} (h : s.strips.length < 1000) (n : Int) : kK s n = some (inb n 0 ((s.strips.length : Int) - 1)) := by
  unfold kK
  rw [subc_eq (by omega), Option.bind_some, QX]; rfl
theorem YA {l : List Strip} {s : Scalps} (h : s.carried.length < 1000) (hl : l.length < 1000) : ko l s = some (l.all fun x => inb x.tenant 0 ((s.carried.length : Int) - 1)) := by
  have := any_loop l default (fun x => ka x s) (fun x => !inb x.tenant 0 ((s.carried.length : Int) - 1)) (by omega) (fun x _ => by unfold ka KK; rw [Zq h]; rfl) (f := ym l s) (fun s => rfl)
  unfold ko kU q9
  rw [this, Option.bind_some, not_any_not]
theorem Zn {l : List Strip} (hl : l.length < 1000) (h : ∀ x, x ∈ l → In30 x.lay ∧ In30 x.seeded ∧ In30 x.left) : kc l = some (l.all fun x => decide (0 ≤ (goneP x).hi)) := by
  have := any_loop l default j2 (fun x => !decide (0 ≤ (goneP x).hi)) (by omega) (fun x hx => by
    obtain ⟨a, b, c⟩ := h x hx
    unfold j2 KM; rw [Zk a b c]; rfl) (f := qQ l) (fun s => rfl)
  unfold kc kz qm
  rw [this, Option.bind_some, not_any_not]
def chk (s : Scalps) : Int :=
  if inb (s.strips.length : Int) 1 6 = true ∧ inb (s.carried.length : Int) 1 5 = true then
    if (spansOf s).all okSp = true then
      if (s.strips.all fun x => inb x.tenant 0 ((s.carried.length : Int) - 1)) = true then
        if ((spansOf s).all fun x => decide (x.lo ≤ x.hi)) = true then
          if (s.strips.all fun x => decide (0 ≤ (goneP x).hi)) = true then 0 else 8
        else 4
      else 1
    else 3
  else 2
theorem not_true_if {α : Type} (b : Bool) (x y : α) : (if (!b) = true then x else y) = if b = true then y else x := by cases b <;> rfl
theorem spans_mem {s : Scalps} {x : Strip} (hx : x ∈ s.strips) : x.lay ∈ spansOf s ∧ x.seeded ∈ spansOf s ∧ x.left ∈ spansOf s := by
  unfold spansOf
  refine ⟨List.mem_append_right _ (List.mem_flatMap.2 ⟨x, hx, by simp⟩), List.mem_append_right _ (List.mem_flatMap.2 ⟨x, hx, by simp⟩), List.mem_append_right _ (List.mem_flatMap.2 ⟨x, hx, by simp⟩)⟩
theorem YO (s : Scalps) : J5 s = some (chk s) := by
  unfold J5 chk
  rw [QX, Option.bind_some, QX]
  simp only [not_true_if, Option.bind_some]
  by_cases h1 : inb (s.strips.length : Int) 1 6 = true
  · by_cases h2 : inb (s.carried.length : Int) 1 5 = true
    · rw [if_pos h1, if_pos ⟨h1, h2⟩, h2, Option.bind_some]
      have h1' := inb_iff.1 h1
      have h2' := inb_iff.1 h2
      have hsl := spans_len (s := s)
      simp only [Bool.not_true, Bool.false_eq_true, if_false]
      rw [ZZ (by omega) (by omega) (by omega), Option.bind_some, Yn (by omega), Option.bind_some]
      by_cases h3 : (spansOf s).all okSp = true
      · rw [if_pos h3, if_pos h3, YA (by omega) (by omega), Option.bind_some]
        split
        · rw [Option.bind_some, YB (by omega), Option.bind_some]
          split
          · rw [Zn (by omega) (fun x hx => ?_), Option.bind_some]
            · split <;> rfl
            · obtain ⟨a, b, c⟩ := spans_mem hx
              have := List.all_eq_true.1 h3
              exact ⟨okSp_iff.1 (this _ a), okSp_iff.1 (this _ b), okSp_iff.1 (this _ c)⟩
          · rfl
        · rfl
      · rw [if_neg h3, if_neg h3]
    · rw [if_pos h1, if_neg (fun h => h2 h.2)]
      have : inb (s.carried.length : Int) 1 5 = false := by simpa using h2
      rw [this]; rfl
  · rw [if_neg h1, if_neg (fun h => h1 h.1)]; rfl
structure Right (s : Scalps) : Prop where
  net : NetS s.strips s.carried
  s1 : 1 ≤ s.strips.length
  c1 : 1 ≤ s.carried.length
  ten : ∀ x, x ∈ s.strips → 0 ≤ x.tenant ∧ x.tenant < s.carried.length
  ord : ∀ x, x ∈ s.strips → x.lay.lo ≤ x.lay.hi ∧ x.seeded.lo ≤ x.seeded.hi ∧ x.left.lo ≤ x.left.hi
theorem right_of {s : Scalps} (h : chk s = 0) : Right s := by
  unfold chk at h
  split at h
  · rename_i h1
    split at h
    · rename_i h2
      split at h
      · rename_i h3
        split at h
        · rename_i h4
          split at h
          · rename_i h5
            have e1 := inb_iff.1 h1.1
            have e2 := inb_iff.1 h1.2
            have g2 := List.all_eq_true.1 h2
            have g3 := List.all_eq_true.1 h3
            have g4 := List.all_eq_true.1 h4
            have g5 := List.all_eq_true.1 h5
            have ord : ∀ x, x ∈ s.strips → x.lay.lo ≤ x.lay.hi ∧ x.seeded.lo ≤ x.seeded.hi ∧ x.left.lo ≤ x.left.hi := fun x hx => by
              obtain ⟨a, b, c⟩ := spans_mem hx
              exact ⟨of_decide_eq_true (g4 _ a), of_decide_eq_true (g4 _ b), of_decide_eq_true (g4 _ c)⟩
            refine ⟨⟨by omega, by omega, fun x hx => ?_, fun x hx => ?_⟩, by omega, by omega, fun x hx => ?_, ord⟩
            · obtain ⟨a, b, c⟩ := spans_mem hx
              refine ⟨okSp_iff.1 (g2 _ a), okSp_iff.1 (g2 _ b), okSp_iff.1 (g2 _ c), ?_⟩
              have o := ord x hx
              have := of_decide_eq_true (g5 _ hx)
              unfold goneP at *
              simp only at this ⊢
              omega
            · have hm : x ∈ spansOf s := List.mem_append_left _ hx
              exact ⟨okSp_iff.1 (g2 _ hm), of_decide_eq_true (g4 _ hm)⟩
            · have := inb_iff.1 (g3 _ hx); omega
          · cases h
        · cases h
      · cases h
    · cases h
  · cases h
theorem of_right {s : Scalps} (h : Right s) : chk s = 0 := by
  have hm : ∀ x, x ∈ spansOf s → In30 x ∧ x.lo ≤ x.hi := fun x hx => by
    unfold spansOf at hx
    rcases List.mem_append.1 hx with hx | hx
    · exact h.net.cp x hx
    · obtain ⟨y, hy, hx⟩ := List.mem_flatMap.1 hx
      obtain ⟨a, b, c, _⟩ := h.net.sp y hy
      obtain ⟨d, e, f⟩ := h.ord y hy
      simp only [List.mem_cons, List.not_mem_nil, or_false] at hx
      rcases hx with rfl | rfl | rfl
      · exact ⟨a, d⟩
      · exact ⟨b, e⟩
      · exact ⟨c, f⟩
  have := h.net.s6; have := h.net.c5; have := h.s1; have := h.c1
  unfold chk
  rw [if_pos ⟨inb_iff.2 (by omega), inb_iff.2 (by omega)⟩, if_pos (List.all_eq_true.2 fun x hx => okSp_iff.2 (hm x hx).1), if_pos (List.all_eq_true.2 fun x hx => inb_iff.2 (by have := h.ten x hx; omega)), if_pos (List.all_eq_true.2 fun x hx => decide_eq_true (hm x hx).2), if_pos (List.all_eq_true.2 fun x hx => decide_eq_true (by
    have := (h.net.sp x hx).2.2.2
    unfold goneP at *
    simp only at this ⊢
    omega))]
end Go.Proofs.Ws

namespace Go.Gx
open Go
theorem afind_none {α β : Type} [DecidableEq α] : ∀ {l : List (α × β)} {k : α} {i : Nat}, afind l k i = none ↔ ∀ p, p ∈ l → p.1 ≠ k
  | [], k, i => by simp [afind]
  | (k', v') :: r, k, i => by
    unfold afind
    by_cases h : k = k'
    · rw [if_pos h]
      constructor
      · intro h2; cases h2
      · intro h2; exact absurd h.symm (h2 (k', v') (by simp))
    · rw [if_neg h, afind_none]
      constructor
      · intro h2 p hp
        rcases List.mem_cons.1 hp with rfl | hp
        · exact fun e => h e.symm
        · exact h2 p hp
      · intro h2 p hp; exact h2 p (List.mem_cons_of_mem _ hp)
theorem aget_val {α β : Type} [DecidableEq α] : ∀ {l : List (α × β)} {k : α} {i : Nat}, (afind l k i).map (·.2) = (l.find? fun p => decide (p.1 = k)).map (·.2)
  | [], k, i => rfl
  | (k', v') :: r, k, i => by
    unfold afind
    by_cases h : k = k'
    · rw [if_pos h, List.find?_cons, decide_eq_true h.symm]; rfl
    · rw [if_neg h, aget_val (i := i + 1), List.find?_cons, decide_eq_false (fun e => h e.symm)]
theorem find_modify {α β : Type} [DecidableEq α] (v : β) (k x : α) : ∀ {l : List (α × β)} {i j : Nat} {v0 : β}, afind l k j = some (i, v0) → ((l.modify (i - j) (fun p => (p.1, v))).find? fun p => decide (p.1 = x)).map (·.2) = if x = k then some v else (l.find? fun p => decide (p.1 = x)).map (·.2)
  | [], i, j, v0, h => by cases h
  | (k', v') :: r, i, j, v0, h => by
    unfold afind at h
    by_cases hk : k = k'
    · rw [if_pos hk] at h
      cases h
      rw [Nat.sub_self, List.modify_zero_cons, List.find?_cons, List.find?_cons]
      subst hk
      by_cases hx : k = x
      · rw [decide_eq_true hx, if_pos hx.symm]; rfl
      · rw [decide_eq_false hx, if_neg (fun e => hx e.symm)]
    · rw [if_neg hk] at h
      have hle := (afind_some h).1
      have e : i - j = (i - (j + 1)) + 1 := by omega
      rw [e, List.modify_succ_cons, List.find?_cons, List.find?_cons]
      have ih := find_modify v k x h
      by_cases hx : k' = x
      · rw [decide_eq_true hx, if_neg (fun e => hk (by rw [← e, hx]))]
      · rw [decide_eq_false hx]; exact ih
theorem aget_aset {α β : Type} [DecidableEq α] (l : List (α × β)) (k x : α) (v : β) : aget (aset l k v) x = if x = k then some v else aget l x := by
  unfold aget aset
  rw [aget_val, aget_val]
  cases h : afind l k 0 with
  | none =>
    simp only
    rw [List.find?_append]
    by_cases hx : x = k
    · subst hx
      have : (l.find? fun p => decide (p.1 = x)) = none := by
        rw [List.find?_eq_none]
        intro p hp
        simpa using afind_none.1 h p hp
      rw [this, if_pos rfl]
      simp
    · rw [if_neg hx]
      have : (List.find? (fun p : α × β => decide (p.1 = x)) [(k, v)]) = none := by
        rw [List.find?_cons, decide_eq_false (fun e => hx e.symm)]; rfl
      rw [this, Option.or_none]
  | some p =>
    obtain ⟨i, v0⟩ := p
    exact find_modify v k x h
end Go.Gx
namespace Go.Proofs.Ws
open Go Go.Fw Go.Gx Go.Sp
def Near (st : List Strip) (t k j : Int) : Prop := 0 ≤ k ∧ k < st.length ∧ j - 1 ≤ k ∧ k ≤ j + 1 ∧ 0 ≤ j ∧ j < st.length ∧ (st.getD j.toNat default).tenant = t
def MapOK (st : List Strip) (mp : List (Pair × Bool)) : Prop := ∀ t k : Int, ((aget mp ⟨t, k⟩).getD false = true ↔ ∃ j, Near st t k j)
theorem Y0 {s : Scalps} (h6 : s.strips.length ≤ 6) : ∃ mp, iterM FU (zg s) ⟨0, []⟩ = some mp ∧ MapOK s.strips mp := by
  refine iterM_inv (f := zg s) (fun x => 0 ≤ x.t21 ∧ x.t21 ≤ s.strips.length ∧ ∀ t k : Int, ((aget x.t15 ⟨t, k⟩).getD false = true ↔ ∃ j, Near s.strips t k j ∧ j < x.t21)) (fun x => s.strips.length - x.t21.toNat) (MapOK s.strips) (fun x hx => ?_) FU _ (FU_lt (by simp only; omega)) ⟨by simp, by simp, fun t k => ?_⟩
  · obtain ⟨h0, h1, hI⟩ := hx
    unfold zg
    by_cases hlt : x.t21 < (s.strips.length : Int)
    · left
      simp only [hlt, if_true]
      rw [ix_eq default h0 hlt, Option.bind_some, subc_eq (by omega), Option.bind_some]
      generalize hy : s.strips.getD x.t21.toNat default = y
      have key : ∃ mp, iterM FU (zo x s y) ⟨x.t21 - 1, x.t15⟩ = some mp ∧ ∀ t k : Int, ((aget mp ⟨t, k⟩).getD false = true ↔ ∃ j, Near s.strips t k j ∧ j < x.t21 + 1) := by
        refine iterM_inv (f := zo x s y) (fun z => x.t21 - 1 ≤ z.k8 ∧ z.k8 ≤ x.t21 + 2 ∧ ∀ t k : Int, ((aget z.t15 ⟨t, k⟩).getD false = true ↔ (∃ j, Near s.strips t k j ∧ j < x.t21) ∨ (k < z.k8 ∧ Near s.strips t k x.t21))) (fun z => (x.t21 + 2 - z.k8).toNat) _ (fun z hz => ?_) FU _ (FU_lt (by simp only; omega)) ⟨by simp, by simp only; omega, fun t k => ?_⟩
        · obtain ⟨g0, g1, gI⟩ := hz
          unfold zo
          rw [addc_eq (by omega), Option.bind_some]
          by_cases hz2 : z.k8 ≤ x.t21 + 1
          · left
            rw [if_pos hz2, ja9 (by omega), Option.bind_some]
            by_cases hk : inb z.k8 0 ((s.strips.length : Int) - 1) = true
            · have hk' := inb_iff.1 hk
              rw [if_pos hk, Option.bind_some, Option.bind_some, addc_eq (by omega), Option.bind_some]
              refine ⟨_, rfl, ⟨by simp only; omega, by simp only; omega, fun t k => ?_⟩, by simp only; omega⟩
              simp only
              rw [aget_aset]
              by_cases he : (⟨t, k⟩ : Pair) = ⟨y.tenant, z.k8⟩
              · rw [if_pos he]
                simp only [Pair.mk.injEq] at he
                simp only [Option.getD_some, true_iff]
                refine .inr ⟨by omega, by omega, by omega, by omega, by omega, h0, hlt, ?_⟩
                rw [hy]; exact he.1.symm
              · rw [if_neg he, gI]
                constructor
                · rintro (h | ⟨h, h'⟩)
                  · exact .inl h
                  · exact .inr ⟨by omega, h'⟩
                · rintro (h | ⟨h, h'⟩)
                  · exact .inl h
                  · by_cases hkz : k = z.k8
                    · exfalso
                      apply he
                      have := h'.2.2.2.2.2.2
                      rw [hy] at this
                      rw [hkz, this]
                    · exact .inr ⟨by omega, h'⟩
            · rw [if_neg hk, Option.bind_some, addc_eq (by omega), Option.bind_some]
              refine ⟨_, rfl, ⟨by simp only; omega, by simp only; omega, fun t k => ?_⟩, by simp only; omega⟩
              simp only
              rw [gI]
              constructor
              · rintro (h | ⟨h, h'⟩)
                · exact .inl h
                · exact .inr ⟨by omega, h'⟩
              · rintro (h | ⟨h, h'⟩)
                · exact .inl h
                · by_cases hkz : k = z.k8
                  · exfalso
                    exact hk (inb_iff.2 ⟨by have := h'.1; omega, by have := h'.2.1; omega⟩)
                  · exact .inr ⟨by omega, h'⟩
          · right
            rw [if_neg hz2]
            refine ⟨_, rfl, fun t k => ?_⟩
            rw [gI]
            constructor
            · rintro (⟨j, h, h'⟩ | ⟨h, h'⟩)
              · exact ⟨j, h, by omega⟩
              · exact ⟨x.t21, h', by omega⟩
            · rintro ⟨j, h, h'⟩
              by_cases hj : j = x.t21
              · subst hj
                exact .inr ⟨by have := h.2.2.2.1; omega, h⟩
              · exact .inl ⟨j, h, by omega⟩
        · simp only
          rw [hI]
          constructor
          · exact .inl
          · rintro (h | ⟨h, h'⟩)
            · exact h
            · have := h'.2.2.1; omega
      obtain ⟨mp, hmp, hI2⟩ := key
      rw [hmp, Option.bind_some, addc_eq (by omega), Option.bind_some]
      exact ⟨_, rfl, ⟨by simp only; omega, by simp only; omega, hI2⟩, by simp only; omega⟩
    · right
      simp only [hlt, if_false]
      refine ⟨_, rfl, fun t k => ?_⟩
      rw [hI]
      constructor
      · rintro ⟨j, h, _⟩; exact ⟨j, h⟩
      · rintro ⟨j, h⟩; exact ⟨j, h, by have := h.2.2.2.2.2.1; omega⟩
  · simp only
    constructor
    · intro h; cases h
    · rintro ⟨j, h, h'⟩; have := h.2.2.2.2.1; omega
theorem JZ {s : Scalps} (h : Right s) : ∃ mp, ks s = some (.inr mp) ∧ MapOK s.strips mp := by
  obtain ⟨mp, h1, h2⟩ := Y0 h.net.s6
  refine ⟨mp, ?_, h2⟩
  unfold ks
  rw [YO, Option.bind_some, of_right h, if_pos rfl, h1]; rfl
theorem J2 {s : Scalps} (h : chk s ≠ 0) : ks s = some (.inl (chk s)) := by
  unfold ks
  rw [YO, Option.bind_some, if_neg h, if_pos h]
def reachB (st : List Strip) (t k : Nat) : Bool := (List.range st.length).any fun j => decide (j ≤ k + 1 ∧ k ≤ j + 1 ∧ (st.getD j default).tenant = (t : Int))
theorem rOf_reach {st : List Strip} {mp : List (Pair × Bool)} (h : MapOK st mp) {t k : Nat} (hk : k < st.length) : rOf mp t k = reachB st t k := by
  unfold rOf reachB
  rw [Bool.eq_iff_iff, h, List.any_eq_true]
  constructor
  · rintro ⟨j, a, b, c, d, e, f, g⟩
    refine ⟨j.toNat, List.mem_range.2 (by omega), decide_eq_true ⟨by omega, by omega, g⟩⟩
  · rintro ⟨j, a, b⟩
    have a' := List.mem_range.1 a
    obtain ⟨b1, b2, b3⟩ := of_decide_eq_true b
    exact ⟨(j : Int), by omega, by omega, by omega, by omega, by omega, by omega, b3⟩
end Go.Proofs.Ws

namespace Go.Proofs.Ws
open Go Go.Fw Go.Gx Go.Sp
theorem sumI_range' (f : Nat → Int) : ∀ n, sumI f (List.range n) = sumTo f n
  | 0 => rfl
  | n + 1 => by rw [List.range_succ, sumI_append, sumI_range' f n]; simp [sumI, sumTo]
theorem costs_bound : ∀ {l : List Wy}, (∀ w, w ∈ l → WyOK w) → -1000000 * (l.length : Int) ≤ costs l ∧ costs l ≤ 1000000 * (l.length : Int)
  | [], _ => by simp [costs, sumI]
  | w :: l, h => by
    have ih := costs_bound (l := l) (fun x hx => h x (List.mem_cons_of_mem _ hx))
    have hw := h w (by simp)
    have e : costs (w :: l) = w.cost * w.goes + costs l := rfl
    have b := wcost_bound hw
    rw [e]; simp only [List.length_cons]; push_cast; omega
 where
  wcost_bound {w : Wy} (hw : WyOK w) : -1000000 ≤ w.cost * w.goes ∧ w.cost * w.goes ≤ 1000000 := by
    have h1 := hw.cost; have h2 := hw.goes; have h3 := hw.hi
    have : w.cost = -1 ∨ w.cost = 0 ∨ w.cost = 1 := by omega
    rcases this with e | e | e <;> rw [e] <;> omega
theorem Yl {l : List Wy} (hl : NetOK l) : yp l = some (costs l) := by
  unfold yp
  have key := iterM_run (f := zN l) (fun j => ⟨costs (l.take j), (j : Int)⟩) l.length (b := costs l) (fun j hj => ?_) ?_ FU (FU_lt (by have := hl.1; omega))
  · have e : (⟨0, 0⟩ : z9) = ⟨costs (l.take 0), ((0 : Nat) : Int)⟩ := rfl
    rw [e, key]; rfl
  · unfold zN
    have hlt : (j : Int) < (l.length : Int) := by omega
    have hlen := hl.1
    simp only [hlt, if_true]
    have hx : l.getD j default = l[j] := by simp [List.getD_eq_getElem?_getD, hj]
    have hw := hl.2 _ (List.getElem_mem hj)
    have b1 := costs_bound.wcost_bound hw
    have b2 := costs_bound (l := l.take j) (fun w hw => hl.2 w (List.mem_of_mem_take hw))
    rw [List.length_take] at b2
    rw [ix_nat default hj, Option.bind_some, hx, mulc_eq (by omega), Option.bind_some, addc_eq (by omega), Option.bind_some, addc_eq (by omega), Option.bind_some]
    have e : l.take (j + 1) = l.take j ++ [l[j]] := by rw [List.take_append_getElem]
    rw [e]
    have e2 : costs (l.take j ++ [l[j]]) = costs (l.take j) + l[j].cost * l[j].goes := by
      unfold costs; rw [sumI_append]; simp [sumI]
    rw [e2]; rfl
  · unfold zN
    simp
def mat (T S : Nat) (f : Nat → Nat → Int) : List (List Int) := (List.range T).map fun t => (List.range S).map (f t)
def updF (f : Nat → Nat → Int) (w : Wy) : Nat → Nat → Int := if w.fr = 0 ∨ w.dst = 0 then f else fun t k => if (t : Int) = w.dst - 7 ∧ (k : Int) = w.fr - 1 then w.goes else f t k
def Hits (w : Wy) (t k : Nat) : Prop := w.fr = 1 + (k : Int) ∧ w.dst = 7 + (t : Int)
theorem updF_at {f : Nat → Nat → Int} {w : Wy} {t k : Nat} : (Hits w t k → updF f w t k = w.goes) ∧ (¬ Hits w t k → updF f w t k = f t k) := by
  unfold updF Hits
  constructor
  · rintro ⟨h1, h2⟩
    rw [if_neg (by omega), if_pos (by omega)]
  · intro h
    split
    · rfl
    · exact if_neg (by omega)
theorem foldU_same {t k : Nat} {v : Int} : ∀ {l : List Wy} {f : Nat → Nat → Int}, (∀ w, w ∈ l → Hits w t k → w.goes = v) → f t k = v → l.foldl updF f t k = v
  | [], f, _, h => h
  | w :: l, f, h, hf => by
    rw [List.foldl_cons]
    refine foldU_same (fun x hx => h x (List.mem_cons_of_mem _ hx)) ?_
    by_cases hh : Hits w t k
    · rw [updF_at.1 hh]; exact h w (by simp) hh
    · rw [updF_at.2 hh]; exact hf
theorem foldU_hit {t k : Nat} {v : Int} : ∀ {l : List Wy} {f : Nat → Nat → Int}, (∀ w, w ∈ l → Hits w t k → w.goes = v) → (∃ w, w ∈ l ∧ Hits w t k) → l.foldl updF f t k = v
  | [], f, _, ⟨_, h, _⟩ => by cases h
  | w :: l, f, h, ⟨x, hx, hxh⟩ => by
    rw [List.foldl_cons]
    have h' := fun x hx => h x (List.mem_cons_of_mem w hx)
    rcases List.mem_cons.1 hx with rfl | hx
    · exact foldU_same h' (by rw [updF_at.1 hxh]; exact h x (by simp) hxh)
    · exact foldU_hit h' ⟨x, hx, hxh⟩
theorem mat_row {T S : Nat} {f : Nat → Nat → Int} {t : Nat} (h : t < T) : ix (mat T S f) (t : Int) = some ((List.range S).map (f t)) := range_ix h
theorem mat_set {T S : Nat} {f : Nat → Nat → Int} {t k : Nat} {v : Int} : (mat T S f).set t (((List.range S).map (f t)).set k v) = mat T S fun t' k' => if t' = t ∧ k' = k then v else f t' k' := by
  unfold mat
  rw [range_set, range_set]
  refine List.map_congr_left fun x _ => ?_
  by_cases hx : x = t
  · subst hx
    rw [if_pos rfl]
    refine List.map_congr_left fun y _ => ?_
    by_cases hy : y = k <;> simp [hy]
  · rw [if_neg hx]
    refine List.map_congr_left fun y _ => ?_
    exact (if_neg (fun h => hx h.1)).symm
theorem Zt {st : List Strip} {ca : List Span} (h6 : st.length ≤ 6) (h5 : ca.length ≤ 5) {l : List Wy} (hl : l.length ≤ 1000) (hw : ∀ w, w ∈ l → w.fr = 0 ∨ w.dst = 0 ∨ ∃ t k, t < ca.length ∧ k < st.length ∧ Hits w t k) :
    qU l st ca = some (mat ca.length st.length (l.foldl updF fun _ _ => 0)) := by
  unfold qU
  rw [makec_eq (by omega), Option.bind_some]
  have k1 : iterM FU (qJ (List.replicate ca.length []) st) ⟨0, List.replicate ca.length []⟩ = some (mat ca.length st.length fun _ _ => 0) := by
    have key := iterM_run (f := qJ (List.replicate ca.length []) st) (fun j => ⟨(j : Int), (List.range ca.length).map fun t => if t < j then (List.range st.length).map (fun _ => (0 : Int)) else []⟩) ca.length (b := mat ca.length st.length fun _ _ => 0) (fun j hj => ?_) ?_ FU (FU_lt (by omega))
    · have e : (List.range ca.length).map (fun t => if t < 0 then (List.range st.length).map (fun _ => (0 : Int)) else []) = List.replicate ca.length [] := by
        rw [List.eq_replicate_iff]
        exact ⟨by simp, fun b hb => by obtain ⟨t, _, rfl⟩ := List.mem_map.1 hb; simp⟩
      rw [e] at key
      exact key
    · unfold qJ
      have hlt : (j : Int) < ((List.replicate ca.length ([] : List Int)).length : Int) := by simp; omega
      simp only [hlt, if_true]
      rw [makec_eq (by omega), Option.bind_some, range_ix hj, Option.bind_some, Option.bind_some, addc_eq (by omega), Option.bind_some, show Int.toNat (j : Int) = j by omega, range_set]
      have e : (List.range ca.length).map (fun t => if t = j then List.replicate (st.length : Int).toNat (0 : Int) else if t < j then (List.range st.length).map (fun _ => (0 : Int)) else []) = (List.range ca.length).map (fun t => if t < j + 1 then (List.range st.length).map (fun _ => (0 : Int)) else []) := by
        refine List.map_congr_left fun t _ => ?_
        by_cases ht : t = j
        · rw [if_pos ht, if_pos (by omega)]
          symm
          rw [List.eq_replicate_iff]
          exact ⟨by simp, fun b hb => by obtain ⟨t, _, rfl⟩ := List.mem_map.1 hb; rfl⟩
        · rw [if_neg ht]
          by_cases h2 : t < j
          · rw [if_pos h2, if_pos (by omega)]
          · rw [if_neg h2, if_neg (by omega)]
      rw [e]; rfl
    · unfold qJ
      have hlt : ¬ ((ca.length : Int) < ((List.replicate ca.length ([] : List Int)).length : Int)) := by simp
      simp only [hlt, if_false]
      congr 2
      refine List.map_congr_left fun t ht => ?_
      rw [if_pos (List.mem_range.1 ht)]
  rw [show List.replicate (ca.length : Int).toNat ([] : List Int) = List.replicate ca.length [] by simp, k1, Option.bind_some]
  have key := iterM_run (f := yq l) (fun j => ⟨(j : Int), mat ca.length st.length ((l.take j).foldl updF fun _ _ => 0)⟩) l.length (b := mat ca.length st.length (l.foldl updF fun _ _ => 0)) (fun j hj => ?_) ?_ FU (FU_lt (by omega))
  · have e : (⟨0, mat ca.length st.length fun _ _ => 0⟩ : yx) = ⟨((0 : Nat) : Int), mat ca.length st.length ((l.take 0).foldl updF fun _ _ => 0)⟩ := rfl
    rw [e, key]; rfl
  · unfold yq
    have hlt : (j : Int) < (l.length : Int) := by omega
    simp only [hlt, if_true]
    have hx : l.getD j default = l[j] := by simp [List.getD_eq_getElem?_getD, hj]
    have e : l.take (j + 1) = l.take j ++ [l[j]] := by rw [List.take_append_getElem]
    rw [ix_nat default hj, Option.bind_some, hx, e, List.foldl_append]
    simp only [List.foldl_cons, List.foldl_nil]
    generalize (l.take j).foldl updF (fun _ _ => 0) = f
    have hwj := hw _ (List.getElem_mem hj)
    generalize l[j] = w at hwj
    by_cases h0 : w.fr = 0 ∨ w.dst = 0
    · have e2 : (if w.fr = 0 then some false else some (!decide (w.dst = 0))) = some false := by
        by_cases h1 : w.fr = 0
        · rw [if_pos h1]
        · rw [if_neg h1, decide_eq_true (h0.resolve_left h1)]; rfl
      rw [e2, Option.bind_some, if_neg (by simp), Option.bind_some, addc_eq (by omega), Option.bind_some]
      unfold updF
      rw [if_pos h0]; rfl
    · rcases hwj with h | h | ⟨t, k, ht, hk, hh⟩
      · exact absurd (.inl h) h0
      · exact absurd (.inr h) h0
      · obtain ⟨a1, a2⟩ := hh
        have e2 : (if w.fr = 0 then some false else some (!decide (w.dst = 0))) = some true := by
          rw [if_neg (fun h => h0 (.inl h)), decide_eq_false (fun h => h0 (.inr h))]; rfl
        rw [e2, Option.bind_some, if_pos rfl, subc_eq (by omega), Option.bind_some, subc_eq (by omega), Option.bind_some, show w.dst - 1 - 6 = (t : Int) by omega, mat_row ht, Option.bind_some, subc_eq (by omega), Option.bind_some, show w.fr - 1 = (k : Int) by omega, range_ix hk, Option.bind_some, Option.bind_some, Option.bind_some, Option.bind_some, addc_eq (by omega), Option.bind_some, show Int.toNat (t : Int) = t by omega, show Int.toNat (k : Int) = k by omega, mat_set]
        have e3 : updF f w = fun t' k' => if t' = t ∧ k' = k then w.goes else f t' k' := by
          unfold updF
          rw [if_neg h0]
          funext t' k'
          by_cases hc : t' = t ∧ k' = k
          · rw [if_pos hc, if_pos (by omega)]
          · rw [if_neg hc, if_neg (by omega)]
        rw [e3]; rfl
  · unfold yq
    simp
theorem laidG_mem {S T : Nat} {g h : Nat → Span} {R : Nat → Nat → Bool} {c : Nat → Nat → Int} {gs : Nat → Int} {ys : Nat → Nat → Int} {zs : Nat → Int} {w : Wy} :
    w ∈ laidG S g h R c gs ys zs T ↔ (∃ k, k < S ∧ w = { stripW g k with goes := gs k }) ∨ (∃ t k, t < T ∧ k < S ∧ R t k = true ∧ w = { innerW c t k with goes := ys t k }) ∨ (∃ t, t < T ∧ w = { tenW h t with goes := zs t }) := by
  unfold laidG
  rw [List.mem_append, List.mem_map, List.mem_flatMap]
  constructor
  · rintro (⟨k, hk, rfl⟩ | ⟨t, ht, hw⟩)
    · exact .inl ⟨k, by simpa using hk, rfl⟩
    · rcases List.mem_append.1 hw with hw | hw
      · obtain ⟨k, hk, rfl⟩ := List.mem_map.1 hw
        obtain ⟨h1, h2⟩ := List.mem_filter.1 hk
        exact .inr (.inl ⟨t, k, by simpa using ht, by simpa using h1, h2, rfl⟩)
      · rw [List.mem_singleton] at hw
        exact .inr (.inr ⟨t, by simpa using ht, hw⟩)
  · rintro (⟨k, hk, rfl⟩ | ⟨t, k, ht, hk, hr, rfl⟩ | ⟨t, ht, rfl⟩)
    · exact .inl ⟨k, by simpa using hk, rfl⟩
    · exact .inr ⟨t, by simpa using ht, List.mem_append_left _ (List.mem_map.2 ⟨k, List.mem_filter.2 ⟨by simpa using hk, hr⟩, rfl⟩)⟩
    · exact .inr ⟨t, by simpa using ht, List.mem_append_right _ (by simp)⟩
theorem Za {st : List Strip} {ca : List Span} (h6 : st.length ≤ 6) (h5 : ca.length ≤ 5) {g h : Nat → Span} {R : Nat → Nat → Bool} {c : Nat → Nat → Int} {gs : Nat → Int} {ys : Nat → Nat → Int} {zs : Nat → Int} (hl : (laidG st.length g h R c gs ys zs ca.length).length ≤ 1000) :
    qU (laidG st.length g h R c gs ys zs ca.length) st ca = some (mat ca.length st.length (Yr R ys)) := by
  rw [Zt h6 h5 hl]
  · congr 1
    unfold mat
    refine List.map_congr_left fun t ht => List.map_congr_left fun k hk => ?_
    have ht' := List.mem_range.1 ht
    have hk' := List.mem_range.1 hk
    have hall : ∀ w, w ∈ laidG st.length g h R c gs ys zs ca.length → Hits w t k → R t k = true ∧ w.goes = ys t k := fun w hw hh => by
      unfold Hits at hh
      rcases laidG_mem.1 hw with ⟨k', hk', rfl⟩ | ⟨t', k', ht', hk', hr, rfl⟩ | ⟨t', ht', rfl⟩
      · simp only [stripW] at hh; omega
      · simp only [innerW] at hh
        have e1 : k' = k := by omega
        have e2 : t' = t := by omega
        subst e1; subst e2
        exact ⟨hr, rfl⟩
      · simp only [tenW] at hh; omega
    unfold Yr
    split
    · rename_i hr
      refine foldU_hit (fun w hw hh => (hall w hw hh).2) ⟨_, laidG_mem.2 (.inr (.inl ⟨t, k, ht', hk', hr, rfl⟩)), ?_⟩
      unfold Hits innerW
      exact ⟨rfl, rfl⟩
    · rename_i hr
      exact foldU_same (fun w hw hh => absurd (hall w hw hh).1 hr) rfl
  · intro w hw
    rcases laidG_mem.1 hw with ⟨k', hk', rfl⟩ | ⟨t', k', ht', hk', hr, rfl⟩ | ⟨t', ht', rfl⟩
    · exact .inl rfl
    · exact .inr (.inr ⟨t', k', ht', hk', rfl, rfl⟩)
    · exact .inr (.inl rfl)
structure FitsS (s : Scalps) (y : Nat → Nat → Int) : Prop where
  pos : ∀ t k, t < s.carried.length → k < s.strips.length → 0 ≤ y t k ∧ (0 < y t k → reachB s.strips t k = true)
  ten : ∀ t, t < s.carried.length → (hOf s.carried t).lo ≤ sumTo (fun k => y t k) s.strips.length ∧ sumTo (fun k => y t k) s.strips.length ≤ (hOf s.carried t).hi
  str : ∀ k, k < s.strips.length → (gOf s.strips k).lo ≤ sumTo (fun t => y t k) s.carried.length ∧ sumTo (fun t => y t k) s.carried.length ≤ (gOf s.strips k).hi
theorem fitsY_iff {s : Scalps} {mp : List (Pair × Bool)} (hm : MapOK s.strips mp) {y : Nat → Nat → Int} : FitsY s.strips s.carried mp y ↔ FitsS s y := by
  constructor
  · intro h
    exact ⟨fun t k ht hk => by rw [← rOf_reach hm hk]; exact h.pos t k ht hk, h.ten, h.str⟩
  · intro h
    exact ⟨fun t k ht hk => by rw [rOf_reach hm hk]; exact h.pos t k ht hk, h.ten, h.str⟩
def countS (s : Scalps) (c y : Nat → Nat → Int) : Int := countY s.strips s.carried c y
theorem filled_min {s : Scalps} (h : Right s) {mp : List (Pair × Bool)} (hm : MapOK s.strips mp) {cf : Pair → Option Int} (hc : CfOK s.strips s.carried cf) :
    (∃ l y, j0 s.strips s.carried mp cf = some (.inr ⟨⟨false, []⟩, l⟩) ∧ (∃ π : Int → Int, PotB π l) ∧ Good (laidS s.strips s.carried mp cf) l ∧ Within l ∧ yp l = some (countS s (cOf cf) y) ∧ qU l s.strips s.carried = some (mat s.carried.length s.strips.length y) ∧ FitsS s y ∧ ∀ y', FitsS s y' → countS s (cOf cf) y ≤ countS s (cOf cf) y') ∨
    (∃ w met, j0 s.strips s.carried mp cf = some (.inl (lackP s.strips s.carried w met)) ∧ Lk (laidS s.strips s.carried mp cf) w met ∧ ∀ y, ¬ FitsS s y) := by
  rcases Y2 h.net (mp := mp) hc with ⟨l, h1, hg, hw, π, hp⟩ | ⟨w, met, h1, hlk⟩
  · left
    obtain ⟨gs, ys, zs, e, hf, hcost⟩ := net_shares h.net hg hw
    refine ⟨l, _, h1, ⟨π, hp⟩, hg, hw, ?_, ?_, (fitsY_iff hm).1 hf, fun y' hy' => ?_⟩
    · rw [Yl hg.ok, hcost]; rfl
    · have hlen := hg.ok.1
      rw [e]
      rw [e] at hlen
      exact Za h.net.s6 h.net.c5 (by omega)
    · have := net_least h.net hg hp.1 ((fitsY_iff hm).2 hy')
      rw [hcost] at this
      exact this
  · right
    exact ⟨w, met, h1, hlk, fun y hy => lk_none h.net hlk ((fitsY_iff hm).2 hy)⟩
end Go.Proofs.Ws

namespace Go.Proofs.Ws
open Go Go.Fw Go.Gx Go.Sp
def CfIs (s : Scalps) (cf : Pair → Option Int) (c : Nat → Nat → Int) : Prop := ∀ t k : Nat, t < s.carried.length → k < s.strips.length → cf ⟨(t : Int), (k : Int)⟩ = some (c t k) ∧ -1 ≤ c t k ∧ c t k ≤ 1
theorem CfIs.ok {s : Scalps} {cf : Pair → Option Int} {c : Nat → Nat → Int} (h : CfIs s cf c) : CfOK s.strips s.carried cf := fun t k ht hk => ⟨c t k, h t k ht hk⟩
theorem CfIs.count {s : Scalps} {cf : Pair → Option Int} {c : Nat → Nat → Int} (h : CfIs s cf c) (y : Nat → Nat → Int) : countS s (cOf cf) y = countS s c y := by
  unfold countS countY
  refine sumTo_congr fun t ht => sumTo_congr fun k hk => ?_
  have : cOf cf t k = c t k := by unfold cOf; rw [(h t k ht hk).1]; rfl
  rw [this]
theorem countS_neg {s : Scalps} {c y : Nat → Nat → Int} : countS s (fun t k => - c t k) y = - countS s c y := by
  unfold countS countY
  rw [← Int.neg_one_mul, ← sumTo_mul]
  refine sumTo_congr fun t ht => ?_
  rw [← sumTo_mul]
  refine sumTo_congr fun k hk => ?_
  rw [Int.neg_one_mul, Int.neg_mul]
theorem CfIs.neg {s : Scalps} {cf cf' : Pair → Option Int} {c : Nat → Nat → Int} (h : CfIs s cf c) (h' : ∀ p, cf' p = (cf p).bind fun t => (negc t).bind fun x => some x) : CfIs s cf' fun t k => - c t k := fun t k ht hk => by
  obtain ⟨a, b, d⟩ := h t k ht hk
  refine ⟨?_, (by omega : -1 ≤ - c t k), (by omega : - c t k ≤ 1)⟩
  rw [h', a, Option.bind_some, negc_eq (by omega)]; rfl
def cnt (b : Bool) : Int := if b = true then 1 else 0
theorem cnt_range (b : Bool) : -1 ≤ cnt b ∧ cnt b ≤ 1 ∧ 0 ≤ cnt b := by unfold cnt; split <;> omega
def othB (s : Scalps) (t k : Nat) : Bool := !decide ((s.strips.getD k default).tenant = (t : Int))
def thC (s : Scalps) (t k : Nat) : Int := cnt (othB s t k)
theorem ZT {s : Scalps} {t k : Nat} (hk : k < s.strips.length) : Jw s.strips s.carried ⟨(t : Int), (k : Int)⟩ = some (othB s t k) := by
  unfold Jw othB
  rw [ix_nat default hk, Option.bind_some]
theorem cf_theft (s : Scalps) : CfIs s (fun p => jP p s.strips s.carried) (thC s) := fun t k _ hk => by
  refine ⟨?_, (cnt_range _).1, (cnt_range _).2.1⟩
  unfold jP thC cnt
  simp only
  rw [ZT hk, Option.bind_some]
  split <;> rfl
def IsRange (s : Scalps) (c : Nat → Nat → Int) (lo hi : Int) : Prop := (∃ y, FitsS s y ∧ countS s c y = lo) ∧ (∃ y, FitsS s y ∧ countS s c y = hi) ∧ ∀ y, FitsS s y → lo ≤ countS s c y ∧ countS s c y ≤ hi
def NoFit (s : Scalps) : Prop := ∀ y, ¬ FitsS s y
theorem IsRange.uniq {s : Scalps} {c : Nat → Nat → Int} {a b a' b' : Int} (h : IsRange s c a b) (h' : IsRange s c a' b') : a = a' ∧ b = b' := by
  obtain ⟨⟨y1, f1, e1⟩, ⟨y2, f2, e2⟩, h3⟩ := h
  obtain ⟨⟨z1, g1, d1⟩, ⟨z2, g2, d2⟩, h4⟩ := h'
  have := h3 _ g1; have := h3 _ g2; have := h4 _ f1; have := h4 _ f2
  omega
theorem spread_spec {s : Scalps} (h : Right s) {mp : List (Pair × Bool)} (hm : MapOK s.strips mp) {cf : Pair → Option Int} {c : Nat → Nat → Int} (hc : CfIs s cf c) :
    (∃ lo hi, q7 s.strips s.carried mp cf = some ⟨⟨lo, hi⟩, 0⟩ ∧ IsRange s c lo hi) ∨ (q7 s.strips s.carried mp cf = some ⟨⟨0, 0⟩, 7⟩ ∧ NoFit s) := by
  have hc2 : CfIs s (fun p : Pair => jT p cf) fun t k => - c t k := hc.neg fun p => rfl
  unfold q7
  rcases filled_min h hm hc.ok with ⟨l, y, h1, _, hg, _, h2, _, h3, h4⟩ | ⟨w, met, h1, _, h3⟩
  · left
    rcases filled_min h hm hc2.ok with ⟨l', y', g1, _, hg', _, g2, _, g3, g4⟩ | ⟨w, met, _, _, g3⟩
    · rw [h1, Option.bind_some, oc_inr, g1, Option.bind_some, oc_inr]
      simp only
      rw [hc.count] at h2
      rw [hc2.count, countS_neg] at g2
      have hb := costs_bound hg'.ok.2
      have hln := hg'.ok.1
      have e : costs l' = - countS s c y' := by
        have := Yl hg'.ok
        rw [this] at g2
        exact Option.some.inj g2
      rw [h2, Option.bind_some, g2, Option.bind_some, negc_eq (by omega), Option.bind_some, Int.neg_neg]
      refine ⟨_, _, rfl, ⟨y, h3, rfl⟩, ⟨y', g3, rfl⟩, fun z hz => ?_⟩
      have a := h4 z hz
      have b := g4 z hz
      rw [hc.count, hc.count] at a
      rw [hc2.count, hc2.count, countS_neg, countS_neg] at b
      omega
    · exact absurd h3 (g3 y)
  · right
    rcases filled_min h hm hc2.ok with ⟨l', y', g1, _, _, _, _, _, g3, _⟩ | ⟨w', met', g1, _, _⟩
    · exact absurd g3 (h3 y')
    · rw [h1, Option.bind_some, oc_inl, g1, Option.bind_some, oc_inl]
      exact ⟨rfl, h3⟩
theorem QW (st : List Strip) (ca : List Span) : JB st ca = some () := rfl
theorem Least_spec {s : Scalps} (h : Right s) : (∃ lo hi y, qZ s = some ⟨lo, 0, mat s.carried.length s.strips.length y⟩ ∧ FitsS s y ∧ countS s (thC s) y = lo ∧ IsRange s (thC s) lo hi) ∨ (qZ s = some ⟨0, 7, []⟩ ∧ NoFit s) := by
  obtain ⟨mp, hmp, hm⟩ := JZ h
  have hc := cf_theft s
  unfold qZ
  rw [hmp, Option.bind_some, oc_inr, QW, Option.bind_some]
  rcases filled_min h hm hc.ok with ⟨l, y, h1, _, hg, _, h2, h2', h3, h4⟩ | ⟨w, met, h1, _, h3⟩
  · left
    rw [h1, Option.bind_some, oc_inr]
    simp only
    rw [h2', Option.bind_some, h2, Option.bind_some, hc.count]
    rcases spread_spec h hm hc with ⟨lo, hi, _, hr⟩ | ⟨_, hn⟩
    · refine ⟨_, hi, y, rfl, h3, rfl, ?_⟩
      have : countS s (thC s) y = lo := by
        obtain ⟨⟨y1, f1, e1⟩, _, b⟩ := hr
        have a1 := h4 _ f1
        rw [hc.count, hc.count] at a1
        have := b _ h3
        omega
      rw [this]; exact hr
    · exact absurd h3 (hn y)
  · right
    rw [h1, Option.bind_some, oc_inl]
    exact ⟨rfl, h3⟩
theorem Least_wrong {s : Scalps} (h : chk s ≠ 0) : qZ s = some ⟨0, chk s, []⟩ := by
  unfold qZ
  rw [J2 h]; rfl
theorem Most_spec {s : Scalps} (h : Right s) : (∃ lo hi y, Js s = some ⟨hi, 0, mat s.carried.length s.strips.length y⟩ ∧ FitsS s y ∧ countS s (thC s) y = hi ∧ IsRange s (thC s) lo hi) ∨ (Js s = some ⟨0, 7, []⟩ ∧ NoFit s) := by
  obtain ⟨mp, hmp, hm⟩ := JZ h
  have hc := cf_theft s
  have hc2 : CfIs s (fun p : Pair => yK p (fun p_1 : Pair => jP p_1 s.strips s.carried)) fun t k => - thC s t k := hc.neg fun p => rfl
  unfold Js
  rw [hmp, Option.bind_some, oc_inr, QW, Option.bind_some]
  rcases filled_min h hm hc2.ok with ⟨l, y, h1, _, hg, _, h2, h2', h3, h4⟩ | ⟨w, met, h1, _, h3⟩
  · left
    rw [h1, Option.bind_some, oc_inr]
    simp only
    rw [hc2.count, countS_neg] at h2
    have hb := costs_bound hg.ok.2
    have hln := hg.ok.1
    have e : costs l = - countS s (thC s) y := by
      have := Yl hg.ok
      rw [this] at h2
      exact Option.some.inj h2
    rw [h2', Option.bind_some, h2, Option.bind_some, negc_eq (by omega), Option.bind_some, Int.neg_neg]
    rcases spread_spec h hm hc with ⟨lo, hi, _, hr⟩ | ⟨_, hn⟩
    · refine ⟨lo, _, y, rfl, h3, rfl, ?_⟩
      have : countS s (thC s) y = hi := by
        obtain ⟨_, ⟨y1, f1, e1⟩, b⟩ := hr
        have a1 := h4 _ f1
        rw [hc2.count, hc2.count, countS_neg, countS_neg] at a1
        have := b _ h3
        omega
      rw [this]; exact hr
    · exact absurd h3 (hn y)
  · right
    rw [h1, Option.bind_some, oc_inl]
    exact ⟨rfl, h3⟩
theorem Most_wrong {s : Scalps} (h : chk s ≠ 0) : Js s = some ⟨0, chk s, []⟩ := by
  unfold Js
  rw [J2 h]; rfl
theorem Shares_of {s : Scalps} {n e : Int} {y : List (List Int)} (h : qZ s = some ⟨n, e, y⟩) : Ju s = some ⟨e, y⟩ := by
  unfold Ju; rw [h]; rfl
end Go.Proofs.Ws

namespace Go.Proofs.Ws
open Go Go.Fw Go.Gx Go.Sp
def gtI (l : List Int) (j : Nat) : Int := l.getD j 0
def ascB (l : List Int) : Bool := (List.range (l.length - 1)).all fun j => decide (gtI l j < gtI l (j + 1))
def hasZ (l : List Int) (v : Nat) : Bool := l.any fun x => decide ((v : Int) = x)
def reI (mp : List (Pair × Bool)) (t k : Int) : Bool := (aget mp ⟨t, k⟩).getD false
def needT (s : Scalps) (l : List Int) (t : Nat) : Int := if hasZ l t = true then (hOf s.carried t).lo else 0
def canT (s : Scalps) (mp : List (Pair × Bool)) (l : List Int) (k : Nat) : Int := if (l.any fun t => reI mp t (k : Int)) = true then (gOf s.strips k).hi else 0
def needK (s : Scalps) (l : List Int) (k : Nat) : Int := if hasZ l k = true then (gOf s.strips k).lo else 0
def canK (s : Scalps) (mp : List (Pair × Bool)) (l : List Int) (t : Nat) : Int := if (l.any fun k => reI mp (t : Int) k) = true then (hOf s.carried t).hi else 0
def lackV (s : Scalps) (mp : List (Pair × Bool)) (l : Lack) : Int :=
  if l.tenants = true then sumTo (needT s l.of_) s.carried.length - sumTo (canT s mp l.of_) s.strips.length
  else sumTo (needK s l.of_) s.strips.length - sumTo (canK s mp l.of_) s.carried.length
theorem sumTo_bound {f : Nat → Int} {b : Int} : ∀ {n : Nat}, (∀ j, j < n → 0 ≤ f j ∧ f j ≤ b) → 0 ≤ sumTo f n ∧ sumTo f n ≤ b * (n : Int)
  | 0, _ => by simp [sumTo]
  | n + 1, h => by
    have ih := sumTo_bound (n := n) (fun j hj => h j (by omega))
    have := h n (by omega)
    simp only [sumTo]
    rw [show ((n + 1 : Nat) : Int) = (n : Int) + 1 by omega, Int.mul_add, Int.mul_one]
    omega
end Go.Proofs.Ws

