/- What the functions that the law BranchCells reaches come to, and why it holds: part 8. -/
import Derived.Test.YtpjnpibgnkgnaaaGreatBranchCells7
import Derived.Deep.Slices
import Derived.ChangeArms
namespace Go.Proofs.Wb
set_option maxHeartbeats 4000000
set_option maxRecDepth 100000
open Go Go.Fw Go.Gx Go.Sb
open Tryz
set_option linter.unusedVariables false
structure KZ where
  own7 : Channel
  x8 : Channel
def yO : Plan := (.one 1 (.one 3 (.one 6 (.one 7 .done))))
def yL : Plan := (.br (.alt 3 (.one 4 (.one 6 (.one 7 .done))) (.alt 4 (.one 3 (.one 6 (.one 7 .done))) .nil)))
def K3 : Plan := (.br (.alt 1 yL (.alt 4 yO .nil)))
def yM : Plan := (.br (.alt 3 (.one 5 (.one 6 (.one 7 .done))) (.alt 5 (.one 3 (.one 6 (.one 7 .done))) .nil)))
def KY : Plan := (.br (.alt 1 yM (.alt 5 yO .nil)))
def K0 : Plan := (.br (.alt 4 (.one 5 (.one 6 (.one 7 .done))) (.alt 5 (.one 4 (.one 6 (.one 7 .done))) .nil)))
def K2 : Plan := (.br (.alt 3 K0 (.alt 4 yM (.alt 5 yL .nil))))
structure Jc where
  sure13 : (List Int)
  bare14 : (List Int)
def yh (c0 : Channel) (after1 : Int) (ford2 : Int) : Option Bool :=
 (zt c0).bind fun t22 =>
 if t22 = true then
 ((yX).bind fun t23 =>
 some t23) else
 (((zN c0).bind fun t25 =>
 (yI c0).bind fun t27 =>
 some (⟨t25, t27⟩ : KZ)).bind fun o =>
 (yc o.x8).bind fun t29 =>
 ((if t29 = 0 then
 (if after1 < 0 then
 (some true) else
 (some (decide (c0.tides < after1)))) else
 (some false)).bind fun o_2 =>
 if o_2 = true then
 (some 3) else
 (some t29)).bind fun o_1 =>
 ((if o_1 = 0 then
 (if ford2 < 0 then
 (some true) else
 (some (decide ((c0.fords.length : Int) ≤ ford2)))) else
 (some false)).bind fun o_4 =>
 if o_4 = true then
 (some 1) else
 (some o_1)).bind fun o_3 =>
 ((yc o.x8).bind fun t57 =>
 if t57 = 0 then
 ((kf o.x8).bind fun t62 =>
 (ya o.x8 t62).bind fun t63 =>
 some (decide (t63 = 0))) else
 (some false)).bind fun o_5 =>
 ((if o_1 = 0 then
 (some o_5) else
 (some false)).bind fun o_7 =>
 if o_7 = true then
 (some 7) else
 (some o_1)).bind fun o_6 =>
 ((if o_3 = 0 then
 (some o_5) else
 (some false)).bind fun o_9 =>
 if o_9 = true then
 (some 7) else
 (some o_3)).bind fun o_8 =>
 (if o_8 = 0 then
 ((yY o.x8 after1 ford2).bind fun t81 =>
 some t81) else
 (some [])).bind fun o_10 =>
 (if o_6 = 0 then
 ((yJ o.x8 after1).bind fun t87 =>
 some (⟨t87.r0, t87.r1⟩ : Jc)) else
 (some (⟨[], []⟩ : Jc))).bind fun o_11 =>
 (zA o.own7 after1 ford2).bind fun t94 =>
 (Kx o.own7 after1).bind fun t100 =>
 (Kz o.own7 after1).bind fun t106 =>
 (if t94.r1 = o_8 then
 (if t100.r1 = o_6 then
 (if t106.r1 = o_6 then
 ((zQ t94.r0 o_10).bind fun t125 =>
 if t125 = true then
 ((zQ t100.r0 o_11.sure13).bind fun t130 =>
 if t130 = true then
 ((zQ t106.r0 o_11.bare14).bind fun t135 =>
 if t135 = true then
 ((zq o.own7 c0).bind fun t140 =>
 if t140 = true then
 ((yX).bind fun t143 =>
 some t143) else
 (some false)) else
 (some false)) else
 (some false)) else
 (some false)) else
 (some false)) else
 (some false)) else
 (some false)).bind fun o_12 =>
 some o_12)
theorem QD (c0 : Channel) (after1 : Int) (ford2 : Int) (qa0 : Option Addr) (na0 ca0 : Nat) (qa1 : Option Addr) (na1 ca1 : Nat) (qa2 : Option Addr) (na2 ca2 : Nat) (w : World) (hw : HV w (keys [] []) [] [] [(aB qa0, aO qa0, RI.enc c0.fords), (aB qa1, aO qa1, RSa.enc c0.sands), (aB qa2, aO qa2, RSi.enc c0.sights)] w) (hna0 : c0.fords.length = na0) (hqa0 : AOK na0 qa0) (hla0 : na0 ≤ ca0) (hna1 : c0.sands.length = na1) (hqa1 : AOK na1 qa1) (hla1 : na1 ≤ ca1) (hna2 : c0.sights.length = na2) (hqa2 : AOK na2 qa2) (hla2 : na2 ≤ ca2) {res : Bool} (hm : yh c0 after1 ford2 = some res) :
    Calls Tryz.prog 5 #[.agg #[.int .i64 c0.cells, .int .i64 c0.tides, .slice qa0 na0 ca0, .slice qa1 na1 ca1, .slice qa2 na2 ca2], .int .i64 after1, .int .i64 ford2] w (fun en w' => ∃ l : Unit, en = .returned (.bool res) ∧ (True) ∧ HV w (keys [] []) [] [] [] w') := by
  unfold yh at hm
  refine qU func5 Y ntmps5 Y (e := [(0, _), (1, _), (2, _)]) Y hw (jr ?_)
  refine jI Y Y (fun b h1 => ?_)
  refine jm Y Y (jp (jj (jr (zT [_, _, _, _, _] 0 isAgg26 sizeOf26 Y Y Y Y ?_))))
  obtain ⟨t22, h2, hm⟩ := bindO hm
  refine jd [] [] Y Y Y Y Y Y Y call18 (fun w hh => YY c0 qa0 na0 ca0 qa1 na1 ca1 qa2 na2 ca2 w (HV.callee (S0 := []) (vs0 := []) hh (roR hh 0 Y (roR hh 1 Y (roR hh 2 Y roN)))) hna0 hqa0 hla0 hna1 hqa1 hla1 hna2 hqa2 hla2 h2) (fun l h3 => ?_)
  refine jp ?_
  refine jt Y (fun h4 => ?_) (fun h4 => ?_)
  ·replace hm := ifT (h4) hm
   refine jr ?_
   obtain ⟨t23, h5, hm⟩ := bindO hm
   refine jd [] [] Y Y Y Y Y Y Y call19 (fun w hh => Qe  w (HV.callee (S0 := []) (vs0 := []) hh roN)  h5) (fun l_1 h6 => ?_)
   refine jm Y Y (jp (jw (jg ?_)))
   obtain rfl := sj hm
   refine jn Y (fun w hh => (.tmp Y .nil)) (fun w hh => ⟨(), rfl, trivial, hh.se [] [] 3 Y Y Y rfl⟩)
  replace hm := ifN h4 hm
  refine js (ja (jj ?_))
  obtain ⟨o, h7, h8⟩ := bindO hm
  refine jE (ι := Nat × Nat × VL × VL × VL × VL × VL × VL) (fun l_2 => VOK 1 l_2.2.2.1.n l_2.2.2.1.cap (RI.enc o.own7.fords) l_2.2.2.1.sp l_2.2.2.1.q ∧ VOK 3 l_2.2.2.2.1.n l_2.2.2.2.1.cap (RSa.enc o.own7.sands) l_2.2.2.2.1.sp l_2.2.2.2.1.q ∧ VOK 3 l_2.2.2.2.2.1.n l_2.2.2.2.2.1.cap (RSi.enc o.own7.sights) l_2.2.2.2.2.1.sp l_2.2.2.2.2.1.q ∧ VOK 1 l_2.2.2.2.2.2.1.n l_2.2.2.2.2.2.1.cap (RI.enc o.x8.fords) l_2.2.2.2.2.2.1.sp l_2.2.2.2.2.2.1.q ∧ VOK 3 l_2.2.2.2.2.2.2.1.n l_2.2.2.2.2.2.2.1.cap (RSa.enc o.x8.sands) l_2.2.2.2.2.2.2.1.sp l_2.2.2.2.2.2.2.1.q ∧ VOK 3 l_2.2.2.2.2.2.2.2.n l_2.2.2.2.2.2.2.2.cap (RSi.enc o.x8.sights) l_2.2.2.2.2.2.2.2.sp l_2.2.2.2.2.2.2.2.q) (fun l_2 => [(1, .int .i64 after1), (2, .int .i64 ford2), (3, ptr b 0), (7, ptr l_2.1 0), (8, ptr l_2.2.1 0)]) (fun l_2 => [kc b #[.int .i64 c0.cells, .int .i64 c0.tides, .slice qa0 na0 ca0, .slice qa1 na1 ca1, .slice qa2 na2 ca2] 26, kc l_2.1 #[.int .i64 o.own7.cells, .int .i64 o.own7.tides, sL l_2.2.2.1, sL l_2.2.2.2.1, sL l_2.2.2.2.2.1] 26, kc l_2.2.1 #[.int .i64 o.x8.cells, .int .i64 o.x8.tides, sL l_2.2.2.2.2.2.1, sL l_2.2.2.2.2.2.2.1, sL l_2.2.2.2.2.2.2.2] 33]) (fun l_2 => [vL 3 l_2.2.2.1 (RI.enc o.own7.fords), vL 98 l_2.2.2.2.1 (RSa.enc o.own7.sands), vL 55 l_2.2.2.2.2.1 (RSi.enc o.own7.sights), vL 3 l_2.2.2.2.2.2.1 (RI.enc o.x8.fords), vL 138 l_2.2.2.2.2.2.2.1 (RSa.enc o.x8.sands), vL 139 l_2.2.2.2.2.2.2.2 (RSi.enc o.x8.sights)]) ?_ ?_
  ·replace hm := h7
   obtain ⟨t25, h15, hm⟩ := bindO hm
   obtain ⟨t27, h16, hm⟩ := bindO hm
   refine kn none (.hoist 0 (.hoist 2 (.br (.alt 1 K2 (.alt 4 KY (.alt 5 K3 .nil)))))) _ Y (by decide +kernel) (fun w k hh => hh.draw k) (fun w hh => hh) ?_
   refine jy Y Y Y Y (fun w hh => jN (vs := [_, _, _, _, _]) (isAgg26 w) (sizeOf26 w) Y (hh.cells 0 Y Y)) (jy Y Y Y Y (fun w hh => jN (vs := [_, _, _, _, _]) (isAgg26 w) (sizeOf26 w) Y (hh.cells 0 Y Y)) ?_)
   refine zz (.one 7 .done) (fun g => ∀ (b_1 : Nat) (b_2 : Nat) (L : VL) (L_1 : VL) (L_2 : VL) (L_3 : VL) (L_4 : VL) (L_5 : VL), vk 1 L (RI.enc t27.fords) → vk 3 L_1 (RSa.enc t27.sands) → vk 3 L_2 (RSi.enc t27.sights) → vk 1 L_3 (RI.enc t25.fords) → vk 3 L_4 (RSa.enc t25.sands) → vk 3 L_5 (RSi.enc t25.sights) → g [(1, .int .i64 after1), (2, .int .i64 ford2), (3, ptr b 0), (7, ptr b_1 0), (8, ptr b_2 0), (27, .agg #[.int .i64 t27.cells, .int .i64 t27.tides, sL L, sL L_1, sL L_2])] [kc b #[.int .i64 c0.cells, .int .i64 c0.tides, .slice qa0 na0 ca0, .slice qa1 na1 ca1, .slice qa2 na2 ca2] 26, kc b_1 #[.int .i64 t25.cells, .int .i64 t25.tides, sL L_3, sL L_4, sL L_5] 26, kc b_2 #[.int .i64 0, .int .i64 0, slv none 0 0, slv none 0 0, slv none 0 0] 33] [vL 3 L (RI.enc t27.fords), vL 138 L_1 (RSa.enc t27.sands), vL 139 L_2 (RSi.enc t27.sights), vL 3 L_3 (RI.enc t25.fords), vL 98 L_4 (RSa.enc t25.sands), vL 55 L_5 (RSi.enc t25.sights)]) ?_ (fun h23 => ?_)
   ·intro b_1 b_2 L L_1 L_2 L_3 L_4 L_5 h17 h18 h19 h20 h21 h22
    refine jK Y (kv (us := #[_, _, _, _, _]) (cs' := [_, _, _, _, _]) (S' := [_, _, _]) 2 (fun w => sizeOf33 w) Y Y Y Y Y Y Y (jq (hsE [0] [] 0 Y Y Y Y) (jO ?_)))
    obtain rfl := sj hm
    exact ji (b_1, b_2, L_3, L_4, L_5, L, L_1, L_2) (⟨h20, h21, h22, h17, h18, h19⟩) (sE Y) (hsE [0, 1, 2] [3, 4, 5, 0, 1, 2] 0 Y Y Y Y)
   refine zz (.one 6 (.one 7 .done)) (fun g => ∀ (b_3 : Nat) (b_4 : Nat) (L_6 : VL) (L_7 : VL) (L_8 : VL) (L_9 : VL) (L_10 : VL) (L_11 : VL), vk 1 L_6 (RI.enc t25.fords) → vk 3 L_7 (RSa.enc t25.sands) → vk 3 L_8 (RSi.enc t25.sights) → vk 1 L_9 (RI.enc t27.fords) → vk 3 L_10 (RSa.enc t27.sands) → vk 3 L_11 (RSi.enc t27.sights) → g [(1, .int .i64 after1), (2, .int .i64 ford2), (3, ptr b 0), (7, ptr b_3 0), (8, ptr b_4 0), (25, .agg #[.int .i64 t25.cells, .int .i64 t25.tides, sL L_6, sL L_7, sL L_8]), (27, .agg #[.int .i64 t27.cells, .int .i64 t27.tides, sL L_9, sL L_10, sL L_11])] [kc b #[.int .i64 c0.cells, .int .i64 c0.tides, .slice qa0 na0 ca0, .slice qa1 na1 ca1, .slice qa2 na2 ca2] 26, kc b_3 #[.int .i64 0, .int .i64 0, slv none 0 0, slv none 0 0, slv none 0 0] 26, kc b_4 #[.int .i64 0, .int .i64 0, slv none 0 0, slv none 0 0, slv none 0 0] 33] [vL 3 L_6 (RI.enc t25.fords), vL 98 L_7 (RSa.enc t25.sands), vL 55 L_8 (RSi.enc t25.sights), vL 3 L_9 (RI.enc t27.fords), vL 138 L_10 (RSa.enc t27.sands), vL 139 L_11 (RSi.enc t27.sights)]) ?_ (fun h30 => ?_)
   intro b_3 b_4 L_6 L_7 L_8 L_9 L_10 L_11 h24 h25 h26 h27 h28 h29
   refine jK Y (kv (us := #[_, _, _, _, _]) (cs' := [_, _, _, _, _]) (S' := [_, _, _]) 1 (fun w => sizeOf26 w) Y Y Y Y Y Y Y (jq (hsE [0] [] 0 Y Y Y Y) ?_))
   exact zO (h23 b_3 b_4 L_9 L_10 L_11 L_6 L_7 L_8 h27 h28 h29 h24 h25 h26) (sE Y) (hsE [0, 1, 2] [3, 4, 5, 0, 1, 2] 0 Y Y Y Y)
   refine zz (.one 3 (.one 6 (.one 7 .done))) (fun g => ∀ (b_5 : Nat) (b_6 : Nat) (L_12 : VL) (L_13 : VL) (L_14 : VL), vk 1 L_12 (RI.enc t25.fords) → vk 3 L_13 (RSa.enc t25.sands) → vk 3 L_14 (RSi.enc t25.sights) → g [(1, .int .i64 after1), (2, .int .i64 ford2), (3, ptr b 0), (7, ptr b_5 0), (8, ptr b_6 0), (25, .agg #[.int .i64 t25.cells, .int .i64 t25.tides, sL L_12, sL L_13, sL L_14]), (26, .agg #[.int .i64 c0.cells, .int .i64 c0.tides, .slice qa0 na0 ca0, .slice qa1 na1 ca1, .slice qa2 na2 ca2])] [kc b #[.int .i64 c0.cells, .int .i64 c0.tides, .slice qa0 na0 ca0, .slice qa1 na1 ca1, .slice qa2 na2 ca2] 26, kc b_5 #[.int .i64 0, .int .i64 0, slv none 0 0, slv none 0 0, slv none 0 0] 26, kc b_6 #[.int .i64 0, .int .i64 0, slv none 0 0, slv none 0 0, slv none 0 0] 33] [vL 3 L_12 (RI.enc t25.fords), vL 98 L_13 (RSa.enc t25.sands), vL 55 L_14 (RSi.enc t25.sights)]) ?_ (fun h34 => ?_)
   ·intro b_5 b_6 L_12 L_13 L_14 h31 h32 h33
    refine jK Y ?_
    refine jd [] [] Y Y Y Y Y Y Y call21 (fun w hh => zH c0 qa0 na0 ca0 qa1 na1 ca1 qa2 na2 ca2 w (HV.callee (S0 := []) (vs0 := []) hh (roR hh 0 Y (roR hh 1 Y (roR hh 2 Y roN)))) hna0 hqa0 hla0 hna1 hqa1 hla1 hna2 hqa2 hla2 h16) (fun l_3 h35 => ?_)
    obtain ⟨h36, h37, h38⟩ := h35
    refine kC (S' := [_, _, _]) (vs' := [_, _, _, _, _, _]) [0, 1, 2] [0, 1, 2, 3, 4, 5] 0 Y Y Y Y (jq (hsE [0] [] 0 Y Y Y Y) ?_)
    exact zO (h30 b_5 b_6 L_12 L_13 L_14 l_3.1 l_3.2.1 l_3.2.2 h31 h32 h33 h36 h37 h38) (sE Y) (hsE [0, 1, 2] [3, 4, 5, 0, 1, 2] 0 Y Y Y Y)
   refine zz (.one 4 (.one 6 (.one 7 .done))) (fun g => ∀ (b_7 : Nat) (L_15 : VL) (L_16 : VL) (L_17 : VL) (L_18 : VL) (L_19 : VL) (L_20 : VL), vk 1 L_15 (RI.enc t25.fords) → vk 3 L_16 (RSa.enc t25.sands) → vk 3 L_17 (RSi.enc t25.sights) → vk 1 L_18 (RI.enc t27.fords) → vk 3 L_19 (RSa.enc t27.sands) → vk 3 L_20 (RSi.enc t27.sights) → g [(1, .int .i64 after1), (2, .int .i64 ford2), (3, ptr b 0), (8, ptr b_7 0), (25, .agg #[.int .i64 t25.cells, .int .i64 t25.tides, sL L_15, sL L_16, sL L_17]), (27, .agg #[.int .i64 t27.cells, .int .i64 t27.tides, sL L_18, sL L_19, sL L_20])] [kc b #[.int .i64 c0.cells, .int .i64 c0.tides, .slice qa0 na0 ca0, .slice qa1 na1 ca1, .slice qa2 na2 ca2] 26, kc b_7 #[.int .i64 0, .int .i64 0, slv none 0 0, slv none 0 0, slv none 0 0] 33] [vL 3 L_15 (RI.enc t25.fords), vL 98 L_16 (RSa.enc t25.sands), vL 55 L_17 (RSi.enc t25.sights), vL 3 L_18 (RI.enc t27.fords), vL 138 L_19 (RSa.enc t27.sands), vL 139 L_20 (RSi.enc t27.sights)]) ?_ (fun h45 => ?_)
   intro b_7 L_15 L_16 L_17 L_18 L_19 L_20 h39 h40 h41 h42 h43 h44
   refine jK Y ?_
   refine jx (fun w => zeroValue26 w) Y (fun b_8 h46 => ?_)
   refine jq (hsE [1] [] 0 Y Y Y Y) ?_
   exact zO (h30 b_8 b_7 L_15 L_16 L_17 L_18 L_19 L_20 h39 h40 h41 h42 h43 h44) (sE Y) (hsE [1, 0, 2] [0, 1, 2, 3, 4, 5] 0 Y Y Y Y)
   refine zz (.one 5 (.one 6 (.one 7 .done))) (fun g => ∀ (b_9 : Nat) (L_21 : VL) (L_22 : VL) (L_23 : VL) (L_24 : VL) (L_25 : VL) (L_26 : VL), vk 1 L_21 (RI.enc t25.fords) → vk 3 L_22 (RSa.enc t25.sands) → vk 3 L_23 (RSi.enc t25.sights) → vk 1 L_24 (RI.enc t27.fords) → vk 3 L_25 (RSa.enc t27.sands) → vk 3 L_26 (RSi.enc t27.sights) → g [(1, .int .i64 after1), (2, .int .i64 ford2), (3, ptr b 0), (7, ptr b_9 0), (25, .agg #[.int .i64 t25.cells, .int .i64 t25.tides, sL L_21, sL L_22, sL L_23]), (27, .agg #[.int .i64 t27.cells, .int .i64 t27.tides, sL L_24, sL L_25, sL L_26])] [kc b #[.int .i64 c0.cells, .int .i64 c0.tides, .slice qa0 na0 ca0, .slice qa1 na1 ca1, .slice qa2 na2 ca2] 26, kc b_9 #[.int .i64 0, .int .i64 0, slv none 0 0, slv none 0 0, slv none 0 0] 26] [vL 3 L_21 (RI.enc t25.fords), vL 98 L_22 (RSa.enc t25.sands), vL 55 L_23 (RSi.enc t25.sights), vL 3 L_24 (RI.enc t27.fords), vL 138 L_25 (RSa.enc t27.sands), vL 139 L_26 (RSi.enc t27.sights)]) ?_ (fun h53 => ?_)
   ·intro b_9 L_21 L_22 L_23 L_24 L_25 L_26 h47 h48 h49 h50 h51 h52
    refine jK Y ?_
    refine jx (fun w => zeroValue33 w) Y (fun b_10 h54 => ?_)
    refine jq (hsE [1] [] 0 Y Y Y Y) ?_
    exact zO (h30 b_9 b_10 L_21 L_22 L_23 L_24 L_25 L_26 h47 h48 h49 h50 h51 h52) (sE Y) (hsE [1, 2, 0] [0, 1, 2, 3, 4, 5] 0 Y Y Y Y)
   refine zz yO (fun g => ∀ (b_11 : Nat) (b_12 : Nat), g [(1, .int .i64 after1), (2, .int .i64 ford2), (3, ptr b 0), (7, ptr b_11 0), (8, ptr b_12 0), (24, .agg #[.int .i64 c0.cells, .int .i64 c0.tides, .slice qa0 na0 ca0, .slice qa1 na1 ca1, .slice qa2 na2 ca2]), (26, .agg #[.int .i64 c0.cells, .int .i64 c0.tides, .slice qa0 na0 ca0, .slice qa1 na1 ca1, .slice qa2 na2 ca2])] [kc b #[.int .i64 c0.cells, .int .i64 c0.tides, .slice qa0 na0 ca0, .slice qa1 na1 ca1, .slice qa2 na2 ca2] 26, kc b_11 #[.int .i64 0, .int .i64 0, slv none 0 0, slv none 0 0, slv none 0 0] 26, kc b_12 #[.int .i64 0, .int .i64 0, slv none 0 0, slv none 0 0, slv none 0 0] 33] []) ?_ (fun h55 => ?_)
   intro b_11 b_12
   refine jK Y ?_
   refine jd [] [] Y Y Y Y Y Y Y call20 (fun w hh => JK c0 qa0 na0 ca0 qa1 na1 ca1 qa2 na2 ca2 w (HV.callee (S0 := []) (vs0 := []) hh (roR hh 0 Y (roR hh 1 Y (roR hh 2 Y roN)))) hna0 hqa0 hla0 hna1 hqa1 hla1 hna2 hqa2 hla2 h15) (fun l_4 h56 => ?_)
   obtain ⟨h57, h58, h59⟩ := h56
   refine kC (S' := [_, _, _]) (vs' := [_, _, _]) [0, 1, 2] [0, 1, 2] 0 Y Y Y Y (jq (hsE [0] [] 0 Y Y Y Y) ?_)
   exact zO (h34 b_11 b_12 l_4.1 l_4.2.1 l_4.2.2 h57 h58 h59) (sE Y) (fun w hh => hh)
   refine zz yL (fun g => ∀ (b_13 : Nat) (L_27 : VL) (L_28 : VL) (L_29 : VL), vk 1 L_27 (RI.enc t25.fords) → vk 3 L_28 (RSa.enc t25.sands) → vk 3 L_29 (RSi.enc t25.sights) → g [(1, .int .i64 after1), (2, .int .i64 ford2), (3, ptr b 0), (8, ptr b_13 0), (25, .agg #[.int .i64 t25.cells, .int .i64 t25.tides, sL L_27, sL L_28, sL L_29]), (26, .agg #[.int .i64 c0.cells, .int .i64 c0.tides, .slice qa0 na0 ca0, .slice qa1 na1 ca1, .slice qa2 na2 ca2])] [kc b #[.int .i64 c0.cells, .int .i64 c0.tides, .slice qa0 na0 ca0, .slice qa1 na1 ca1, .slice qa2 na2 ca2] 26, kc b_13 #[.int .i64 0, .int .i64 0, slv none 0 0, slv none 0 0, slv none 0 0] 33] [vL 3 L_27 (RI.enc t25.fords), vL 98 L_28 (RSa.enc t25.sands), vL 55 L_29 (RSi.enc t25.sights)]) ?_ (fun h63 => ?_)
   ·intro b_13 L_27 L_28 L_29 h60 h61 h62
    refine Zu ?_
    refine yH Y ?_ ?_
    ·refine jd [] [] Y Y Y Y Y Y Y call21 (fun w hh => zH c0 qa0 na0 ca0 qa1 na1 ca1 qa2 na2 ca2 w (HV.callee (S0 := []) (vs0 := []) hh (roR hh 0 Y (roR hh 1 Y (roR hh 2 Y roN)))) hna0 hqa0 hla0 hna1 hqa1 hla1 hna2 hqa2 hla2 h16) (fun l_5 h64 => ?_)
     obtain ⟨h65, h66, h67⟩ := h64
     refine kC (S' := [_, _]) (vs' := [_, _, _, _, _, _]) [0, 1] [0, 1, 2, 3, 4, 5] 0 Y Y Y Y (jq (hsE [0] [] 0 Y Y Y Y) ?_)
     exact zO (h45 b_13 L_27 L_28 L_29 l_5.1 l_5.2.1 l_5.2.2 h60 h61 h62 h65 h66 h67) (sE Y) (hsE [0, 1] [3, 4, 5, 0, 1, 2] 0 Y Y Y Y)
    refine yH Y ?_ ?_
    refine jx (fun w => zeroValue26 w) Y (fun b_14 h68 => ?_)
    refine jq (hsE [1] [] 0 Y Y Y Y) ?_
    exact zO (h34 b_14 b_13 L_27 L_28 L_29 h60 h61 h62) (sE Y) (hsE [1, 0, 2] [0, 1, 2] 0 Y Y Y Y)
    exact Qa
   refine zz yM (fun g => ∀ (b_15 : Nat) (L_30 : VL) (L_31 : VL) (L_32 : VL), vk 1 L_30 (RI.enc t25.fords) → vk 3 L_31 (RSa.enc t25.sands) → vk 3 L_32 (RSi.enc t25.sights) → g [(1, .int .i64 after1), (2, .int .i64 ford2), (3, ptr b 0), (7, ptr b_15 0), (25, .agg #[.int .i64 t25.cells, .int .i64 t25.tides, sL L_30, sL L_31, sL L_32]), (26, .agg #[.int .i64 c0.cells, .int .i64 c0.tides, .slice qa0 na0 ca0, .slice qa1 na1 ca1, .slice qa2 na2 ca2])] [kc b #[.int .i64 c0.cells, .int .i64 c0.tides, .slice qa0 na0 ca0, .slice qa1 na1 ca1, .slice qa2 na2 ca2] 26, kc b_15 #[.int .i64 0, .int .i64 0, slv none 0 0, slv none 0 0, slv none 0 0] 26] [vL 3 L_30 (RI.enc t25.fords), vL 98 L_31 (RSa.enc t25.sands), vL 55 L_32 (RSi.enc t25.sights)]) ?_ (fun h72 => ?_)
   intro b_15 L_30 L_31 L_32 h69 h70 h71
   refine Zu ?_
   refine yH Y ?_ ?_
   ·refine jd [] [] Y Y Y Y Y Y Y call21 (fun w hh => zH c0 qa0 na0 ca0 qa1 na1 ca1 qa2 na2 ca2 w (HV.callee (S0 := []) (vs0 := []) hh (roR hh 0 Y (roR hh 1 Y (roR hh 2 Y roN)))) hna0 hqa0 hla0 hna1 hqa1 hla1 hna2 hqa2 hla2 h16) (fun l_6 h73 => ?_)
    obtain ⟨h74, h75, h76⟩ := h73
    refine kC (S' := [_, _]) (vs' := [_, _, _, _, _, _]) [0, 1] [0, 1, 2, 3, 4, 5] 0 Y Y Y Y (jq (hsE [0] [] 0 Y Y Y Y) ?_)
    exact zO (h53 b_15 L_30 L_31 L_32 l_6.1 l_6.2.1 l_6.2.2 h69 h70 h71 h74 h75 h76) (sE Y) (hsE [0, 1] [3, 4, 5, 0, 1, 2] 0 Y Y Y Y)
   refine yH Y ?_ ?_
   refine jx (fun w => zeroValue33 w) Y (fun b_16 h77 => ?_)
   refine jq (hsE [1] [] 0 Y Y Y Y) ?_
   exact zO (h34 b_15 b_16 L_30 L_31 L_32 h69 h70 h71) (sE Y) (hsE [1, 2, 0] [0, 1, 2] 0 Y Y Y Y)
   exact Qa
   refine Zu ?_
   refine yH Y ?_ ?_
   ·refine jd [] [] Y Y Y Y Y Y Y call20 (fun w hh => JK c0 qa0 na0 ca0 qa1 na1 ca1 qa2 na2 ca2 w (HV.callee (S0 := []) (vs0 := []) hh (roR hh 0 Y (roR hh 1 Y (roR hh 2 Y roN)))) hna0 hqa0 hla0 hna1 hqa1 hla1 hna2 hqa2 hla2 h15) (fun l_7 h78 => ?_)
    obtain ⟨h79, h80, h81⟩ := h78
    refine kC (S' := [_]) (vs' := [_, _, _]) [0] [0, 1, 2] 0 Y Y Y Y (jq (hsE [0] [] 0 Y Y Y Y) (Zu ?_))
    refine yH Y ?_ ?_
    ·refine jd [] [] Y Y Y Y Y Y Y call21 (fun w hh => zH c0 qa0 na0 ca0 qa1 na1 ca1 qa2 na2 ca2 w (HV.callee (S0 := []) (vs0 := []) hh (roR hh 0 Y (roR hh 1 Y (roR hh 2 Y roN)))) hna0 hqa0 hla0 hna1 hqa1 hla1 hna2 hqa2 hla2 h16) (fun l_8 h82 => ?_)
     obtain ⟨h83, h84, h85⟩ := h82
     refine kC (S' := [_]) (vs' := [_, _, _, _, _, _]) [0] [0, 1, 2, 3, 4, 5] 0 Y Y Y Y (jq (hsE [0] [] 0 Y Y Y Y) (Zu ?_))
     refine yH Y ?_ ?_
     ·refine jx (fun w => zeroValue26 w) Y (fun b_17 h86 => ?_)
      refine jq (hsE [1] [] 0 Y Y Y Y) ?_
      exact zO (h53 b_17 l_7.1 l_7.2.1 l_7.2.2 l_8.1 l_8.2.1 l_8.2.2 h79 h80 h81 h83 h84 h85) (sE Y) (hsE [1, 0] [3, 4, 5, 0, 1, 2] 0 Y Y Y Y)
     refine yH Y ?_ ?_
     refine jx (fun w => zeroValue33 w) Y (fun b_18 h87 => ?_)
     refine jq (hsE [1] [] 0 Y Y Y Y) ?_
     exact zO (h45 b_18 l_7.1 l_7.2.1 l_7.2.2 l_8.1 l_8.2.1 l_8.2.2 h79 h80 h81 h83 h84 h85) (sE Y) (hsE [1, 0] [3, 4, 5, 0, 1, 2] 0 Y Y Y Y)
     exact Qa
    refine yH Y ?_ ?_
    refine jx (fun w => zeroValue26 w) Y (fun b_19 h88 => ?_)
    refine jq (hsE [1] [] 0 Y Y Y Y) ?_
    exact zO (h72 b_19 l_7.1 l_7.2.1 l_7.2.2 h79 h80 h81) (sE Y) (hsE [1, 0] [0, 1, 2] 0 Y Y Y Y)
    refine yH Y ?_ ?_
    ·refine jx (fun w => zeroValue33 w) Y (fun b_20 h89 => ?_)
     refine jq (hsE [1] [] 0 Y Y Y Y) ?_
     exact zO (h63 b_20 l_7.1 l_7.2.1 l_7.2.2 h79 h80 h81) (sE Y) (hsE [1, 0] [0, 1, 2] 0 Y Y Y Y)
    exact Qa
   refine yH Y ?_ ?_
   refine jx (fun w => zeroValue26 w) Y (fun b_21 h90 => ?_)
   refine jq (hsE [1] [] 0 Y Y Y Y) (Zu ?_)
   refine yH Y ?_ ?_
   ·refine jd [] [] Y Y Y Y Y Y Y call20 (fun w hh => JK c0 qa0 na0 ca0 qa1 na1 ca1 qa2 na2 ca2 w (HV.callee (S0 := []) (vs0 := []) hh (roR hh 0 Y (roR hh 1 Y (roR hh 2 Y roN)))) hna0 hqa0 hla0 hna1 hqa1 hla1 hna2 hqa2 hla2 h15) (fun l_9 h91 => ?_)
    obtain ⟨h92, h93, h94⟩ := h91
    refine kC (S' := [_, _]) (vs' := [_, _, _]) [0, 1] [0, 1, 2] 0 Y Y Y Y (jq (hsE [1] [] 0 Y Y Y Y) ?_)
    exact zO (h72 b_21 l_9.1 l_9.2.1 l_9.2.2 h92 h93 h94) (sE Y) (hsE [1, 0] [0, 1, 2] 0 Y Y Y Y)
   refine yH Y ?_ ?_
   refine jx (fun w => zeroValue33 w) Y (fun b_22 h95 => ?_)
   refine jq (hsE [2] [] 0 Y Y Y Y) ?_
   exact zO (h55 b_21 b_22) (sE Y) (hsE [2, 1, 0] [] 0 Y Y Y Y)
   exact Qa
   refine yH Y ?_ ?_
   ·refine jx (fun w => zeroValue33 w) Y (fun b_23 h96 => ?_)
    refine jq (hsE [1] [] 0 Y Y Y Y) (Zu ?_)
    refine yH Y ?_ ?_
    ·refine jd [] [] Y Y Y Y Y Y Y call20 (fun w hh => JK c0 qa0 na0 ca0 qa1 na1 ca1 qa2 na2 ca2 w (HV.callee (S0 := []) (vs0 := []) hh (roR hh 0 Y (roR hh 1 Y (roR hh 2 Y roN)))) hna0 hqa0 hla0 hna1 hqa1 hla1 hna2 hqa2 hla2 h15) (fun l_10 h97 => ?_)
     obtain ⟨h98, h99, h100⟩ := h97
     refine kC (S' := [_, _]) (vs' := [_, _, _]) [0, 1] [0, 1, 2] 0 Y Y Y Y (jq (hsE [1] [] 0 Y Y Y Y) ?_)
     exact zO (h63 b_23 l_10.1 l_10.2.1 l_10.2.2 h98 h99 h100) (sE Y) (hsE [1, 0] [0, 1, 2] 0 Y Y Y Y)
    refine yH Y ?_ ?_
    refine jx (fun w => zeroValue26 w) Y (fun b_24 h101 => ?_)
    refine jq (hsE [2] [] 0 Y Y Y Y) ?_
    exact zO (h55 b_24 b_23) (sE Y) (hsE [2, 0, 1] [] 0 Y Y Y Y)
    exact Qa
   exact Qa
  intro l_2 hj
  obtain ⟨h9, h10, h11, h12, h13, h14⟩ := hj
  replace hm := h8
  refine ja (jr (zT [_, _, _, _, _] 2 isAgg33 sizeOf33 Y Y Y Y ?_))
  obtain ⟨t29, h102, hm⟩ := bindO hm
  refine jd [] [] Y Y Y Y Y Y Y call22 (fun w hh => K7 o.x8 (qA l_2.2.2.2.2.2.1.q) l_2.2.2.2.2.2.1.n l_2.2.2.2.2.2.1.cap (qA l_2.2.2.2.2.2.2.1.q) l_2.2.2.2.2.2.2.1.n l_2.2.2.2.2.2.2.1.cap (qA l_2.2.2.2.2.2.2.2.q) l_2.2.2.2.2.2.2.2.n l_2.2.2.2.2.2.2.2.cap w (HV.callee (S0 := []) (vs0 := []) hh (roC (hh.vsepA 3 Y h12) (roC (hh.vsepA 4 Y h13) (roC (hh.vsepA 5 Y h14) roN)))) (vlen RI h12 Y) (AOK.q (vne h12)) (h12).hle (vlen RSa h13 Y) (AOK.q (vne h13)) (h13).hle (vlen RSi h14 Y) (AOK.q (vne h14)) (h14).hle h102) (fun l_11 h103 => ?_)
  refine jm Y Y (jp (jj ?_))
  obtain ⟨o_1, h104, h105⟩ := bindO hm
  refine jE (ι := Unit) (fun l_12 => True) (fun l_12 => [(1, .int .i64 after1), (2, .int .i64 ford2), (3, ptr b 0), (7, ptr l_2.1 0), (8, ptr l_2.2.1 0), (9, .int .i64 o_1)]) (fun l_12 => [kc b #[.int .i64 c0.cells, .int .i64 c0.tides, .slice qa0 na0 ca0, .slice qa1 na1 ca1, .slice qa2 na2 ca2] 26, kc l_2.1 #[.int .i64 o.own7.cells, .int .i64 o.own7.tides, sL l_2.2.2.1, sL l_2.2.2.2.1, sL l_2.2.2.2.2.1] 26, kc l_2.2.1 #[.int .i64 o.x8.cells, .int .i64 o.x8.tides, sL l_2.2.2.2.2.2.1, sL l_2.2.2.2.2.2.2.1, sL l_2.2.2.2.2.2.2.2] 33]) (fun l_12 => [vL 3 l_2.2.2.1 (RI.enc o.own7.fords), vL 98 l_2.2.2.2.1 (RSa.enc o.own7.sands), vL 55 l_2.2.2.2.2.1 (RSi.enc o.own7.sights), vL 3 l_2.2.2.2.2.2.1 (RI.enc o.x8.fords), vL 138 l_2.2.2.2.2.2.2.1 (RSa.enc o.x8.sands), vL 139 l_2.2.2.2.2.2.2.2 (RSi.enc o.x8.sights)]) ?_ ?_
  ·replace hm := h104
   refine jj ?_
   obtain ⟨o_2, h106, h107⟩ := bindO hm
   refine jE (ι := Unit) (fun l_13 => True) (fun l_13 => [(1, .int .i64 after1), (2, .int .i64 ford2), (3, ptr b 0), (7, ptr l_2.1 0), (8, ptr l_2.2.1 0), (9, .int .i64 t29), (41, .bool o_2)]) (fun l_13 => [kc b #[.int .i64 c0.cells, .int .i64 c0.tides, .slice qa0 na0 ca0, .slice qa1 na1 ca1, .slice qa2 na2 ca2] 26, kc l_2.1 #[.int .i64 o.own7.cells, .int .i64 o.own7.tides, sL l_2.2.2.1, sL l_2.2.2.2.1, sL l_2.2.2.2.2.1] 26, kc l_2.2.1 #[.int .i64 o.x8.cells, .int .i64 o.x8.tides, sL l_2.2.2.2.2.2.1, sL l_2.2.2.2.2.2.2.1, sL l_2.2.2.2.2.2.2.2] 33]) (fun l_13 => [vL 3 l_2.2.2.1 (RI.enc o.own7.fords), vL 98 l_2.2.2.2.1 (RSa.enc o.own7.sands), vL 55 l_2.2.2.2.2.1 (RSi.enc o.own7.sights), vL 3 l_2.2.2.2.2.2.1 (RI.enc o.x8.fords), vL 138 l_2.2.2.2.2.2.2.1 (RSa.enc o.x8.sands), vL 139 l_2.2.2.2.2.2.2.2 (RSi.enc o.x8.sights)]) ?_ ?_
   ·replace hm := h106
    refine je (jh Y Y (jc Y Y Y (fun _ _ => zf Y Y) (jh Y Y ?_)))
    refine jM 32 Y (fun h108 => ?_) (fun h108 => ?_)
    ·replace hm := ifD h108 hm
     refine jb Y Y (jh Y Y (jb Y Y (JC Y Y Y (jb Y Y (jh Y Y ?_)))))
     refine jM 35 Y (fun h109 => ?_) (fun h109 => ?_)
     ·replace hm := ifD h109 hm
      refine g_k Y Y Y Y (g_k Y Y Y Y (g_k Y Y Y Y (g_k Y Y Y Y (jb Y Y (yF Y Y Y (yF Y Y Y (ju ?_)))))))
      obtain rfl := sj hm
      exact ji () (trivial) (sE Y) (fun w hh => hh)
     replace hm := ifE h109 hm
     refine jb Y Y (jh Y Y (jb Y Y (qC 1 runUnderlying26 Y sizeOf3 Y Y (jb Y Y (qf 0 isAgg3 Y Y Y Y (jb Y Y (jc Y Y Y (fun _ _ => Q8 Y Y) ?_)))))))
     refine jb Y Y (qE Y Y Y (yF Y Y Y (ju ?_)))
     obtain rfl := sj hm
     exact ji () (trivial) (sE Y) (fun w hh => hh)
    replace hm := ifE h108 hm
    refine g_k Y Y Y Y (g_k Y Y Y Y (g_k Y Y Y Y ?_))
    refine qt Y Y Y Y Y ?_
    refine qt Y Y Y Y Y ?_
    refine qt Y Y Y Y Y ?_
    refine qt Y Y Y Y Y ?_
    refine g_k Y Y Y Y (qE Y Y Y (ju ?_))
    obtain rfl := sj hm
    exact ji () (trivial) (sE Y) (fun w hh => hh)
   intro l_13 hj
   replace hm := h107
   refine ja ?_
   refine jt Y (fun h110 => ?_) (fun h110 => ?_)
   ·replace hm := ifT (h110) hm
    refine je (jm Y Y (ju ?_))
    obtain rfl := sj hm
    exact ji () (trivial) (sE Y) (fun w hh => hh)
   replace hm := ifN h110 hm
   refine js ?_
   obtain rfl := sj hm
   exact ji () (trivial) (sE Y) (fun w hh => hh)
  intro l_12 hj
  replace hm := h105
  refine ja (jr (jh Y Y (jm Y Y (jp (jj ?_)))))
  obtain ⟨o_3, h111, h112⟩ := bindO hm
  refine jE (ι := Unit) (fun l_14 => True) (fun l_14 => [(1, .int .i64 after1), (2, .int .i64 ford2), (3, ptr b 0), (7, ptr l_2.1 0), (8, ptr l_2.2.1 0), (9, .int .i64 o_1), (10, .int .i64 o_3)]) (fun l_14 => [kc b #[.int .i64 c0.cells, .int .i64 c0.tides, .slice qa0 na0 ca0, .slice qa1 na1 ca1, .slice qa2 na2 ca2] 26, kc l_2.1 #[.int .i64 o.own7.cells, .int .i64 o.own7.tides, sL l_2.2.2.1, sL l_2.2.2.2.1, sL l_2.2.2.2.2.1] 26, kc l_2.2.1 #[.int .i64 o.x8.cells, .int .i64 o.x8.tides, sL l_2.2.2.2.2.2.1, sL l_2.2.2.2.2.2.2.1, sL l_2.2.2.2.2.2.2.2] 33]) (fun l_14 => [vL 3 l_2.2.2.1 (RI.enc o.own7.fords), vL 98 l_2.2.2.2.1 (RSa.enc o.own7.sands), vL 55 l_2.2.2.2.2.1 (RSi.enc o.own7.sights), vL 3 l_2.2.2.2.2.2.1 (RI.enc o.x8.fords), vL 138 l_2.2.2.2.2.2.2.1 (RSa.enc o.x8.sands), vL 139 l_2.2.2.2.2.2.2.2 (RSi.enc o.x8.sights)]) ?_ ?_
  ·replace hm := h111
   refine jj ?_
   obtain ⟨o_4, h113, h114⟩ := bindO hm
   refine jE (ι := Unit) (fun l_15 => True) (fun l_15 => [(1, .int .i64 after1), (2, .int .i64 ford2), (3, ptr b 0), (7, ptr l_2.1 0), (8, ptr l_2.2.1 0), (9, .int .i64 o_1), (10, .int .i64 o_1), (55, .bool o_4)]) (fun l_15 => [kc b #[.int .i64 c0.cells, .int .i64 c0.tides, .slice qa0 na0 ca0, .slice qa1 na1 ca1, .slice qa2 na2 ca2] 26, kc l_2.1 #[.int .i64 o.own7.cells, .int .i64 o.own7.tides, sL l_2.2.2.1, sL l_2.2.2.2.1, sL l_2.2.2.2.2.1] 26, kc l_2.2.1 #[.int .i64 o.x8.cells, .int .i64 o.x8.tides, sL l_2.2.2.2.2.2.1, sL l_2.2.2.2.2.2.2.1, sL l_2.2.2.2.2.2.2.2] 33]) (fun l_15 => [vL 3 l_2.2.2.1 (RI.enc o.own7.fords), vL 98 l_2.2.2.2.1 (RSa.enc o.own7.sands), vL 55 l_2.2.2.2.2.1 (RSi.enc o.own7.sights), vL 3 l_2.2.2.2.2.2.1 (RI.enc o.x8.fords), vL 138 l_2.2.2.2.2.2.2.1 (RSa.enc o.x8.sands), vL 139 l_2.2.2.2.2.2.2.2 (RSi.enc o.x8.sights)]) ?_ ?_
   ·replace hm := h113
    refine je (jh Y Y (jc Y Y Y (fun _ _ => zf Y Y) (jh Y Y ?_)))
    refine jM 45 Y (fun h115 => ?_) (fun h115 => ?_)
    ·replace hm := ifD h115 hm
     refine jb Y Y (jh Y Y (jb Y Y (JC Y Y Y (jb Y Y (jh Y Y ?_)))))
     refine jM 48 Y (fun h116 => ?_) (fun h116 => ?_)
     ·replace hm := ifD h116 hm
      refine g_k Y Y Y Y (g_k Y Y Y Y (g_k Y Y Y Y (g_k Y Y Y Y (g_k Y Y Y Y (jb Y Y (yF Y Y Y (yF Y Y Y ?_)))))))
      refine ju ?_
      obtain rfl := sj hm
      exact ji () (trivial) (sE Y) (fun w hh => hh)
     replace hm := ifE h116 hm
     refine jb Y Y (jh Y Y (jb Y Y (qC 2 runUnderlying26 Y sizeOf22 Y Y (jb Y Y (qf 0 isAgg22 Y Y Y Y (jb Y Y (jc Y Y Y (fun w _ => jR hna0 (runUnderlying22 w) Y) ?_)))))))
     refine jb Y Y (jc Y Y Y (fun _ _ => Y1 Y Y) (jb Y Y (qE Y Y Y (yF Y Y Y (ju ?_)))))
     obtain rfl := sj hm
     exact ji () (trivial) (sE Y) (fun w hh => hh)
    replace hm := ifE h115 hm
    refine g_k Y Y Y Y (g_k Y Y Y Y (g_k Y Y Y Y ?_))
    refine qt Y Y Y Y Y ?_
    refine qt Y Y Y Y Y ?_
    refine qt Y Y Y Y Y ?_
    refine qt Y Y Y Y Y ?_
    refine qt Y Y Y Y Y ?_
    refine g_k Y Y Y Y (qE Y Y Y (ju ?_))
    obtain rfl := sj hm
    exact ji () (trivial) (sE Y) (fun w hh => hh)
   intro l_15 hj
   replace hm := h114
   refine ja ?_
   refine jt Y (fun h117 => ?_) (fun h117 => ?_)
   ·replace hm := ifT (h117) hm
    refine je (jm Y Y (ju ?_))
    obtain rfl := sj hm
    exact ji () (trivial) (sE Y) (fun w hh => hh)
   replace hm := ifN h117 hm
   refine js ?_
   obtain rfl := sj hm
   exact ji () (trivial) (sE Y) (fun w hh => hh)
  intro l_14 hj
  replace hm := h112
  refine ja (jj ?_)
  obtain ⟨o_5, h118, h119⟩ := bindO hm
  refine jE (ι := Unit) (fun l_16 => True) (fun l_16 => [(1, .int .i64 after1), (2, .int .i64 ford2), (3, ptr b 0), (7, ptr l_2.1 0), (8, ptr l_2.2.1 0), (9, .int .i64 o_1), (10, .int .i64 o_3), (11, .bool o_5)]) (fun l_16 => [kc b #[.int .i64 c0.cells, .int .i64 c0.tides, .slice qa0 na0 ca0, .slice qa1 na1 ca1, .slice qa2 na2 ca2] 26, kc l_2.1 #[.int .i64 o.own7.cells, .int .i64 o.own7.tides, sL l_2.2.2.1, sL l_2.2.2.2.1, sL l_2.2.2.2.2.1] 26, kc l_2.2.1 #[.int .i64 o.x8.cells, .int .i64 o.x8.tides, sL l_2.2.2.2.2.2.1, sL l_2.2.2.2.2.2.2.1, sL l_2.2.2.2.2.2.2.2] 33]) (fun l_16 => [vL 3 l_2.2.2.1 (RI.enc o.own7.fords), vL 98 l_2.2.2.2.1 (RSa.enc o.own7.sands), vL 55 l_2.2.2.2.2.1 (RSi.enc o.own7.sights), vL 3 l_2.2.2.2.2.2.1 (RI.enc o.x8.fords), vL 138 l_2.2.2.2.2.2.2.1 (RSa.enc o.x8.sands), vL 139 l_2.2.2.2.2.2.2.2 (RSi.enc o.x8.sights)]) ?_ ?_
  ·replace hm := h118
   refine kn none (.hoist 0 (.one 1 (.free 2 (.free 3 (.hoist 4 (.hoist 5 (.one 6 (.one 7 (.free 8 (.free 9 (.free 10 .done))))))))))) _ Y (by decide +kernel) (fun w k hh => hh.draw k) (fun w hh => hh) ?_
   refine jy Y Y Y Y (fun w hh => jN (vs := [_, _, _, _, _]) (isAgg33 w) (sizeOf33 w) Y (hh.cells 2 Y Y)) (jK Y ?_)
   obtain ⟨t57, h120, hm⟩ := bindO hm
   refine jd [] [] Y Y Y Y Y Y Y call22 (fun w hh => K7 o.x8 (qA l_2.2.2.2.2.2.1.q) l_2.2.2.2.2.2.1.n l_2.2.2.2.2.2.1.cap (qA l_2.2.2.2.2.2.2.1.q) l_2.2.2.2.2.2.2.1.n l_2.2.2.2.2.2.2.1.cap (qA l_2.2.2.2.2.2.2.2.q) l_2.2.2.2.2.2.2.2.n l_2.2.2.2.2.2.2.2.cap w (HV.callee (S0 := []) (vs0 := []) hh (roC (hh.vsepA 3 Y h12) (roC (hh.vsepA 4 Y h13) (roC (hh.vsepA 5 Y h14) roN)))) (vlen RI h12 Y) (AOK.q (vne h12)) (h12).hle (vlen RSa h13 Y) (AOK.q (vne h13)) (h13).hle (vlen RSi h14 Y) (AOK.q (vne h14)) (h14).hle h120) (fun l_17 h121 => ?_)
   refine jq (fun w hh => hh) (jo Y Y Y Y (fun _ _ => zf Y Y) (yi Y Y Y ?_))
   refine jM 59 Y (fun h122 => ?_) (fun h122 => ?_)
   ·replace hm := ifD h122 hm
    refine k8 Y Y Y Y Y Y (fun w hh => jN (vs := [_, _, _, _, _]) (isAgg33 w) (sizeOf33 w) Y (hh.cells 2 Y Y)) (k8 Y Y Y Y Y Y (fun w hh => jN (vs := [_, _, _, _, _]) (isAgg33 w) (sizeOf33 w) Y (hh.cells 2 Y Y)) (jK Y (jb Y Y ?_)))
    obtain ⟨t62, h123, hm⟩ := bindO hm
    refine jd [] [] Y Y Y Y Y Y Y call24 (fun w hh => Ke o.x8 (qA l_2.2.2.2.2.2.1.q) l_2.2.2.2.2.2.1.n l_2.2.2.2.2.2.1.cap (qA l_2.2.2.2.2.2.2.1.q) l_2.2.2.2.2.2.2.1.n l_2.2.2.2.2.2.2.1.cap (qA l_2.2.2.2.2.2.2.2.q) l_2.2.2.2.2.2.2.2.n l_2.2.2.2.2.2.2.2.cap w (HV.callee (S0 := []) (vs0 := []) hh (roC (hh.vsepA 3 Y h12) (roC (hh.vsepA 4 Y h13) (roC (hh.vsepA 5 Y h14) roN)))) (vlen RI h12 Y) (AOK.q (vne h12)) (h12).hle (vlen RSa h13 Y) (AOK.q (vne h13)) (h13).hle (vlen RSi h14 Y) (AOK.q (vne h14)) (h14).hle h123) (fun l_18 h124 => ?_)
    refine jq (fun w hh => hh) (jK Y (jb Y Y ?_))
    obtain ⟨t63, h125, hm⟩ := bindO hm
    refine jd [] [] Y Y Y Y Y Y Y call23 (fun w hh => YK o.x8 t62 (qA l_2.2.2.2.2.2.1.q) l_2.2.2.2.2.2.1.n l_2.2.2.2.2.2.1.cap (qA l_2.2.2.2.2.2.2.1.q) l_2.2.2.2.2.2.2.1.n l_2.2.2.2.2.2.2.1.cap (qA l_2.2.2.2.2.2.2.2.q) l_2.2.2.2.2.2.2.2.n l_2.2.2.2.2.2.2.2.cap w (HV.callee (S0 := []) (vs0 := []) hh (roC (hh.vsepA 3 Y h12) (roC (hh.vsepA 4 Y h13) (roC (hh.vsepA 5 Y h14) roN)))) (vlen RI h12 Y) (AOK.q (vne h12)) (h12).hle (vlen RSa h13 Y) (AOK.q (vne h13)) (h13).hle (vlen RSi h14 Y) (AOK.q (vne h14)) (h14).hle h125) (fun l_19 h126 => ?_)
    refine jq (fun w hh => hh) (jF Y Y Y Y Y Y (fun _ _ => zf Y Y) (jo Y Y Y Y (fun _ _ => JQ Y Y) (jo Y Y Y Y (fun _ _ => kG Y) (jO ?_))))
    obtain rfl := sj hm
    exact ji () (trivial) (sE Y) (fun w hh => hh)
   replace hm := ifE h122 hm
   refine yl Y Y Y Y Y Y Y (yl Y Y Y Y Y Y Y (jK Y (g_k Y Y Y Y (jq (fun w hh => hh) (jK Y (g_k Y Y Y Y (jq (fun w hh => hh) ?_)))))))
   refine jB Y Y Y Y Y Y Y (jo Y Y Y Y (fun _ _ => zD Y Y) (jo Y Y Y Y (fun _ _ => kG Y) (jO ?_)))
   obtain rfl := sj hm
   exact ji () (trivial) (sE Y) (fun w hh => hh)
  intro l_16 hj
  replace hm := h119
  refine ja (jj ?_)
  obtain ⟨o_6, h127, h128⟩ := bindO hm
  refine jE (ι := Unit) (fun l_20 => True) (fun l_20 => [(1, .int .i64 after1), (2, .int .i64 ford2), (3, ptr b 0), (7, ptr l_2.1 0), (8, ptr l_2.2.1 0), (9, .int .i64 o_6), (10, .int .i64 o_3), (11, .bool o_5)]) (fun l_20 => [kc b #[.int .i64 c0.cells, .int .i64 c0.tides, .slice qa0 na0 ca0, .slice qa1 na1 ca1, .slice qa2 na2 ca2] 26, kc l_2.1 #[.int .i64 o.own7.cells, .int .i64 o.own7.tides, sL l_2.2.2.1, sL l_2.2.2.2.1, sL l_2.2.2.2.2.1] 26, kc l_2.2.1 #[.int .i64 o.x8.cells, .int .i64 o.x8.tides, sL l_2.2.2.2.2.2.1, sL l_2.2.2.2.2.2.2.1, sL l_2.2.2.2.2.2.2.2] 33]) (fun l_20 => [vL 3 l_2.2.2.1 (RI.enc o.own7.fords), vL 98 l_2.2.2.2.1 (RSa.enc o.own7.sands), vL 55 l_2.2.2.2.2.1 (RSi.enc o.own7.sights), vL 3 l_2.2.2.2.2.2.1 (RI.enc o.x8.fords), vL 138 l_2.2.2.2.2.2.2.1 (RSa.enc o.x8.sands), vL 139 l_2.2.2.2.2.2.2.2 (RSi.enc o.x8.sights)]) ?_ ?_
  ·replace hm := h127
   refine jj ?_
   obtain ⟨o_7, h129, h130⟩ := bindO hm
   refine jE (ι := Unit) (fun l_21 => True) (fun l_21 => [(1, .int .i64 after1), (2, .int .i64 ford2), (3, ptr b 0), (7, ptr l_2.1 0), (8, ptr l_2.2.1 0), (9, .int .i64 o_1), (10, .int .i64 o_3), (11, .bool o_5), (70, .bool o_7)]) (fun l_21 => [kc b #[.int .i64 c0.cells, .int .i64 c0.tides, .slice qa0 na0 ca0, .slice qa1 na1 ca1, .slice qa2 na2 ca2] 26, kc l_2.1 #[.int .i64 o.own7.cells, .int .i64 o.own7.tides, sL l_2.2.2.1, sL l_2.2.2.2.1, sL l_2.2.2.2.2.1] 26, kc l_2.2.1 #[.int .i64 o.x8.cells, .int .i64 o.x8.tides, sL l_2.2.2.2.2.2.1, sL l_2.2.2.2.2.2.2.1, sL l_2.2.2.2.2.2.2.2] 33]) (fun l_21 => [vL 3 l_2.2.2.1 (RI.enc o.own7.fords), vL 98 l_2.2.2.2.1 (RSa.enc o.own7.sands), vL 55 l_2.2.2.2.2.1 (RSi.enc o.own7.sights), vL 3 l_2.2.2.2.2.2.1 (RI.enc o.x8.fords), vL 138 l_2.2.2.2.2.2.2.1 (RSa.enc o.x8.sands), vL 139 l_2.2.2.2.2.2.2.2 (RSi.enc o.x8.sights)]) ?_ ?_
   ·replace hm := h129
    refine je (jh Y Y (jc Y Y Y (fun _ _ => zf Y Y) (jh Y Y ?_)))
    refine jM 68 Y (fun h131 => ?_) (fun h131 => ?_)
    ·replace hm := ifD h131 hm
     refine jb Y Y (jh Y Y (yF Y Y Y (ju ?_)))
     obtain rfl := sj hm
     exact ji () (trivial) (sE Y) (fun w hh => hh)
    replace hm := ifE h131 hm
    refine g_k Y Y Y Y (qE Y Y Y (ju ?_))
    obtain rfl := sj hm
    exact ji () (trivial) (sE Y) (fun w hh => hh)
   intro l_21 hj
   replace hm := h130
   refine ja ?_
   refine jt Y (fun h132 => ?_) (fun h132 => ?_)
   ·replace hm := ifT (h132) hm
    refine je (jm Y Y (ju ?_))
    obtain rfl := sj hm
    exact ji () (trivial) (sE Y) (fun w hh => hh)
   replace hm := ifN h132 hm
   refine js ?_
   obtain rfl := sj hm
   exact ji () (trivial) (sE Y) (fun w hh => hh)
  intro l_20 hj
  replace hm := h128
  refine ja (jj ?_)
  obtain ⟨o_8, h133, h134⟩ := bindO hm
  refine jE (ι := Unit) (fun l_22 => True) (fun l_22 => [(1, .int .i64 after1), (2, .int .i64 ford2), (3, ptr b 0), (7, ptr l_2.1 0), (8, ptr l_2.2.1 0), (9, .int .i64 o_6), (10, .int .i64 o_8)]) (fun l_22 => [kc b #[.int .i64 c0.cells, .int .i64 c0.tides, .slice qa0 na0 ca0, .slice qa1 na1 ca1, .slice qa2 na2 ca2] 26, kc l_2.1 #[.int .i64 o.own7.cells, .int .i64 o.own7.tides, sL l_2.2.2.1, sL l_2.2.2.2.1, sL l_2.2.2.2.2.1] 26, kc l_2.2.1 #[.int .i64 o.x8.cells, .int .i64 o.x8.tides, sL l_2.2.2.2.2.2.1, sL l_2.2.2.2.2.2.2.1, sL l_2.2.2.2.2.2.2.2] 33]) (fun l_22 => [vL 3 l_2.2.2.1 (RI.enc o.own7.fords), vL 98 l_2.2.2.2.1 (RSa.enc o.own7.sands), vL 55 l_2.2.2.2.2.1 (RSi.enc o.own7.sights), vL 3 l_2.2.2.2.2.2.1 (RI.enc o.x8.fords), vL 138 l_2.2.2.2.2.2.2.1 (RSa.enc o.x8.sands), vL 139 l_2.2.2.2.2.2.2.2 (RSi.enc o.x8.sights)]) ?_ ?_
  ·replace hm := h133
   refine jj ?_
   obtain ⟨o_9, h135, h136⟩ := bindO hm
   refine jE (ι := Unit) (fun l_23 => True) (fun l_23 => [(1, .int .i64 after1), (2, .int .i64 ford2), (3, ptr b 0), (7, ptr l_2.1 0), (8, ptr l_2.2.1 0), (9, .int .i64 o_6), (10, .int .i64 o_3), (75, .bool o_9)]) (fun l_23 => [kc b #[.int .i64 c0.cells, .int .i64 c0.tides, .slice qa0 na0 ca0, .slice qa1 na1 ca1, .slice qa2 na2 ca2] 26, kc l_2.1 #[.int .i64 o.own7.cells, .int .i64 o.own7.tides, sL l_2.2.2.1, sL l_2.2.2.2.1, sL l_2.2.2.2.2.1] 26, kc l_2.2.1 #[.int .i64 o.x8.cells, .int .i64 o.x8.tides, sL l_2.2.2.2.2.2.1, sL l_2.2.2.2.2.2.2.1, sL l_2.2.2.2.2.2.2.2] 33]) (fun l_23 => [vL 3 l_2.2.2.1 (RI.enc o.own7.fords), vL 98 l_2.2.2.2.1 (RSa.enc o.own7.sands), vL 55 l_2.2.2.2.2.1 (RSi.enc o.own7.sights), vL 3 l_2.2.2.2.2.2.1 (RI.enc o.x8.fords), vL 138 l_2.2.2.2.2.2.2.1 (RSa.enc o.x8.sands), vL 139 l_2.2.2.2.2.2.2.2 (RSi.enc o.x8.sights)]) ?_ ?_
   ·replace hm := h135
    refine je (jh Y Y (jc Y Y Y (fun _ _ => zf Y Y) (jh Y Y ?_)))
    refine jM 73 Y (fun h137 => ?_) (fun h137 => ?_)
    ·replace hm := ifD h137 hm
     refine jb Y Y (jh Y Y (yF Y Y Y (ju ?_)))
     obtain rfl := sj hm
     exact ji () (trivial) (sE Y) (fun w hh => hh)
    replace hm := ifE h137 hm
    refine g_k Y Y Y Y (qE Y Y Y (ju ?_))
    obtain rfl := sj hm
    exact ji () (trivial) (sE Y) (fun w hh => hh)
   intro l_23 hj
   replace hm := h136
   refine ja ?_
   refine jt Y (fun h138 => ?_) (fun h138 => ?_)
   ·replace hm := ifT (h138) hm
    refine je (jm Y Y (ju ?_))
    obtain rfl := sj hm
    exact ji () (trivial) (sE Y) (fun w hh => hh)
   replace hm := ifN h138 hm
   refine js ?_
   obtain rfl := sj hm
   exact ji () (trivial) (sE Y) (fun w hh => hh)
  intro l_22 hj
  replace hm := h134
  refine ja (jr (jc Y Y Y (fun _ _ => kd Y) (jc Y Y Y (fun _ _ => kd Y) (jc Y Y Y (fun _ _ => kd Y) (jp (jj (yk 3 ?_)))))))
  obtain ⟨o_10, h139, h140⟩ := bindO hm
  refine jE (ι := VL) (fun l_24 => VOK 1 l_24.n l_24.cap (RI.enc o_10) l_24.sp l_24.q) (fun l_24 => [(1, .int .i64 after1), (2, .int .i64 ford2), (3, ptr b 0), (7, ptr l_2.1 0), (8, ptr l_2.2.1 0), (9, .int .i64 o_6), (10, .int .i64 o_8), (12, sL l_24), (13, slv none 0 0), (14, slv none 0 0)]) (fun l_24 => [kc b #[.int .i64 c0.cells, .int .i64 c0.tides, .slice qa0 na0 ca0, .slice qa1 na1 ca1, .slice qa2 na2 ca2] 26, kc l_2.1 #[.int .i64 o.own7.cells, .int .i64 o.own7.tides, sL l_2.2.2.1, sL l_2.2.2.2.1, sL l_2.2.2.2.2.1] 26, kc l_2.2.1 #[.int .i64 o.x8.cells, .int .i64 o.x8.tides, sL l_2.2.2.2.2.2.1, sL l_2.2.2.2.2.2.2.1, sL l_2.2.2.2.2.2.2.2] 33]) (fun l_24 => [vL 3 l_24 (RI.enc o_10), vL 3 l_2.2.2.1 (RI.enc o.own7.fords), vL 98 l_2.2.2.2.1 (RSa.enc o.own7.sands), vL 55 l_2.2.2.2.2.1 (RSi.enc o.own7.sights), vL 3 l_2.2.2.2.2.2.1 (RI.enc o.x8.fords), vL 138 l_2.2.2.2.2.2.2.1 (RSa.enc o.x8.sands), vL 139 l_2.2.2.2.2.2.2.2 (RSi.enc o.x8.sights)]) ?_ ?_
  ·replace hm := h139
   refine jr (jh Y Y (jc Y Y Y (fun _ _ => zf Y Y) (jp ?_)))
   refine jt Y (fun h142 => ?_) (fun h142 => ?_)
   ·replace hm := ifD h142 hm
    refine je (zT [_, _, _, _, _] 2 isAgg33 sizeOf33 Y Y Y Y (jh Y Y (jh Y Y ?_)))
    obtain ⟨t81, h143, hm⟩ := bindO hm
    refine jd [] [] Y Y Y Y Y Y Y call40 (fun w hh => YJ o.x8 after1 ford2 (qA l_2.2.2.2.2.2.1.q) l_2.2.2.2.2.2.1.n l_2.2.2.2.2.2.1.cap (qA l_2.2.2.2.2.2.2.1.q) l_2.2.2.2.2.2.2.1.n l_2.2.2.2.2.2.2.1.cap (qA l_2.2.2.2.2.2.2.2.q) l_2.2.2.2.2.2.2.2.n l_2.2.2.2.2.2.2.2.cap w (HV.callee (S0 := []) (vs0 := []) hh (roC (hh.vsepA 4 Y h12) (roC (hh.vsepA 5 Y h13) (roC (hh.vsepA 6 Y h14) roN)))) (vlen RI h12 Y) (AOK.q (vne h12)) (h12).hle (vlen RSa h13 Y) (AOK.q (vne h13)) (h13).hle (vlen RSi h14 Y) (AOK.q (vne h14)) (h14).hle h143) (fun l_25 h144 => ?_)
    have h145 := h144
    refine kC (S' := [_, _, _]) (vs' := [_, _, _, _, _, _, _, _]) [0, 1, 2] [0, 1, 2, 3, 4, 5, 6, 7] 0 Y Y Y Y (jm Y Y (ju ?_))
    obtain rfl := sj hm
    exact ji l_25 (h145) (sE Y) (hsE [0, 1, 2] [0, 2, 3, 4, 5, 6, 7] 0 Y Y Y Y)
   replace hm := ifE h142 hm
   refine js ?_
   obtain rfl := sj hm
   exact ji ⟨none, 0, 0, []⟩ (VOK.nil) (sE Y) (fun w hh => hh)
  intro l_24 hj
  have h141 := hj
  replace hm := h140
  refine ja (jj (yk 3 (yk 3 ?_)))
  obtain ⟨o_11, h146, h147⟩ := bindO hm
  refine jE (ι := VL × VL) (fun l_26 => VOK 1 l_26.1.n l_26.1.cap (RI.enc o_11.sure13) l_26.1.sp l_26.1.q ∧ VOK 1 l_26.2.n l_26.2.cap (RI.enc o_11.bare14) l_26.2.sp l_26.2.q) (fun l_26 => [(1, .int .i64 after1), (2, .int .i64 ford2), (3, ptr b 0), (7, ptr l_2.1 0), (9, .int .i64 o_6), (10, .int .i64 o_8), (12, sL l_24), (13, sL l_26.1), (14, sL l_26.2)]) (fun l_26 => [kc b #[.int .i64 c0.cells, .int .i64 c0.tides, .slice qa0 na0 ca0, .slice qa1 na1 ca1, .slice qa2 na2 ca2] 26, kc l_2.1 #[.int .i64 o.own7.cells, .int .i64 o.own7.tides, sL l_2.2.2.1, sL l_2.2.2.2.1, sL l_2.2.2.2.2.1] 26, kc l_2.2.1 #[.int .i64 o.x8.cells, .int .i64 o.x8.tides, sL l_2.2.2.2.2.2.1, sL l_2.2.2.2.2.2.2.1, sL l_2.2.2.2.2.2.2.2] 33]) (fun l_26 => [vL 3 l_24 (RI.enc o_10), vL 3 l_26.1 (RI.enc o_11.sure13), vL 3 l_26.2 (RI.enc o_11.bare14), vL 3 l_2.2.2.1 (RI.enc o.own7.fords), vL 98 l_2.2.2.2.1 (RSa.enc o.own7.sands), vL 55 l_2.2.2.2.2.1 (RSi.enc o.own7.sights), vL 3 l_2.2.2.2.2.2.1 (RI.enc o.x8.fords), vL 138 l_2.2.2.2.2.2.2.1 (RSa.enc o.x8.sands), vL 139 l_2.2.2.2.2.2.2.2 (RSi.enc o.x8.sights)]) ?_ ?_
  ·replace hm := h146
   refine jr (jh Y Y (jc Y Y Y (fun _ _ => zf Y Y) (jp ?_)))
   refine jt Y (fun h150 => ?_) (fun h150 => ?_)
   ·replace hm := ifD h150 hm
    refine je (zT [_, _, _, _, _] 2 isAgg33 sizeOf33 Y Y Y Y (jh Y Y ?_))
    obtain ⟨t87, h151, hm⟩ := bindO hm
    refine jd [] [] Y Y Y Y Y Y Y call41 (fun w hh => Yq o.x8 after1 (qA l_2.2.2.2.2.2.1.q) l_2.2.2.2.2.2.1.n l_2.2.2.2.2.2.1.cap (qA l_2.2.2.2.2.2.2.1.q) l_2.2.2.2.2.2.2.1.n l_2.2.2.2.2.2.2.1.cap (qA l_2.2.2.2.2.2.2.2.q) l_2.2.2.2.2.2.2.2.n l_2.2.2.2.2.2.2.2.cap w (HV.callee (S0 := []) (vs0 := []) hh (roC (hh.vsepA 6 Y h12) (roC (hh.vsepA 7 Y h13) (roC (hh.vsepA 8 Y h14) roN)))) (vlen RI h12 Y) (AOK.q (vne h12)) (h12).hle (vlen RSa h13 Y) (AOK.q (vne h13)) (h13).hle (vlen RSi h14 Y) (AOK.q (vne h14)) (h14).hle h151) (fun l_27 h152 => ?_)
    obtain ⟨h153, h154⟩ := h152
    refine kC (S' := [_, _, _]) (vs' := [_, _, _, _, _, _, _, _, _, _, _]) [0, 1, 2] [0, 1, 2, 3, 4, 5, 6, 7, 8, 9, 10] 0 Y Y Y Y (jh Y Y (zJ Y Y Y (zJ Y Y Y (jm Y Y (jm Y Y (ju ?_))))))
    obtain rfl := sj hm
    exact ji (l_27.1, l_27.2) (⟨h153, h154⟩) (sE Y) (hsE [0, 1, 2] [4, 0, 1, 5, 6, 7, 8, 9, 10] 0 Y Y Y Y)
   replace hm := ifE h150 hm
   refine js ?_
   obtain rfl := sj hm
   exact ji (⟨none, 0, 0, []⟩, ⟨none, 0, 0, []⟩) (⟨VOK.nil, VOK.nil⟩) (sE Y) (hsE [0, 1, 2] [2, 1, 0, 3, 4, 5, 6, 7, 8] 0 Y Y Y Y)
  intro l_26 hj
  obtain ⟨h148, h149⟩ := hj
  replace hm := h147
  refine ja (jr (zT [_, _, _, _, _] 1 isAgg26 sizeOf26 Y Y Y Y (jh Y Y (jh Y Y ?_))))
  obtain ⟨t94, h155, hm⟩ := bindO hm
  refine jd [] [] Y Y Y Y Y Y Y call42 (fun w hh => QG o.own7 after1 ford2 (qA l_2.2.2.1.q) l_2.2.2.1.n l_2.2.2.1.cap (qA l_2.2.2.2.1.q) l_2.2.2.2.1.n l_2.2.2.2.1.cap (qA l_2.2.2.2.2.1.q) l_2.2.2.2.2.1.n l_2.2.2.2.2.1.cap w (HV.callee (S0 := []) (vs0 := []) hh (roC (hh.vsepA 3 Y h9) (roC (hh.vsepA 4 Y h10) (roC (hh.vsepA 5 Y h11) roN)))) (vlen RI h9 Y) (AOK.q (vne h9)) (h9).hle (vlen RSa h10 Y) (AOK.q (vne h10)) (h10).hle (vlen RSi h11 Y) (AOK.q (vne h11)) (h11).hle h155) (fun l_28 h156 => ?_)
  have h157 := h156
  refine kC (S' := [_, _, _]) (vs' := [_, _, _, _, _, _, _, _, _, _]) [0, 1, 2] [0, 1, 2, 3, 4, 5, 6, 7, 8, 9] 0 Y Y Y Y (jh Y Y (zJ Y Y Y (zJ Y Y Y (jm Y Y (jm Y Y (qe (zT [_, _, _, _, _] 1 isAgg26 sizeOf26 Y Y Y Y ?_)))))))
  refine jh Y Y ?_
  obtain ⟨t100, h158, hm⟩ := bindO hm
  refine jd [] [] Y Y Y Y Y Y Y call43 (fun w hh => ZY o.own7 after1 (qA l_2.2.2.1.q) l_2.2.2.1.n l_2.2.2.1.cap (qA l_2.2.2.2.1.q) l_2.2.2.2.1.n l_2.2.2.2.1.cap (qA l_2.2.2.2.2.1.q) l_2.2.2.2.2.1.n l_2.2.2.2.2.1.cap w (HV.callee (S0 := []) (vs0 := []) hh (roC (hh.vsepA 4 Y h9) (roC (hh.vsepA 5 Y h10) (roC (hh.vsepA 6 Y h11) roN)))) (vlen RI h9 Y) (AOK.q (vne h9)) (h9).hle (vlen RSa h10 Y) (AOK.q (vne h10)) (h10).hle (vlen RSi h11 Y) (AOK.q (vne h11)) (h11).hle h158) (fun l_29 h159 => ?_)
  have h160 := h159
  refine kC (S' := [_, _, _]) (vs' := [_, _, _, _, _, _, _, _, _, _, _]) [0, 1, 2] [0, 1, 2, 3, 4, 5, 6, 7, 8, 9, 10] 0 Y Y Y Y (jh Y Y (zJ Y Y Y (zJ Y Y Y (jm Y Y (jm Y Y (qe (zT [_, _, _, _, _] 1 isAgg26 sizeOf26 Y Y Y Y ?_)))))))
  refine jh Y Y ?_
  obtain ⟨t106, h161, hm⟩ := bindO hm
  refine jd [] [] Y Y Y Y Y Y Y call44 (fun w hh => ZW o.own7 after1 (qA l_2.2.2.1.q) l_2.2.2.1.n l_2.2.2.1.cap (qA l_2.2.2.2.1.q) l_2.2.2.2.1.n l_2.2.2.2.1.cap (qA l_2.2.2.2.2.1.q) l_2.2.2.2.2.1.n l_2.2.2.2.2.1.cap w (HV.callee (S0 := []) (vs0 := []) hh (roC (hh.vsepA 5 Y h9) (roC (hh.vsepA 6 Y h10) (roC (hh.vsepA 7 Y h11) roN)))) (vlen RI h9 Y) (AOK.q (vne h9)) (h9).hle (vlen RSa h10 Y) (AOK.q (vne h10)) (h10).hle (vlen RSi h11 Y) (AOK.q (vne h11)) (h11).hle h161) (fun l_30 h162 => ?_)
  have h163 := h162
  refine kC (S' := [_, _, _]) (vs' := [_, _, _, _, _, _, _, _, _, _, _, _]) [0, 1, 2] [0, 1, 2, 3, 4, 5, 6, 7, 8, 9, 10, 11] 0 Y Y Y Y (jh Y Y (zJ Y Y Y (zJ Y Y Y (jm Y Y (jm Y Y (jp (jj ?_)))))))
  obtain ⟨o_12, h164, h165⟩ := bindO hm
  refine jE (ι := Unit) (fun l_31 => True) (fun l_31 => [(6, .bool o_12)]) (fun l_31 => [kc b #[.int .i64 c0.cells, .int .i64 c0.tides, .slice qa0 na0 ca0, .slice qa1 na1 ca1, .slice qa2 na2 ca2] 26, kc l_2.1 #[.int .i64 o.own7.cells, .int .i64 o.own7.tides, sL l_2.2.2.1, sL l_2.2.2.2.1, sL l_2.2.2.2.2.1] 26, kc l_2.2.1 #[.int .i64 o.x8.cells, .int .i64 o.x8.tides, sL l_2.2.2.2.2.2.1, sL l_2.2.2.2.2.2.2.1, sL l_2.2.2.2.2.2.2.2] 33]) (fun l_31 => [vL 3 l_2.2.2.1 (RI.enc o.own7.fords), vL 98 l_2.2.2.2.1 (RSa.enc o.own7.sands), vL 55 l_2.2.2.2.2.1 (RSi.enc o.own7.sights), vL 3 l_2.2.2.2.2.2.1 (RI.enc o.x8.fords), vL 138 l_2.2.2.2.2.2.2.1 (RSa.enc o.x8.sands), vL 139 l_2.2.2.2.2.2.2.2 (RSi.enc o.x8.sights)]) ?_ ?_
  ·replace hm := h164
   refine je (jh Y Y (jh Y Y (jc Y Y Y (fun _ _ => zf Y Y) (jh Y Y ?_))))
   refine jM 112 Y (fun h166 => ?_) (fun h166 => ?_)
   ·replace hm := ifD h166 hm
    refine jb Y Y (jh Y Y (jb Y Y (jh Y Y (jb Y Y (jc Y Y Y (fun _ _ => zf Y Y) (yF Y Y Y (jh Y Y ?_)))))))
    refine jM 117 Y (fun h167 => ?_) (fun h167 => ?_)
    ·replace hm := ifD h167 hm
     refine jb Y Y (jh Y Y (jb Y Y (jh Y Y (jb Y Y (jc Y Y Y (fun _ _ => zf Y Y) (yF Y Y Y (jh Y Y ?_)))))))
     refine jM 122 Y (fun h168 => ?_) (fun h168 => ?_)
     ·replace hm := ifD h168 hm
      refine jb Y Y (jh Y Y (jb Y Y (jh Y Y (jb Y Y ?_))))
      obtain ⟨t125, h169, hm⟩ := bindO hm
      refine jd [] [] Y Y Y Y Y Y Y call45 (fun w hh => KF t94.r0 o_10 (qA l_28.q) l_28.n l_28.cap (qA l_24.q) l_24.n l_24.cap w (HV.callee (S0 := []) (vs0 := []) hh (roC (hh.vsepA 2 Y h157) (roC (hh.vsepA 3 Y h141) roN))) (vlen RI h157 Y) (AOK.q (vne h157)) (h157).hle (vlen RI h141 Y) (AOK.q (vne h141)) (h141).hle h169) (fun l_32 h170 => ?_)
      refine yF Y Y Y (jh Y Y ?_)
      refine jM 127 Y (fun h171 => ?_) (fun h171 => ?_)
      ·replace hm := ifT (h171) hm
       refine jb Y Y (jh Y Y (jb Y Y (jh Y Y (jb Y Y ?_))))
       obtain ⟨t130, h172, hm⟩ := bindO hm
       refine jd [] [] Y Y Y Y Y Y Y call45 (fun w hh => KF t100.r0 o_11.sure13 (qA l_29.q) l_29.n l_29.cap (qA l_26.1.q) l_26.1.n l_26.1.cap w (HV.callee (S0 := []) (vs0 := []) hh (roC (hh.vsepA 1 Y h160) (roC (hh.vsepA 4 Y h148) roN))) (vlen RI h160 Y) (AOK.q (vne h160)) (h160).hle (vlen RI h148 Y) (AOK.q (vne h148)) (h148).hle h172) (fun l_33 h173 => ?_)
       refine yF Y Y Y (jh Y Y ?_)
       refine jM 132 Y (fun h174 => ?_) (fun h174 => ?_)
       ·replace hm := ifT (h174) hm
        refine jb Y Y (jh Y Y (jb Y Y (jh Y Y (jb Y Y ?_))))
        obtain ⟨t135, h175, hm⟩ := bindO hm
        refine jd [] [] Y Y Y Y Y Y Y call45 (fun w hh => KF t106.r0 o_11.bare14 (qA l_30.q) l_30.n l_30.cap (qA l_26.2.q) l_26.2.n l_26.2.cap w (HV.callee (S0 := []) (vs0 := []) hh (roC (hh.vsepA 0 Y h163) (roC (hh.vsepA 5 Y h149) roN))) (vlen RI h163 Y) (AOK.q (vne h163)) (h163).hle (vlen RI h149 Y) (AOK.q (vne h149)) (h149).hle h175) (fun l_34 h176 => ?_)
        refine yF Y Y Y (jh Y Y ?_)
        refine jM 137 Y (fun h177 => ?_) (fun h177 => ?_)
        ·replace hm := ifT (h177) hm
         refine jb Y Y (zT [_, _, _, _, _] 1 isAgg26 sizeOf26 Y Y Y Y (jb Y Y (zT [_, _, _, _, _] 0 isAgg26 sizeOf26 Y Y Y Y (jb Y Y ?_))))
         obtain ⟨t140, h178, hm⟩ := bindO hm
         refine jd [] [] Y Y Y Y Y Y Y call31 (fun w hh => YP o.own7 c0 (qA l_2.2.2.1.q) l_2.2.2.1.n l_2.2.2.1.cap (qA l_2.2.2.2.1.q) l_2.2.2.2.1.n l_2.2.2.2.1.cap (qA l_2.2.2.2.2.1.q) l_2.2.2.2.2.1.n l_2.2.2.2.2.1.cap qa0 na0 ca0 qa1 na1 ca1 qa2 na2 ca2 w (HV.callee (S0 := []) (vs0 := []) hh (roC (hh.vsepA 6 Y h9) (roC (hh.vsepA 7 Y h10) (roC (hh.vsepA 8 Y h11) (roR hh 0 Y (roR hh 1 Y (roR hh 2 Y roN))))))) (vlen RI h9 Y) (AOK.q (vne h9)) (h9).hle (vlen RSa h10 Y) (AOK.q (vne h10)) (h10).hle (vlen RSi h11 Y) (AOK.q (vne h11)) (h11).hle hna0 hqa0 hla0 hna1 hqa1 hla1 hna2 hqa2 hla2 h178) (fun l_35 h179 => ?_)
         refine yF Y Y Y (jh Y Y ?_)
         refine jM 142 Y (fun h180 => ?_) (fun h180 => ?_)
         ·replace hm := ifT (h180) hm
          refine jb Y Y ?_
          obtain ⟨t143, h181, hm⟩ := bindO hm
          refine jd [] [] Y Y Y Y Y Y Y call19 (fun w hh => Qe  w (HV.callee (S0 := []) (vs0 := []) hh roN)  h181) (fun l_36 h182 => ?_)
          refine yF Y Y Y (jm Y Y (ju ?_))
          obtain rfl := sj hm
          exact ji () (trivial) (sE Y) (hsE [0, 1, 2] [6, 7, 8, 9, 10, 11] 0 Y Y Y Y)
         replace hm := ifN h180 hm
         refine g_k Y Y Y Y (qE Y Y Y (jm Y Y (ju ?_)))
         obtain rfl := sj hm
         exact ji () (trivial) (sE Y) (hsE [0, 1, 2] [6, 7, 8, 9, 10, 11] 0 Y Y Y Y)
        replace hm := ifN h177 hm
        refine g_k Y Y Y Y (g_k Y Y Y Y (g_k Y Y Y Y (qE Y Y Y (jh Y Y (g_k Y Y Y Y (qE Y Y Y (jm Y Y ?_)))))))
        refine ju ?_
        obtain rfl := sj hm
        exact ji () (trivial) (sE Y) (hsE [0, 1, 2] [6, 7, 8, 9, 10, 11] 0 Y Y Y Y)
       replace hm := ifN h174 hm
       refine g_k Y Y Y Y (g_k Y Y Y Y (g_k Y Y Y Y (qE Y Y Y (jh Y Y (g_k Y Y Y Y (g_k Y Y Y Y (g_k Y Y Y Y ?_)))))))
       refine qE Y Y Y (jh Y Y (g_k Y Y Y Y (qE Y Y Y (jm Y Y (ju ?_)))))
       obtain rfl := sj hm
       exact ji () (trivial) (sE Y) (hsE [0, 1, 2] [6, 7, 8, 9, 10, 11] 0 Y Y Y Y)
      replace hm := ifN h171 hm
      refine g_k Y Y Y Y (g_k Y Y Y Y (g_k Y Y Y Y (qE Y Y Y (jh Y Y (g_k Y Y Y Y (g_k Y Y Y Y (g_k Y Y Y Y ?_)))))))
      refine qE Y Y Y (jh Y Y (g_k Y Y Y Y (g_k Y Y Y Y (g_k Y Y Y Y (qE Y Y Y (jh Y Y (g_k Y Y Y Y ?_)))))))
      refine qE Y Y Y (jm Y Y (ju ?_))
      obtain rfl := sj hm
      exact ji () (trivial) (sE Y) (hsE [0, 1, 2] [6, 7, 8, 9, 10, 11] 0 Y Y Y Y)
     replace hm := ifE h168 hm
     refine g_k Y Y Y Y (g_k Y Y Y Y (g_k Y Y Y Y (qE Y Y Y (jh Y Y (g_k Y Y Y Y (g_k Y Y Y Y (g_k Y Y Y Y ?_)))))))
     refine qE Y Y Y (jh Y Y (g_k Y Y Y Y (g_k Y Y Y Y (g_k Y Y Y Y (qE Y Y Y (jh Y Y (g_k Y Y Y Y ?_)))))))
     refine g_k Y Y Y Y (g_k Y Y Y Y (qE Y Y Y (jh Y Y (g_k Y Y Y Y (qE Y Y Y (jm Y Y (ju ?_)))))))
     obtain rfl := sj hm
     exact ji () (trivial) (sE Y) (hsE [0, 1, 2] [6, 7, 8, 9, 10, 11] 0 Y Y Y Y)
    replace hm := ifE h167 hm
    refine g_k Y Y Y Y (g_k Y Y Y Y (g_k Y Y Y Y (qE Y Y Y (jh Y Y (g_k Y Y Y Y (g_k Y Y Y Y (g_k Y Y Y Y ?_)))))))
    refine qE Y Y Y (jh Y Y (g_k Y Y Y Y (g_k Y Y Y Y (g_k Y Y Y Y (qE Y Y Y (jh Y Y (g_k Y Y Y Y ?_)))))))
    refine g_k Y Y Y Y (g_k Y Y Y Y (qE Y Y Y (jh Y Y (g_k Y Y Y Y (g_k Y Y Y Y (g_k Y Y Y Y (qE Y Y Y ?_)))))))
    refine jh Y Y (g_k Y Y Y Y (qE Y Y Y (jm Y Y (ju ?_))))
    obtain rfl := sj hm
    exact ji () (trivial) (sE Y) (hsE [0, 1, 2] [6, 7, 8, 9, 10, 11] 0 Y Y Y Y)
   replace hm := ifE h166 hm
   refine g_k Y Y Y Y (g_k Y Y Y Y (g_k Y Y Y Y (qE Y Y Y (jh Y Y (g_k Y Y Y Y (g_k Y Y Y Y (g_k Y Y Y Y ?_)))))))
   refine qE Y Y Y (jh Y Y (g_k Y Y Y Y (g_k Y Y Y Y (g_k Y Y Y Y (qE Y Y Y (jh Y Y (g_k Y Y Y Y ?_)))))))
   refine g_k Y Y Y Y (g_k Y Y Y Y (qE Y Y Y (jh Y Y (g_k Y Y Y Y (g_k Y Y Y Y (g_k Y Y Y Y (qE Y Y Y ?_)))))))
   refine jh Y Y (g_k Y Y Y Y (g_k Y Y Y Y (g_k Y Y Y Y (qE Y Y Y (jh Y Y (g_k Y Y Y Y (qE Y Y Y ?_)))))))
   refine jm Y Y (ju ?_)
   obtain rfl := sj hm
   exact ji () (trivial) (sE Y) (hsE [0, 1, 2] [6, 7, 8, 9, 10, 11] 0 Y Y Y Y)
  intro l_31 hj
  replace hm := h165
  refine ja (jw ?_)
  obtain rfl := sj hm
  refine jn Y (fun w hh => (.tmp Y .nil)) (fun w hh => ⟨(), rfl, trivial, hh.se [] [] 3 Y Y Y rfl⟩)
end Go.Proofs.Wb

namespace Go.Gx
open Go
theorem eq_loop {α : Type} [DecidableEq α] {a b : List α} (d : α) (hl : a.length = b.length) (hn : a.length < 1000000) {f : Int → Option (Int ⊕ (Unit ⊕ Bool))}
    (hf : ∀ s, f s = if s < (a.length : Int) then ((ix a s).bind fun x => (ix b s).bind fun y => if x = y then ((addc s 1).bind fun k => some (.inl k)) else some (.inr (.inr false))) else some (.inr (.inl ()))) :
    ((iterM FU f 0).bind fun o => oc o (fun _ => (some true : Option Bool)) (fun r => some r)) = some (decide (a = b)) := by
  have key := iterM_any0 (f := f) a.length (fun k => decide (¬ a.getD k d = b.getD k d)) false (fun k hk => by
    rw [hf, if_pos (by omega), ix_nat d hk, Option.bind_some, ix_nat d (by omega), Option.bind_some]
    by_cases h : a.getD k d = b.getD k d
    · rw [if_pos h, addc_eq (by omega), Option.bind_some, if_neg (by simpa using h)]
    · rw [if_neg h, if_pos (by simpa using h)]) (by rw [hf, if_neg (by omega)]) (N := FU) (FU_lt (by omega))
  rw [key, Option.bind_some]
  by_cases h : a = b
  · subst h
    have : ((List.range a.length).any fun k => decide (¬ a.getD k d = a.getD k d)) = false := by
      rw [List.any_eq_false]; intro x _; simp
    rw [this]; simp
  · have : ((List.range a.length).any fun k => decide (¬ a.getD k d = b.getD k d)) = true := by
      cases h2 : ((List.range a.length).any fun k => decide (¬ a.getD k d = b.getD k d)) with
      | true => rfl
      | false =>
        exfalso
        apply h
        apply List.ext_getElem hl
        intro i hi hi'
        have h3 := List.any_eq_false.1 h2 i (by simpa using hi)
        simpa [List.getD_eq_getElem?_getD, hi, hi'] using h3
    rw [this]; simp [h]
end Go.Gx
namespace Go.Proofs.Wb
open Go Go.Fw Go.Gx Go.Sb
set_option linter.unusedVariables false
theorem zP {a b : List Int} (hn : a.length < 1000000) : zQ a b = some (decide (a = b)) := by
  unfold zQ JL
  by_cases h : a.length = b.length
  · rw [if_pos (by omega), eq_loop 0 h hn (f := JW a b) (fun s => rfl)]; rfl
  · rw [if_neg (by omega), Option.bind_some]
    congr 1
    symm
    rw [decide_eq_false_iff_not]
    intro e; exact h (by rw [e])
theorem jae {a b : List Sand} (hn : a.length < 1000000) : zS a b = some (decide (a = b)) := by
  unfold zS k4
  by_cases h : a.length = b.length
  · rw [if_pos (by omega), eq_loop default h hn (f := qD a b) (fun s => rfl)]; rfl
  · rw [if_neg (by omega), Option.bind_some]
    congr 1
    symm
    rw [decide_eq_false_iff_not]
    intro e; exact h (by rw [e])
theorem Z8 {a b : List Sight} (hn : a.length < 1000000) : zo a b = some (decide (a = b)) := by
  unfold zo kK
  by_cases h : a.length = b.length
  · rw [if_pos (by omega), eq_loop default h hn (f := qr a b) (fun s => rfl)]; rfl
  · rw [if_neg (by omega), Option.bind_some]
    congr 1
    symm
    rw [decide_eq_false_iff_not]
    intro e; exact h (by rw [e])
def Few (c : Channel) : Prop := c.fords.length ≤ 100 ∧ c.sands.length ≤ 100 ∧ c.sights.length ≤ 100
theorem jaK {a b : Channel} (h : Few a) : zq a b = some (decide (a = b)) := by
  unfold zq
  obtain ⟨h1, h2, h3⟩ := h
  rw [zP (by omega), jae (by omega), Z8 (by omega)]
  simp only [Option.bind_some, decide_eq_true_eq]
  obtain ⟨a1, a2, a3, a4, a5⟩ := a
  obtain ⟨b1, b2, b3, b4, b5⟩ := b
  simp only [Channel.mk.injEq]
  by_cases e1 : a1 = b1
  · by_cases e2 : a2 = b2
    · by_cases e3 : a3 = b3
      · by_cases e4 : a4 = b4
        · simp [e1, e2, e3, e4]
        · simp [e1, e2, e3, e4]
      · simp [e1, e2, e3]
    · simp [e1, e2]
  · simp [e1]
theorem jap {l : List Int} (h : l.length ≤ 100000) : KJ l = some l := by
  unfold KJ
  rw [makec_eq (by omega), Option.bind_some, appc_eq (by simp; omega)]
  simp
theorem Own_eq {c : Channel} (h : Few c) : zN c = some c := by
  obtain ⟨h1, h2, h3⟩ := h
  unfold zN Jk zV
  rw [jap (by omega), makec_eq (by omega), makec_eq (by omega)]
  simp only [Option.bind_some]
  rw [appc_eq (by simp; omega), appc_eq (by simp; omega)]
  simp
theorem copy_loop {α σ : Type} {l : List α} (d : α) (by_ : Nat) (hb : l.length * by_ ≤ 100000000) (hn : l.length < 1000000) (mk : Int → List α → σ) {f : σ → Option (σ ⊕ List α)}
    (hf : ∀ i o, f (mk i o) = if i < (l.length : Int) then ((ix l i).bind fun x => (appc by_ o [x]).bind fun t => (addc i 1).bind fun k => some (.inl (mk k t))) else some (.inr o)) :
    iterM FU f (mk 0 []) = some l := by
  have key := iterM_run (f := f) (fun j => mk (j : Int) (l.take j)) l.length (b := l) (fun j hj => ?_) ?_ FU (FU_lt (by omega))
  · simpa using key
  · have e : l.take (j + 1) = l.take j ++ [l[j]] := by rw [List.take_append_getElem]
    have hx : l.getD j d = l[j] := by simp [List.getD_eq_getElem?_getD, hj]
    rw [hf, if_pos (by omega), ix_nat d hj, Option.bind_some, hx, appc_eq (by
      simp only [List.length_take, List.length_cons, List.length_nil]
      have : min j l.length + (0 + 1) ≤ l.length := by omega
      have := Nat.mul_le_mul_right by_ this
      omega), Option.bind_some, addc_eq (by omega), Option.bind_some, e]
    rfl
  · rw [hf, if_neg (by omega), List.take_length]
theorem theirs_eq {c : Channel} (h : Few c) : yI c = some c := by
  obtain ⟨h1, h2, h3⟩ := h
  unfold yI
  rw [jap (by omega)]
  simp only [Option.bind_some]
  rw [copy_loop (l := c.sands) default 24 (by omega) (by omega) (fun i o => (⟨i, o⟩ : qO)) (f := z2 c) (fun i o => rfl)]
  simp only [Option.bind_some]
  rw [copy_loop (l := c.sights) default 24 (by omega) (by omega) (fun i o => (⟨i, o⟩ : qH)) (f := zW c) (fun i o => rfl)]
  rfl
end Go.Proofs.Wb

namespace Go.Proofs.Wb
open Go Go.Fw Go.Gx Go.Sb
set_option linter.unusedVariables false
theorem Kn (n lo hi : Int) : jD n lo hi = some (!inb n lo hi) := by
  unfold jD inb
  by_cases h : n < lo
  · rw [if_pos h, Option.bind_some]
    simp
    omega
  · rw [if_neg h, Option.bind_some]
    congr 1
    rw [Bool.eq_iff_iff]
    simp
    omega
theorem any_not_all {α : Type} {l : List α} {d : α} {p : α → Bool} : ((List.range l.length).any fun k => !p (l.getD k d)) = !l.all p := by
  rw [any_range (p := fun x => !p x), List.not_all_eq_any_not]
theorem ref_loop {α ρ : Type} (l : List α) (d : α) (p : α → Bool) {e : ρ} (hl : l.length < 1000000000000) {f : Int → Option (Int ⊕ (Unit ⊕ ρ))}
    (hf : ∀ k : Nat, k < l.length → f (k : Int) = some (if (!p (l.getD k d)) = true then .inr (.inr e) else .inl ((k : Int) + 1))) (he : f (l.length : Int) = some (.inr (.inl ()))) :
    iterM FU f 0 = some (if l.all p = true then .inl () else .inr e) := by
  rw [iterM_any0 (f := f) l.length (fun k => !p (l.getD k d)) e hf he (FU_lt hl), any_not_all]
  cases l.all p <;> rfl
theorem ref_up {c : Channel} (h : c.fords.length ≤ 100) : iterM FU (kF c) 1 = some (if upB c.fords = true then .inl () else .inr 4) := by
  by_cases h0 : c.fords.length = 0
  · have e : c.fords = [] := List.length_eq_zero_iff.1 h0
    obtain ⟨N, hN⟩ : ∃ N, FU = N + 1 := ⟨FU - 1, by unfold FU; rfl⟩
    rw [hN, iterM_done (b := .inl ()) (by unfold kF; rw [if_neg (by rw [e]; decide)]), e]
    rfl
  · have key := iterM_any (f := kF c) 1 (c.fords.length - 1) (fun k => decide (c.fords.getD (k + 1) (-1) ≤ c.fords.getD k (-1))) (fun _ => 4) (fun k hk => ?_) ?_ (N := FU) (FU_lt (by omega))
    · rw [key]
      cases hf : (List.range (c.fords.length - 1)).find? (fun k => decide (c.fords.getD (k + 1) (-1) ≤ c.fords.getD k (-1))) with
      | none =>
        have : upB c.fords = true := by
          rw [upB_ix]
          intro i hi
          have h2 := List.find?_eq_none.1 hf i (by simp; omega)
          simp only [decide_eq_true_eq] at h2
          omega
        rw [if_pos this]
      | some k =>
        have h2 := List.find?_some hf
        have h3 : k < c.fords.length - 1 := by simpa using List.mem_of_find?_eq_some hf
        have : ¬ upB c.fords = true := by
          rw [upB_ix]
          intro hu
          have := hu k (by omega)
          simp only [decide_eq_true_eq] at h2
          omega
        rw [if_neg this]
    · unfold kF
      rw [if_pos (by omega), show (1 : Int) + (k : Int) = ((k + 1 : Nat) : Int) by push_cast; omega, ix_nat (-1) (by omega), Option.bind_some, subc_eq (by omega), Option.bind_some, show ((k + 1 : Nat) : Int) - 1 = (k : Int) by push_cast; omega, ix_nat (-1) (by omega), Option.bind_some, addc_eq (by omega), Option.bind_some]
      by_cases h : c.fords.getD (k + 1) (-1) ≤ c.fords.getD k (-1)
      · rw [if_pos h, if_pos (by simpa using h)]
      · rw [if_neg h, if_neg (by simpa using h)]
    · unfold kF
      rw [if_neg (by omega)]
theorem many_eq' {c : Channel} {f : Bool → Option Int} : (((jD c.cells 2 10).bind fun t9 => if t9 = true then (some true) else ((jD c.tides 0 4).bind fun t14 => if t14 = true then (some true) else ((jD (c.fords.length : Int) 1 3).bind fun t21 => if t21 = true then (some true) else (if 4 < (c.sands.length : Int) then (some true) else (some (decide (8 < (c.sights.length : Int)))))))).bind f) = f (!okMany c) := by
  rw [Kn, Kn, Kn]
  have := many_eq (c := c) (f := f)
  rw [QB, QB, QB] at this
  simp only [Option.bind_some] at this ⊢
  exact this
theorem refCheck_eq {c : Channel} (h : Few c) : yc c = some (chk c) := by
  unfold yc chk
  rw [many_eq']
  by_cases h1 : okMany c = true
  · rw [if_pos h1]
    rw [if_neg (by simp [h1])]
    obtain ⟨hc, ht, hf, hs, hg⟩ := okMany_iff.1 h1
    rw [ref_loop c.sands default (fun s => inb s.reach 1 2) (e := 3) (by omega) (fun k hk => by
        unfold y5
        rw [if_pos (by omega), ix_nat default hk, Option.bind_some, Kn, Option.bind_some, addc_eq (by omega), Option.bind_some]
        split <;> rfl) (by unfold y5; rw [if_neg (by omega)]),
      ref_loop c.sights default (fun s => inb s.after 0 c.tides) (e := 3) (by omega) (fun k hk => by
        unfold ze
        rw [if_pos (by omega), ix_nat default hk, Option.bind_some, Kn, Option.bind_some, addc_eq (by omega), Option.bind_some]
        split <;> rfl) (by unfold ze; rw [if_neg (by omega)]),
      ref_loop c.fords default (fun x => inb x 0 (c.cells - 1)) (e := 1) (by omega) (fun k hk => by
        unfold y7
        rw [if_pos (by omega), ix_nat default hk, Option.bind_some, subc_eq (by omega), Option.bind_some, Kn, Option.bind_some, addc_eq (by omega), Option.bind_some]
        split <;> rfl) (by unfold y7; rw [if_neg (by omega)]),
      ref_loop c.sands default (fun s => inb s.span.lo 0 (c.cells - 1) && inb s.span.hi 0 (c.cells - 1)) (e := 1) (by omega) (fun k hk => by
        unfold y8
        rw [if_pos (by omega), ix_nat default hk, Option.bind_some, subc_eq (by omega), Option.bind_some, Kn, Option.bind_some, Option.bind_some, Option.bind_some, Kn, Option.bind_some, addc_eq (by omega)]
        cases inb (c.sands.getD k default).span.lo 0 (c.cells - 1) <;> cases inb (c.sands.getD k default).span.hi 0 (c.cells - 1) <;> rfl) (by unfold y8; rw [if_neg (by omega)]),
      ref_loop c.sights default (fun s => inb s.cell 0 (c.cells - 1)) (e := 1) (by omega) (fun k hk => by
        unfold y9
        rw [if_pos (by omega), ix_nat default hk, Option.bind_some, subc_eq (by omega), Option.bind_some, Kn, Option.bind_some, addc_eq (by omega), Option.bind_some]
        split <;> rfl) (by unfold y9; rw [if_neg (by omega)]),
      ref_up (by omega),
      ref_loop c.sands default (fun s => decide (s.span.lo ≤ s.span.hi)) (e := 4) (by omega) (fun k hk => by
        unfold zd
        rw [if_pos (by omega), ix_nat default hk, Option.bind_some, Option.bind_some, addc_eq (by omega), Option.bind_some]
        by_cases h : (c.sands.getD k default).span.hi < (c.sands.getD k default).span.lo
        · rw [if_pos h, if_pos (by simp at h ⊢; omega)]
        · rw [if_neg h, if_neg (by simp at h ⊢; omega)]) (by unfold zd; rw [if_neg (by omega)])]
    unfold okLimit okMiss okOrder
    simp only [Option.bind_some]
    cases (c.sands.all fun s => inb s.reach 1 2)
    · rfl
    cases (c.sights.all fun s => inb s.after 0 c.tides)
    · rfl
    cases (c.fords.all fun x => inb x 0 (c.cells - 1))
    · rfl
    cases (c.sands.all fun s => inb s.span.lo 0 (c.cells - 1) && inb s.span.hi 0 (c.cells - 1))
    · rfl
    cases (c.sights.all fun s => inb s.cell 0 (c.cells - 1))
    · rfl
    cases upB c.fords
    · rfl
    cases (c.sands.all fun s => decide (s.span.lo ≤ s.span.hi))
    · rfl
    rfl
  · rw [if_neg h1, if_pos (by simp [h1])]
end Go.Proofs.Wb

namespace Go.Proofs.Wb
open Go Go.Fw Go.Gx Go.Sb
set_option linter.unusedVariables false
def stepR (x : Int) (r : Int) (s : Sand) : Int := if s.span.lo ≤ x ∧ x ≤ s.span.hi then max r s.reach else r
def rchC (l : List Sand) (x : Int) : Int := l.foldl (stepR x) 0
def rchL (c : Channel) : List Int := (List.range c.cells.toNat).map fun t : Nat => rchC c.sands (t : Int)
theorem rchC_snoc {l : List Sand} {s : Sand} {x : Int} : rchC (l ++ [s]) x = stepR x (rchC l x) s := by unfold rchC; rw [List.foldl_append]; rfl
theorem rchC_bounds {l : List Sand} {x : Int} (h : ∀ s ∈ l, 1 ≤ s.reach ∧ s.reach ≤ 2) : 0 ≤ rchC l x ∧ rchC l x ≤ 2 := by
  unfold rchC
  have key : ∀ (l : List Sand) (r : Int), (∀ s ∈ l, 1 ≤ s.reach ∧ s.reach ≤ 2) → 0 ≤ r ∧ r ≤ 2 → 0 ≤ l.foldl (stepR x) r ∧ l.foldl (stepR x) r ≤ 2 := by
    intro l
    induction l with
    | nil => intro r _ h; exact h
    | cons s l ih =>
      intro r h hr
      rw [List.foldl_cons]
      refine ih _ (fun t ht => h t (List.mem_cons_of_mem _ ht)) ?_
      have := h s List.mem_cons_self
      unfold stepR
      split <;> omega
  exact key l 0 h (by omega)
theorem refReach_eq {c : Channel} (h : c.sands.length ≤ 100) (x : Int) : yU c x = some (rchC c.sands x) := by
  unfold yU
  have key := iterM_run (f := q4 c x) (fun j => ⟨rchC (c.sands.take j) x, (j : Int)⟩) c.sands.length (b := rchC c.sands x) (fun j hj => ?_) ?_ FU (FU_lt (by omega))
  · simp only [List.take_zero] at key
    rw [show (⟨0, 0⟩ : qY) = ⟨rchC [] x, ((0 : Nat) : Int)⟩ from rfl, key]
    rfl
  · have e : c.sands.take (j + 1) = c.sands.take j ++ [c.sands[j]] := by rw [List.take_append_getElem]
    have hx : c.sands.getD j default = c.sands[j] := by simp [List.getD_eq_getElem?_getD, hj]
    unfold q4
    simp only
    rw [if_pos (by omega), ix_nat default hj, Option.bind_some, Option.bind_some, Kn, Option.bind_some, Option.bind_some, hx, e, rchC_snoc, addc_eq (by omega)]
    unfold stepR inb
    by_cases h1 : c.sands[j].span.lo ≤ x ∧ x ≤ c.sands[j].span.hi
    · rw [if_pos h1]
      simp [h1]
    · rw [if_neg h1]
      have : (decide (c.sands[j].span.lo ≤ x) && decide (x ≤ c.sands[j].span.hi)) = false := by
        rw [Bool.and_eq_false_iff]
        simp only [decide_eq_false_iff_not]
        omega
      rw [this]
      rfl
  · unfold q4
    simp only
    rw [if_neg (by omega), List.take_length]
theorem reaches_in {n : Nat} {f : Nat → Int} {s : Sand} (h0 : 0 ≤ s.span.lo) (h1 : s.span.hi < n) (h2 : s.span.lo ≤ s.span.hi) (hn : n ≤ 1000) :
    iterM FU (kh s) ⟨s.span.lo, (List.range n).map f⟩ = some ((List.range n).map fun t : Nat => stepR (t : Int) (f t) s) := by
  have key := iterM_run (f := kh s) (fun j => ⟨s.span.lo + (j : Int), (List.range n).map fun t : Nat => if (s.span.lo ≤ (t : Int) ∧ (t : Int) < s.span.lo + (j : Int)) then max (f t) s.reach else f t⟩) (s.span.hi - s.span.lo + 1).toNat (b := (List.range n).map fun t : Nat => stepR (t : Int) (f t) s) (fun j hj => ?_) ?_ FU (FU_lt (by omega))
  · have e : ((List.range n).map fun t : Nat => if (s.span.lo ≤ (t : Int) ∧ (t : Int) < s.span.lo + ((0 : Nat) : Int)) then max (f t) s.reach else f t) = (List.range n).map f := by
      apply List.map_congr_left
      intro t _
      rw [if_neg (by omega)]
    simp only [e] at key
    simpa using key
  · unfold kh
    simp only
    have ej : s.span.lo + (j : Int) = ((s.span.lo.toNat + j : Nat) : Int) := by omega
    rw [if_pos (by omega), ej, range_ix (by omega), Option.bind_some, Option.bind_some, Int.toNat_natCast, range_set, Option.bind_some, addc_eq (by omega), Option.bind_some]
    congr 3
    · omega
    · apply List.map_congr_left
      intro t ht
      by_cases h : t = s.span.lo.toNat + j
      · rw [if_pos h, if_neg (by omega), if_pos (by omega)]; rw [h]
      · rw [if_neg h]
        by_cases h3 : s.span.lo ≤ (t : Int) ∧ (t : Int) < ((s.span.lo.toNat + j : Nat) : Int)
        · rw [if_pos h3, if_pos (by omega)]
        · rw [if_neg h3, if_neg (by omega)]
  · unfold kh
    simp only
    rw [if_neg (by omega)]
    congr 2
    apply List.map_congr_left
    intro t ht
    unfold stepR
    by_cases h3 : s.span.lo ≤ (t : Int) ∧ (t : Int) ≤ s.span.hi
    · rw [if_pos h3, if_pos (by omega)]
    · rw [if_neg h3, if_neg (by omega)]
theorem ZZ {c : Channel} (r : Right c) : kO c = some (rchL c) := by
  have hc := r.cells
  have hs := r.sands
  unfold kO
  rw [makec_eq (by omega), Option.bind_some]
  have key := iterM_run (f := kV c) (fun j => ⟨(j : Int), (List.range c.cells.toNat).map fun t : Nat => rchC (c.sands.take j) (t : Int)⟩) c.sands.length (b := rchL c) (fun j hj => ?_) ?_ FU (FU_lt (by omega))
  · have e : List.replicate c.cells.toNat (0 : Int) = (List.range c.cells.toNat).map fun t : Nat => rchC (c.sands.take 0) (t : Int) := by
      apply List.ext_getElem (by simp)
      intro i h1 h2
      simp [rchC]
    rw [e, show (0 : Int) = ((0 : Nat) : Int) from rfl, key]
    rfl
  · have e : c.sands.take (j + 1) = c.sands.take j ++ [c.sands[j]] := by rw [List.take_append_getElem]
    have hx : c.sands.getD j default = c.sands[j] := by simp [List.getD_eq_getElem?_getD, hj]
    have hsp := r.span c.sands[j] (List.getElem_mem hj)
    unfold kV
    simp only
    rw [if_pos (by omega), ix_nat default hj, Option.bind_some, hx, reaches_in hsp.1 (by omega) hsp.2.2 (by omega), Option.bind_some, addc_eq (by omega), Option.bind_some]
    congr 3
    apply List.map_congr_left
    intro t _
    rw [e, rchC_snoc]
  · unfold kV
    simp only
    rw [if_neg (by omega), List.take_length]
    rfl
theorem rchL_len {c : Channel} : (rchL c).length = c.cells.toNat := by simp [rchL]
theorem rchL_get {c : Channel} {x : Int} (h : 0 ≤ x ∧ x < c.cells) : (rchL c).getD x.toNat 0 = rchC c.sands x := by
  unfold rchL
  rw [List.getD_eq_getElem?_getD, List.getElem?_map, List.getElem?_range (by omega)]
  simp
  congr 1
  omega
theorem jag {c : Channel} (h : Few c) : yZ c = some (if chk c = 0 then .inr ⟨c.cells, c.tides, rchL c⟩ else .inl (chk c)) := by
  unfold yZ
  rw [Yj, Option.bind_some]
  by_cases h0 : chk c = 0
  · rw [if_pos h0, if_pos h0, ZZ (rightOf h0)]; rfl
  · rw [if_neg h0, if_neg h0, if_pos h0]
end Go.Proofs.Wb

namespace Go.Proofs.Wb
open Go Go.Fw Go.Gx Go.Sb
set_option linter.unusedVariables false
set_option maxRecDepth 100000
theorem jah : ∀ {l : List Int}, l.length ≤ 3 → Kv l = some (mkCells l)
  | [], _ => by decide +kernel
  | [a], _ => rfl
  | [a, b], _ => rfl
  | [a, b, c], _ => rfl
  | a :: b :: c :: d :: l, h => absurd h (by simp)
def clS (nf : Nat) (s : State) : List Int := [s.at_.c0, s.at_.c1, s.at_.c2].take nf
theorem clS_mk {l : List Int} {k : Int} (h : l.length ≤ 3) : clS l.length ⟨k, mkCells l⟩ = l := by
  unfold clS mkCells
  match l, h with
  | [], _ => rfl
  | [a], _ => rfl
  | [a, b], _ => rfl
  | [a, b, c], _ => rfl
  | a :: b :: c :: d :: l, h => exact absurd h (by simp)
theorem Zv {d0 d1 : Int} {f : List Int} {a : List Sand} {b : List Sight} {r : List Int} (h : f.length ≤ 3) (s : State) : km d0 d1 f a b r s = some (clS f.length s) := by
  unfold km
  rw [if_pos (by simp; omega), Int.toNat_natCast, ZG (by simp; omega)]
  rfl
theorem QS {l : List Int} (hl : l.length < 1000000) (v : Int) : kb l v = some (decide (v ∈ l)) := by
  unfold kb JH
  rw [contains_loop (f := yC l v) l 0 (fun x => decide (v = x)) (by omega) (fun k hk => ?_) ?_]
  · congr 1
    rw [Bool.eq_iff_iff, List.any_eq_true, decide_eq_true_eq]
    constructor
    · rintro ⟨x, hx, he⟩
      rw [decide_eq_true_eq] at he
      subst he; exact hx
    · intro h; exact ⟨v, h, by simp⟩
  · unfold yC
    rw [if_neg (by omega)]
  · unfold yC
    rw [if_pos (by omega), ix_nat 0 hk, Option.bind_some, addc_eq (by omega), Option.bind_some]
    by_cases h : v = l.getD k 0
    · rw [if_pos h, if_pos (by simpa using h)]
    · rw [if_neg h, if_neg (by simpa using h)]
def offS (k : Int) (l : List Int) (x : Sight) : Bool := decide (x.after = k) && !(decide (x.cell ∈ l) == x.upright)
def agP (cnt : Nat → Bool) (sg : List Sight) (k : Int) (l : List Int) : Bool := !(List.range sg.length).any fun i => cnt i && offS k l (sg.getD i default)
theorem agP_iff {cnt : Nat → Bool} {sg : List Sight} {k : Int} {l : List Int} : agP cnt sg k l = true ↔ ∀ i, i < sg.length → cnt i = true → (sg.getD i default).after = k → (decide ((sg.getD i default).cell ∈ l) = (sg.getD i default).upright) := by
  unfold agP
  rw [Bool.not_eq_true', List.any_eq_false]
  simp only [List.mem_range, offS, Bool.and_eq_true, decide_eq_true_eq, Bool.not_eq_true', not_and, Bool.not_eq_false, beq_iff_eq]
theorem jam {d0 d1 : Int} {f : List Int} {a : List Sand} {sg : List Sight} {r : List Int} (h : f.length ≤ 3) (hs : sg.length ≤ 100) (s : State) : yB d0 d1 f a sg r s = some (agP (fun _ => true) sg s.after (clS f.length s)) := by
  unfold yB
  rw [iterM_any0 (f := qM sg s d0 d1 f a r) sg.length (fun k => offS s.after (clS f.length s) (sg.getD k default)) false (fun k hk => ?_) ?_ (FU_lt (by omega)), Option.bind_some]
  · unfold agP
    simp only [Bool.true_and]
    cases (List.range sg.length).any fun k => offS s.after (clS f.length s) (sg.getD k default) <;> rfl
  · unfold qM
    rw [if_neg (by omega)]
  · unfold qM KO
    rw [if_pos (by omega), ix_nat default hk, Option.bind_some, Zv h, Option.bind_some, if_pos rfl, Option.bind_some, QS (by unfold clS; simp; omega), Option.bind_some, addc_eq (by omega)]
    unfold offS
    by_cases h1 : (sg.getD k default).after = s.after
    · rw [if_pos h1, Option.bind_some, decide_eq_true h1, Bool.true_and]
      split <;> rfl
    · rw [if_neg h1, Option.bind_some, decide_eq_false h1, Bool.false_and]
      rfl
theorem ZH {d0 d1 : Int} {f : List Int} {a : List Sand} {b : List Sight} {r : List Int} (h : f.length ≤ 3) : jS d0 d1 f a b r = some ⟨0, mkCells f⟩ := by
  unfold jS
  rw [jah h]; rfl
theorem jat {l : List Int} (hl : l.length < 1000000) (n : Int) : yb l n = some (decide (n ∈ l)) := by
  unfold yb
  rw [iterM_any0 (f := yz l n) l.length (fun k => decide (l.getD k 0 = n)) true (fun k hk => ?_) ?_ (FU_lt (by omega)), Option.bind_some]
  · rw [any_range (p := fun x => decide (x = n))]
    cases h : l.any fun x => decide (x = n) with
    | true =>
      obtain ⟨x, hx, he⟩ := List.any_eq_true.1 h
      rw [decide_eq_true_eq] at he
      subst he
      simp [hx]
    | false =>
      have : n ∉ l := fun hm => by
        have := List.any_eq_false.1 h n hm
        simp at this
      simp [this]
  · unfold yz
    rw [if_neg (by omega)]
  · unfold yz
    rw [if_pos (by omega), ix_nat 0 hk, Option.bind_some, addc_eq (by omega), Option.bind_some]
    by_cases h : l.getD k 0 = n
    · rw [if_pos h, if_pos (by simpa using h)]
    · rw [if_neg h, if_neg (by simpa using h)]
def bitN (n i : Nat) : Bool := decide (n / 2 ^ i % 2 = 1)
theorem refAgrees_eq {c : Channel} (hs : c.sights.length ≤ 100) {l : List Int} (hl : l.length < 1000) (k : Int) (n : Nat) (hn : n ≤ 1000000000000) : yy c k l (n : Int) = some (agP (bitN n) c.sights k l) := by
  unfold yy
  have key := iterM_find (f := qK c k l) (fun j => ⟨((n / 2 ^ j : Nat) : Int), (j : Int)⟩) c.sights.length (fun i => bitN n i && offS k l (c.sights.getD i default)) (fun _ => .inr false) (.inl ()) (fun j hj _ => ?_) ?_ (N := FU) (FU_lt (by omega))
  · simp only [Nat.pow_zero, Nat.div_one] at key
    rw [show (⟨(n : Int), 0⟩ : qP) = ⟨(n : Int), ((0 : Nat) : Int)⟩ from rfl, key, Option.bind_some]
    unfold agP
    cases hf : (List.range c.sights.length).find? (fun i => bitN n i && offS k l (c.sights.getD i default)) with
    | none =>
      have : (List.range c.sights.length).any (fun i => bitN n i && offS k l (c.sights.getD i default)) = false := by
        rw [List.any_eq_false]; intro x hx; simpa using List.find?_eq_none.1 hf x hx
      rw [this]; rfl
    | some i =>
      have h2 := List.find?_some hf
      have : (List.range c.sights.length).any (fun i => bitN n i && offS k l (c.sights.getD i default)) = true := List.any_eq_true.2 ⟨i, List.mem_of_find?_eq_some hf, h2⟩
      rw [this]; rfl
  · unfold qK
    have hdv : n / 2 ^ j ≤ n := Nat.div_le_self _ _
    have e1 : ((n / 2 ^ j : Nat) : Int).tmod 2 = ((n / 2 ^ j % 2 : Nat) : Int) := by rfl
    have e2 : ((n / 2 ^ j : Nat) : Int).tdiv 2 = ((n / 2 ^ (j + 1) : Nat) : Int) := by
      rw [Nat.pow_succ, ← Nat.div_div_eq_div_mul]; rfl
    simp only
    rw [if_pos (by omega), ix_nat default hj, Option.bind_some, remc_eq (by omega), Option.bind_some, e1, jat (by omega), Option.bind_some, quoc_eq (by omega) (by rw [e2]; have h5 : n / 2 ^ (j + 1) ≤ n := Nat.div_le_self _ _; generalize n / 2 ^ (j + 1) = q at h5 ⊢; omega), Option.bind_some, addc_eq (by omega), Option.bind_some, e2]
    unfold bitN offS
    by_cases hb : n / 2 ^ j % 2 = 1
    · rw [if_pos (by omega), decide_eq_true hb, Bool.true_and]
      by_cases ha : (c.sights.getD j default).after = k
      · rw [if_pos ha, Option.bind_some, decide_eq_true ha, Bool.true_and]
        split <;> rfl
      · rw [if_neg ha, Option.bind_some, decide_eq_false ha, Bool.false_and]
        rfl
    · rw [if_neg (by omega), Option.bind_some, decide_eq_false hb, Bool.false_and]
      rfl
  · unfold qK
    simp only
    rw [if_neg (by omega)]
theorem Q6 {c : Channel} (hs : c.sights.length ≤ 30) : kf c = some ((2 ^ c.sights.length - 1 : Nat) : Int) := by
  unfold kf
  have hp : ∀ j, j ≤ 30 → 2 ^ j ≤ 2 ^ 30 := fun j hj => Nat.pow_le_pow_right (by omega) hj
  have key := iterM_run (f := kS c) (fun j => ⟨((2 ^ j : Nat) : Int), (j : Int)⟩) c.sights.length (b := ((2 ^ c.sights.length : Nat) : Int)) (fun j hj => ?_) ?_ FU (FU_lt (by omega))
  · rw [show (⟨1, 0⟩ : kY) = ⟨((2 ^ 0 : Nat) : Int), ((0 : Nat) : Int)⟩ from rfl, key, Option.bind_some]
    have h1 := hp c.sights.length hs
    have h2 := Nat.one_le_two_pow (n := c.sights.length)
    rw [subc_eq (by omega), Option.bind_some]
    congr 1
    omega
  · unfold kS
    have h1 := hp j (by omega)
    simp only
    rw [if_pos (by omega), mulc_eq (by generalize 2 ^ j = q at h1 ⊢; omega), Option.bind_some, addc_eq (by omega), Option.bind_some]
    rw [Nat.pow_succ]
    generalize 2 ^ j = q
    congr 3
    omega
  · unfold kS
    simp only
    rw [if_neg (by omega)]
theorem bitN_all {n i : Nat} (h : i < n) : bitN (2 ^ n - 1) i = true := by
  unfold bitN
  rw [decide_eq_true_eq]
  have h1 : 2 ^ n = 2 ^ i * (2 * 2 ^ (n - i - 1)) := by
    rw [← Nat.pow_succ', ← Nat.pow_add]
    congr 1
    omega
  have h2 := Nat.one_le_two_pow (n := i)
  have h3 := Nat.one_le_two_pow (n := n - i - 1)
  have h4 : (2 ^ n - 1) / 2 ^ i = 2 * 2 ^ (n - i - 1) - 1 := by
    rw [h1]
    generalize 2 * 2 ^ (n - i - 1) = m at *
    have hm : 1 ≤ m := by
      rcases Nat.eq_zero_or_pos m with h0 | h0
      · rw [h0, Nat.mul_zero] at h1
        have := Nat.one_le_two_pow (n := n)
        omega
      · exact h0
    obtain ⟨q, rfl⟩ : ∃ q, m = q + 1 := ⟨m - 1, by omega⟩
    rw [Nat.mul_succ, Nat.add_sub_cancel]
    rw [show 2 ^ i * q + 2 ^ i - 1 = (2 ^ i - 1) + 2 ^ i * q by omega, Nat.add_mul_div_left _ _ (by omega), Nat.div_eq_of_lt (by omega)]
    omega
  rw [h4]
  omega
theorem agP_congr {c1 c2 : Nat → Bool} {sg : List Sight} {k : Int} {l : List Int} (h : ∀ i, i < sg.length → c1 i = c2 i) : agP c1 sg k l = agP c2 sg k l := by
  rw [Bool.eq_iff_iff, agP_iff, agP_iff]
  constructor
  · intro h1 i hi hc; exact h1 i hi (by rw [h i hi]; exact hc)
  · intro h1 i hi hc; exact h1 i hi (by rw [← h i hi]; exact hc)
end Go.Proofs.Wb

namespace Go.Proofs.Wb
open Go Go.Fw Go.Gx Go.Sb
set_option linter.unusedVariables false
set_option maxRecDepth 100000
def canB (sa : List Sand) (a b : List Int) : Bool := (List.range a.length).all fun i => inb (b.getD i (-1)) (a.getD i (-1) - rchC sa (a.getD i (-1))) (a.getD i (-1) + rchC sa (a.getD i (-1)))
def rowB (c : Channel) (l : List Int) : Bool := decide (l.length = c.fords.length) && (upB l && l.all fun x => inb x 0 (c.cells - 1))
theorem rowB_iff {c : Channel} {l : List Int} : rowB c l = true ↔ l.length = c.fords.length ∧ upB l = true ∧ ∀ x ∈ l, 0 ≤ x ∧ x < c.cells := by
  unfold rowB
  simp only [Bool.and_eq_true, decide_eq_true_eq, List.all_eq_true, inb_iff]
  constructor
  · rintro ⟨h1, h2, h3⟩; exact ⟨h1, h2, fun x hx => by have := h3 x hx; omega⟩
  · rintro ⟨h1, h2, h3⟩; exact ⟨h1, h2, fun x hx => by have := h3 x hx; omega⟩
theorem Z1 {a b : List Int} (hn : a.length < 1000000) : zu a b = some (decide (a = b)) := by
  unfold zu
  by_cases h : a.length = b.length
  · rw [if_pos (by omega), eq_loop 0 h hn (f := JA a b) (fun s => rfl)]
  · rw [if_neg (by omega)]
    congr 1
    symm
    rw [decide_eq_false_iff_not]
    intro e; exact h (by rw [e])
theorem getD_mem {l : List Int} {i : Nat} {d : Int} (h : i < l.length) : l.getD i d ∈ l := by
  rw [List.getD_eq_getElem?_getD, List.getElem?_eq_getElem h]
  exact List.getElem_mem h
theorem jaw {c : Channel} (hs : c.sands.length ≤ 100) (hr : ∀ s ∈ c.sands, 1 ≤ s.reach ∧ s.reach ≤ 2) {a b : List Int} (hl : a.length ≤ b.length) (hn : a.length ≤ 1000) (ha : ∀ x ∈ a, 0 ≤ x ∧ x < 1000) : yT c a b = some (canB c.sands a b) := by
  unfold yT
  have key := iterM_any0 (f := yK a c b) a.length (fun i => !inb (b.getD i (-1)) (a.getD i (-1) - rchC c.sands (a.getD i (-1))) (a.getD i (-1) + rchC c.sands (a.getD i (-1)))) false (fun k hk => by
    have h1 := ha _ (getD_mem (d := -1) hk)
    have h2 := rchC_bounds (x := a.getD k (-1)) hr
    unfold yK
    rw [if_pos (by omega), ix_nat (-1) hk, Option.bind_some, refReach_eq hs, Option.bind_some, ix_nat (-1) (by omega), Option.bind_some, Option.bind_some, subc_eq (by omega), Option.bind_some, Option.bind_some, addc_eq (by omega), Option.bind_some, Kn, Option.bind_some, addc_eq (by omega), Option.bind_some]
    split <;> rfl) (by unfold yK; rw [if_neg (by omega)]) (N := FU) (FU_lt (by omega))
  rw [key, Option.bind_some]
  unfold canB
  rw [← not_any_not]
  cases (List.range a.length).any fun i => !inb (b.getD i (-1)) (a.getD i (-1) - rchC c.sands (a.getD i (-1))) (a.getD i (-1) + rchC c.sands (a.getD i (-1))) <;> rfl
end Go.Proofs.Wb

namespace Go.Proofs.Wb
open Go Go.Fw Go.Gx Go.Sb
set_option linter.unusedVariables false
set_option maxRecDepth 100000
theorem cGet_mk {l : List Int} {i : Nat} (h : i < 3) : cGet (mkCells l) i = l.getD i (-1) := by
  have : i = 0 ∨ i = 1 ∨ i = 2 := by omega
  rcases this with rfl | rfl | rfl <;> rfl
theorem rch_eq {c : Channel} {x : Int} (h : 0 ≤ x ∧ x < c.cells) : rch (rchL c) x = rchC c.sands x := rchL_get h
theorem nextOK_of {c : Channel} (r : Right c) {a : List Int} (ha : rowB c a = true) {k : Int} (hk : -1000 ≤ k ∧ k ≤ 1000) : nextOK c.cells (rchL c) (c.fords.length : Int) ⟨k, mkCells a⟩ := by
  obtain ⟨h1, h2, h3⟩ := rowB_iff.1 ha
  have hc := r.cells
  have hf := r.fords
  refine ⟨by omega, by omega, hk.1, hk.2, fun i hi => ?_⟩
  rw [Int.toNat_natCast] at hi
  simp only
  rw [cGet_mk (by omega)]
  have h4 := h3 _ (getD_mem (l := a) (i := i) (d := -1) (by omega))
  have h5 := rchC_bounds (x := a.getD i (-1)) r.reach
  rw [rchL_get h4, rchL_len]
  omega
theorem can_iff {c : Channel} (r : Right c) {a l : List Int} (ha : rowB c a = true) (hl : rowB c l = true) : canB c.sands a l = true ↔ CanS c.cells (rchL c) c.fords.length (mkCells a) l := by
  obtain ⟨a1, a2, a3⟩ := rowB_iff.1 ha
  obtain ⟨l1, l2, l3⟩ := rowB_iff.1 hl
  have hf := r.fords
  unfold canB
  simp only [List.all_eq_true, List.mem_range, inb_iff]
  constructor
  · intro h
    refine ⟨l1, fun i hi => l3 _ (getD_mem (by omega)), fun i hi => ?_, fun i hi => upB_ix.1 l2 i (by omega)⟩
    rw [cGet_mk (by omega), rch_eq (a3 _ (getD_mem (by omega)))]
    exact h i (by omega)
  · intro h i hi
    have := h.near i (by omega)
    rw [cGet_mk (by omega), rch_eq (a3 _ (getD_mem (by omega)))] at this
    exact this
end Go.Proofs.Wb

namespace Go.Gx
open Go
theorem afind_none {α β : Type} [DecidableEq α] : ∀ {l : List (α × β)} {k : α} {i : Nat}, afind l k i = none ↔ ∀ p, p ∈ l → p.1 ≠ k
  | [], k, i => by simp [afind]
  | (k', v') :: r, k, i => by
    unfold afind
    by_cases h : k = k'
    · rw [if_pos h]
      constructor
      · intro h2; cases h2
      · intro h2; exact absurd h.symm (h2 (k', v') (by simp))
    · rw [if_neg h, afind_none]
      constructor
      · intro h2 p hp
        rcases List.mem_cons.1 hp with rfl | hp
        · exact fun e => h e.symm
        · exact h2 p hp
      · intro h2 p hp; exact h2 p (List.mem_cons_of_mem _ hp)
theorem aget_val {α β : Type} [DecidableEq α] : ∀ {l : List (α × β)} {k : α} {i : Nat}, (afind l k i).map (·.2) = (l.find? fun p => decide (p.1 = k)).map (·.2)
  | [], k, i => rfl
  | (k', v') :: r, k, i => by
    unfold afind
    by_cases h : k = k'
    · rw [if_pos h, List.find?_cons, decide_eq_true h.symm]; rfl
    · rw [if_neg h, aget_val (i := i + 1), List.find?_cons, decide_eq_false (fun e => h e.symm)]
theorem find_modify {α β : Type} [DecidableEq α] (v : β) (k x : α) : ∀ {l : List (α × β)} {i j : Nat} {v0 : β}, afind l k j = some (i, v0) → ((l.modify (i - j) (fun p => (p.1, v))).find? fun p => decide (p.1 = x)).map (·.2) = if x = k then some v else (l.find? fun p => decide (p.1 = x)).map (·.2)
  | [], i, j, v0, h => by cases h
  | (k', v') :: r, i, j, v0, h => by
    unfold afind at h
    by_cases hk : k = k'
    · rw [if_pos hk] at h
      cases h
      rw [Nat.sub_self, List.modify_zero_cons, List.find?_cons, List.find?_cons]
      subst hk
      by_cases hx : k = x
      · rw [decide_eq_true hx, if_pos hx.symm]; rfl
      · rw [decide_eq_false hx, if_neg (fun e => hx e.symm)]
    · rw [if_neg hk] at h
      have hle := (afind_some h).1
      have e : i - j = (i - (j + 1)) + 1 := by omega
      rw [e, List.modify_succ_cons, List.find?_cons, List.find?_cons]
      have ih := find_modify v k x h
      by_cases hx : k' = x
      · rw [decide_eq_true hx, if_neg (fun e => hk (by rw [← e, hx]))]
      · rw [decide_eq_false hx]; exact ih
theorem aget_aset {α β : Type} [DecidableEq α] (l : List (α × β)) (k x : α) (v : β) : aget (aset l k v) x = if x = k then some v else aget l x := by
  unfold aget aset
  rw [aget_val, aget_val]
  cases h : afind l k 0 with
  | none =>
    simp only
    rw [List.find?_append]
    by_cases hx : x = k
    · subst hx
      have : (l.find? fun p => decide (p.1 = x)) = none := by
        rw [List.find?_eq_none]
        intro p hp
        simpa using afind_none.1 h p hp
      rw [this, if_pos rfl]
      simp
    · rw [if_neg hx]
      have : (List.find? (fun p : α × β => decide (p.1 = x)) [(k, v)]) = none := by
        rw [List.find?_cons, decide_eq_false (fun e => hx e.symm)]; rfl
      rw [this, Option.or_none]
  | some p =>
    obtain ⟨i, v0⟩ := p
    exact find_modify v k x h
end Go.Gx
namespace Go.Proofs.Wb
open Go Go.Fw Go.Gx Go.Sb
set_option linter.unusedVariables false
abbrev ML := List (State × Int)
def fR (M : State → ML → Option (Int × ML)) (x : State) (p : Int × ML) : Option (Int × ML) := (M x p.2).bind fun q => (addc p.1 q.1).bind fun t => some (t, q.2)
structure RestEq (M : Nat → State → ML → Option (Int × ML)) (V : State → Prop) (ag : State → Bool) (nx : State → List State) (T : Int) : Prop where
  eq : ∀ fu s ml, V s → M (fu + 1) s ml = if (aget ml s).isSome = true then some ((aget ml s).getD 0, ml) else if ag s = true then (if s.after = T then some (1, aset ml s 1) else (iterL (fR (M fu)) (nx s) (0, ml)).bind fun p => some (p.1, aset p.2 s p.1)) else some (0, aset ml s 0)
  nxV : ∀ s t, V s → s.after < T → t ∈ nx s → V t ∧ t.after = s.after + 1
  le : ∀ s, V s → s.after ≤ T
  len : ∀ s, (nx s).length ≤ 1000
theorem sum_le {α : Type} (f : α → Nat) (B : Nat) : ∀ (l : List α), (∀ x ∈ l, f x ≤ B) → (l.map f).sum ≤ l.length * B
  | [], _ => by simp
  | x :: l, h => by
    rw [List.map_cons, List.sum_cons, List.length_cons, Nat.succ_mul]
    have h1 := h x List.mem_cons_self
    have h2 := sum_le f B l (fun y hy => h y (List.mem_cons_of_mem _ hy))
    omega
theorem R_le {nx : State → List State} {ag : State → Bool} (h : ∀ s, (nx s).length ≤ 1000) : ∀ k s, R nx ag k s ≤ 1000 ^ k
  | 0, s => by rw [R]; split <;> simp
  | k + 1, s => by
    rw [R]
    split
    · have h1 := sum_le (R nx ag k) (1000 ^ k) (nx s) (fun x _ => R_le h k x)
      have h2 := Nat.mul_le_mul_right (1000 ^ k) (h s)
      rw [Nat.pow_succ, Nat.mul_comm]
      omega
    · exact Nat.zero_le _
section
variable {nx : State → List State} {ag : State → Bool} {T : Int}
def valR (nx : State → List State) (ag : State → Bool) (T : Int) (s : State) : Int := (R nx ag (T - s.after).toNat s : Nat)
def Sound (nx : State → List State) (ag : State → Bool) (T : Int) (ml : ML) : Prop := ∀ x v, aget ml x = some v → v = valR nx ag T x
def Closed (nx : State → List State) (ag : State → Bool) (T : Int) (ml : ML) : Prop := ∀ x, (aget ml x).isSome = true → ag x = true → x.after < T → ∀ t ∈ nx x, (aget ml t).isSome = true
def Grows (ml ml' : ML) : Prop := ∀ x, (aget ml x).isSome = true → (aget ml' x).isSome = true
theorem Grows.trans {a b c : ML} (h : Grows a b) (h' : Grows b c) : Grows a c := fun x hx => h' x (h x hx)
theorem Sound.set {ml : ML} (h : Sound nx ag T ml) {s : State} {v : Int} (hv : v = valR nx ag T s) : Sound nx ag T (aset ml s v) := by
  intro x w hx
  rw [aget_aset] at hx
  split at hx
  · rename_i e; subst e; rw [← Option.some.inj hx]; exact hv
  · exact h x w hx
theorem Grows.set (ml : ML) (s : State) (v : Int) : Grows ml (aset ml s v) := by
  intro x hx
  rw [aget_aset]
  split
  · rfl
  · exact hx
theorem Closed.set {ml : ML} (h : Closed nx ag T ml) {s : State} {v : Int} (hs : ag s = true → s.after < T → ∀ t ∈ nx s, (aget ml t).isSome = true) : Closed nx ag T (aset ml s v) := by
  intro x hx ha hl t ht
  by_cases e : x = s
  · subst e; exact Grows.set ml x v t (hs ha hl t ht)
  · rw [aget_aset, if_neg e] at hx
    exact Grows.set ml s v t (h x hx ha hl t ht)
def Good (nx : State → List State) (ag : State → Bool) (T : Int) (ml : ML) (s : State) (r : Option (Int × ML)) : Prop := ∃ ml', r = some (valR nx ag T s, ml') ∧ Sound nx ag T ml' ∧ Closed nx ag T ml' ∧ Grows ml ml' ∧ (aget ml' s).isSome = true
theorem rest_loop {M : State → ML → Option (Int × ML)} : ∀ (l : List State) (n : Int) (ml : ML), (∀ x ∈ l, ∀ ml, Sound nx ag T ml → Closed nx ag T ml → Good nx ag T ml x (M x ml)) → 0 ≤ n → n + ((l.length : Nat) : Int) * 1000000000000 ≤ 1000000000000000 → (∀ x ∈ l, valR nx ag T x ≤ 1000000000000) → Sound nx ag T ml → Closed nx ag T ml →
    ∃ ml', iterL (fR M) l (n, ml) = some (n + ((l.map fun x => R nx ag (T - x.after).toNat x).sum : Nat), ml') ∧ Sound nx ag T ml' ∧ Closed nx ag T ml' ∧ Grows ml ml' ∧ ∀ x ∈ l, (aget ml' x).isSome = true
  | [], n, ml, _, _, _, _, hS, hC => ⟨ml, by simp [iterL], hS, hC, fun _ h => h, fun x hx => by cases hx⟩
  | x :: l, n, ml, hM, h0, hb, hv, hS, hC => by
    obtain ⟨m1, e1, s1, c1, g1, i1⟩ := hM x List.mem_cons_self ml hS hC
    have hx := hv x List.mem_cons_self
    have hx0 : 0 ≤ valR nx ag T x := Int.natCast_nonneg _
    rw [List.length_cons] at hb
    obtain ⟨m2, e2, s2, c2, g2, i2⟩ := rest_loop l (n + valR nx ag T x) m1 (fun y hy => hM y (List.mem_cons_of_mem _ hy)) (by omega) (by push_cast at hb ⊢; omega) (fun y hy => hv y (List.mem_cons_of_mem _ hy)) s1 c1
    refine ⟨m2, ?_, s2, c2, g1.trans g2, fun y hy => ?_⟩
    · rw [iterL]
      unfold fR
      simp only
      rw [e1, Option.bind_some, addc_eq (by push_cast at hb; omega), Option.bind_some, Option.bind_some]
      have := e2
      unfold fR at this
      rw [this, List.map_cons, List.sum_cons]
      unfold valR
      push_cast
      rw [Int.add_assoc]
    · rcases List.mem_cons.1 hy with rfl | hy
      · exact g2 _ i1
      · exact i2 y hy
theorem rest_spec {M : Nat → State → ML → Option (Int × ML)} {V : State → Prop} (h : RestEq M V ag nx T) (hT : 0 ≤ T ∧ T ≤ 4) : ∀ (k : Nat) (fu : Nat) (s : State) (ml : ML), V s → 0 ≤ s.after → (T - s.after).toNat = k → k < fu → Sound nx ag T ml → Closed nx ag T ml → Good nx ag T ml s (M fu s ml) := by
  intro k
  induction k with
  | zero =>
    intro fu s ml hV h0 hk hf hS hC
    obtain ⟨fu, rfl⟩ : ∃ f, fu = f + 1 := ⟨fu - 1, by omega⟩
    have hle := h.le s hV
    have hl : s.after = T := by omega
    rw [h.eq fu s ml hV]
    by_cases h1 : (aget ml s).isSome = true
    · rw [if_pos h1]
      obtain ⟨v, hv⟩ := Option.isSome_iff_exists.1 h1
      refine ⟨ml, ?_, hS, hC, fun _ h => h, h1⟩
      rw [hv, Option.getD_some, hS s v hv]
    · rw [if_neg h1]
      by_cases h2 : ag s = true
      · rw [if_pos h2, if_pos hl]
        have e : (1 : Int) = valR nx ag T s := by unfold valR; rw [hk, R, if_pos h2]; rfl
        refine ⟨_, ?_, hS.set e, hC.set (fun _ hlt => absurd hlt (by omega)), Grows.set _ _ _, by rw [aget_aset, if_pos rfl]; rfl⟩
        rw [← e]
      · rw [if_neg h2]
        have e : (0 : Int) = valR nx ag T s := by unfold valR; rw [hk, R, if_neg h2]; rfl
        refine ⟨_, ?_, hS.set e, hC.set (fun ha => absurd ha h2), Grows.set _ _ _, by rw [aget_aset, if_pos rfl]; rfl⟩
        rw [← e]
  | succ k ih =>
    intro fu s ml hV h0 hk hf hS hC
    obtain ⟨fu, rfl⟩ : ∃ f, fu = f + 1 := ⟨fu - 1, by omega⟩
    have hl : s.after < T := by omega
    rw [h.eq fu s ml hV]
    by_cases h1 : (aget ml s).isSome = true
    · rw [if_pos h1]
      obtain ⟨v, hv⟩ := Option.isSome_iff_exists.1 h1
      refine ⟨ml, ?_, hS, hC, fun _ h => h, h1⟩
      rw [hv, Option.getD_some, hS s v hv]
    · rw [if_neg h1]
      by_cases h2 : ag s = true
      · rw [if_pos h2, if_neg (by omega)]
        have hlen := h.len s
        have hmx : (1000 : Nat) ^ k ≤ 1000 ^ 4 := Nat.pow_le_pow_right (by omega) (by omega)
        obtain ⟨m2, e2, s2, c2, g2, i2⟩ := rest_loop (M := M fu) (nx s) 0 ml (fun x hx ml hS hC => by
            obtain ⟨v1, v2⟩ := h.nxV s x hV hl hx
            exact ih fu x ml v1 (by omega) (by omega) (by omega) hS hC) (by omega) (by omega) (fun x hx => by
            obtain ⟨v1, v2⟩ := h.nxV s x hV hl hx
            have e3 : (T - x.after).toNat = k := by omega
            unfold valR
            rw [e3]
            have := R_le (nx := nx) (ag := ag) h.len k x
            have : R nx ag k x ≤ 1000000000000 := by
              have e4 : (1000 : Nat) ^ 4 = 1000000000000 := by decide
              omega
            omega) hS hC
        have e : ((0 : Int) + (((nx s).map fun x => R nx ag (T - x.after).toNat x).sum : Nat)) = valR nx ag T s := by
          unfold valR
          rw [hk, R, if_pos h2, Int.zero_add]
          congr 2
          apply List.map_congr_left
          intro x hx
          obtain ⟨v1, v2⟩ := h.nxV s x hV hl hx
          rw [show (T - x.after).toNat = k by omega]
        rw [e2, Option.bind_some, e]
        exact ⟨_, rfl, s2.set rfl, c2.set (fun _ _ => i2), g2.trans (Grows.set _ _ _), by rw [aget_aset, if_pos rfl]; rfl⟩
      · rw [if_neg h2]
        have e : (0 : Int) = valR nx ag T s := by unfold valR; rw [hk, R, if_neg h2]; rfl
        refine ⟨_, ?_, hS.set e, hC.set (fun ha => absurd ha h2), Grows.set _ _ _, by rw [aget_aset, if_pos rfl]; rfl⟩
        rw [← e]
end
end Go.Proofs.Wb

namespace Go.Proofs.Wb
open Go Go.Fw Go.Gx Go.Sb
set_option linter.unusedVariables false
set_option maxRecDepth 100000
theorem iterL_pair {α σ τ : Type} (g : σ → τ) {f : α → σ → Option σ} {f' : α → τ → Option τ} (h : ∀ x s, (f x s).map g = f' x (g s)) : ∀ (l : List α) (s : σ), (iterL f l s).map g = iterL f' l (g s)
  | [], s => rfl
  | x :: l, s => by
    rw [iterL, iterL, ← h]
    cases f x s with
    | none => rfl
    | some s' => exact iterL_pair g h l s'
def VS (c : Channel) (s : State) : Prop := (∃ l, rowB c l = true ∧ s.at_ = mkCells l) ∧ 0 ≤ s.after ∧ s.after ≤ c.tides
def agS (cnt : Nat → Bool) (c : Channel) (s : State) : Bool := agP cnt c.sights s.after (clS c.fords.length s)
def nxS (c : Channel) (s : State) : List State := nextL c.cells (rchL c) (c.fords.length : Int) s
theorem putL_len {n : Nat} {reach : List Int} {a : Cells} : ∀ (m : Nat) (pre : List Int), (putL n reach a m pre).length ≤ n ^ m
  | 0, pre => by simp [putL]
  | m + 1, pre => by
    rw [putL, List.length_flatMap]
    have h := sum_le (fun x : Nat => (if okN reach a pre (x : Int) = true then putL n reach a m (pre ++ [(x : Int)]) else []).length) (n ^ m) (List.range n) (fun x _ => by
      split
      · exact putL_len m _
      · exact Nat.zero_le _)
    rw [List.length_range] at h
    rw [Nat.pow_succ, Nat.mul_comm]
    exact h
theorem nxS_len {c : Channel} (r : Right c) (s : State) : (nxS c s).length ≤ 1000 := by
  have hc := r.cells
  have hf := r.fords
  unfold nxS nextL
  rw [List.length_map]
  refine Nat.le_trans (putL_len _ _) ?_
  have h1 : c.cells.toNat ^ (c.fords.length : Int).toNat ≤ 10 ^ (c.fords.length : Int).toNat := Nat.pow_le_pow_left (by omega) _
  have h2 : 10 ^ (c.fords.length : Int).toNat ≤ 10 ^ 3 := Nat.pow_le_pow_right (by omega) (by omega)
  omega
theorem nxS_mem {c : Channel} (r : Right c) {s t : State} : t ∈ nxS c s ↔ ∃ l, CanS c.cells (rchL c) c.fords.length s.at_ l ∧ t = ⟨s.after + 1, mkCells l⟩ := by
  have hc := r.cells
  unfold nxS
  rw [mem_nextL (by omega), Int.toNat_natCast]
theorem row_of_can {c : Channel} {a : Cells} {l : List Int} (h : CanS c.cells (rchL c) c.fords.length a l) : rowB c l = true := by
  rw [rowB_iff]
  refine ⟨h.len, upB_ix.2 fun i hi => h.up i (by rw [← h.len]; exact hi), fun x hx => ?_⟩
  obtain ⟨i, hi, rfl⟩ := List.getElem_of_mem hx
  have := h.inC i (by rw [← h.len]; exact hi)
  simpa [List.getD_eq_getElem?_getD, hi] using this
theorem nxS_V {c : Channel} (r : Right c) {s t : State} (hs : VS c s) (hl : s.after < c.tides) (ht : t ∈ nxS c s) : VS c t ∧ t.after = s.after + 1 := by
  obtain ⟨l, h1, rfl⟩ := (nxS_mem r).1 ht
  obtain ⟨_, h2, h3⟩ := hs
  exact ⟨⟨⟨l, row_of_can h1, rfl⟩, by simp only; omega, by simp only; omega⟩, rfl⟩
theorem nxS_nodup {c : Channel} (r : Right c) (s : State) : (nxS c s).Nodup := nextL_nodup (by have := r.fords; omega)
theorem VS_next {c : Channel} (r : Right c) {s : State} (h : VS c s) : nextOK c.cells (rchL c) (c.fords.length : Int) s := by
  obtain ⟨⟨l, h1, h2⟩, h3, h4⟩ := h
  have ht := r.tides
  obtain ⟨k, a⟩ := s
  simp only at h2 h3 h4
  subst h2
  exact nextOK_of r h1 (by omega)
def MR (c : Channel) (fu : Nat) (s : State) (ml : ML) : Option (Int × ML) := (jL fu s ml c.cells c.tides c.fords c.sands c.sights (rchL c)).map fun q => (q.r0, q.a11)
theorem restEq_all {c : Channel} (r : Right c) : RestEq (MR c) (VS c) (agS (fun _ => true) c) (nxS c) c.tides where
  eq fu s ml hV := by
    have hf := r.fords
    have hs := r.sights
    unfold MR
    rw [jL]
    unfold yg
    by_cases h1 : (aget ml s).isSome = true
    · rw [if_pos h1, if_pos h1]; rfl
    · rw [if_neg h1, if_neg h1, jam (by omega) (by omega), Option.bind_some, not_true_if]
      show _ = if agS (fun _ => true) c s = true then _ else _
      unfold agS
      by_cases h2 : agP (fun _ => true) c.sights s.after (clS c.fords.length s) = true
      · rw [if_pos h2, if_pos h2]
        by_cases h3 : s.after = c.tides
        · rw [if_pos h3, if_pos h3]; rfl
        · rw [if_neg h3, if_neg h3]
          unfold qg
          rw [Option.bind_some, if_pos (VS_next r hV)]
          have hp := iterL_pair (fun q : ks => (q.n9, q.a11)) (f := qb (jL fu) c.cells c.tides c.fords c.sands c.sights (rchL c)) (f' := fR (MR c fu)) (fun x q => by
            unfold qb fR MR
            cases jL fu x q.a11 c.cells c.tides c.fords c.sands c.sights (rchL c) with
            | none => rfl
            | some q' =>
              simp only [Option.bind_some, Option.map_some]
              cases addc q.n9 q'.r0 <;> rfl) (nxS c s) ⟨0, ml⟩
          simp only at hp
          show _ = (iterL (fR (MR c fu)) (nxS c s) (0, ml)).bind _
          rw [← hp]
          unfold nxS
          cases iterL (qb (jL fu) c.cells c.tides c.fords c.sands c.sights (rchL c)) (nextL c.cells (rchL c) (c.fords.length : Int) s) ⟨0, ml⟩ <;> rfl
      · rw [if_neg h2, if_neg h2]; rfl
  nxV s t hs hl ht := nxS_V r hs hl ht
  le s hs := hs.2.2
  len s := nxS_len r s
def first (c : Channel) : State := ⟨0, mkCells c.fords⟩
theorem first_V {c : Channel} (r : Right c) : VS c (first c) := ⟨⟨c.fords, rowB_iff.2 ⟨rfl, r.up, r.fcell⟩, rfl⟩, Int.le_refl _, r.tides.1⟩
theorem jaz {c : Channel} (r : Right c) : ∃ ml, q9 c.cells c.tides c.fords c.sands c.sights (rchL c) = some ml ∧ Sound (nxS c) (agS (fun _ => true) c) c.tides ml ∧ Closed (nxS c) (agS (fun _ => true) c) c.tides ml ∧ (aget ml (first c)).isSome = true := by
  have hf := r.fords
  have ht := r.tides
  unfold q9
  rw [ZH (by omega), Option.bind_some]
  obtain ⟨ml, e, s1, c1, _, i1⟩ := rest_spec (restEq_all r) ht (c.tides - (first c).after).toNat FU (first c) [] (first_V r) (Int.le_refl _) rfl (by unfold first FU; simp only; omega) (fun x v hx => by simp [aget, afind] at hx) (fun x hx => by simp [aget, afind] at hx)
  unfold MR at e
  rw [Option.map_eq_some_iff] at e
  obtain ⟨q, e1, e2⟩ := e
  simp only [Prod.mk.injEq] at e2
  refine ⟨ml, ?_, s1, c1, i1⟩
  show (jL FU (first c) [] c.cells c.tides c.fords c.sands c.sights (rchL c)).bind _ = _
  rw [e1, Option.bind_some, e2.2]
def cntS (cnt : Nat → Bool) (c : Channel) : Nat := R (nxS c) (agS cnt c) c.tides.toNat (first c)
end Go.Proofs.Wb

namespace Go.Proofs.Wb
open Go Go.Fw Go.Gx Go.Sb
set_option linter.unusedVariables false
set_option maxRecDepth 100000
def stepP (ml : ML) (p : List (State × Bool) × List State) (x : State) : List (State × Bool) × List State := if 0 < (aget ml x).getD 0 ∧ (aget p.1 x).getD false = false then (aset p.1 x true, p.2 ++ [x]) else p
theorem stepP_len (ml : ML) : ∀ (L : List State) (p : List (State × Bool) × List State), (L.foldl (stepP ml) p).2.length ≤ p.2.length + L.length
  | [], p => by simp
  | x :: L, p => by
    rw [List.foldl_cons, List.length_cons]
    have h := stepP_len ml L (stepP ml p x)
    have h2 : (stepP ml p x).2.length ≤ p.2.length + 1 := by
      unfold stepP
      split
      · simp
      · omega
    omega
theorem fit_F2 (ml : ML) : ∀ (L : List State) (p : List (State × Bool) × List State), p.2.length + L.length ≤ 3000000000000 → iterL (qy ml) L ⟨p.1, p.2⟩ = some ⟨(L.foldl (stepP ml) p).1, (L.foldl (stepP ml) p).2⟩
  | [], p, _ => rfl
  | x :: L, p, h => by
    rw [List.length_cons] at h
    rw [iterL, List.foldl_cons]
    have hs : qy ml x ⟨p.1, p.2⟩ = some ⟨(stepP ml p x).1, (stepP ml p x).2⟩ := by
      unfold qy stepP
      simp only
      by_cases h1 : 0 < (aget ml x).getD 0
      · rw [if_pos h1, Option.bind_some]
        by_cases h2 : (aget p.1 x).getD false = false
        · rw [if_pos (by simp [h2]), if_pos ⟨h1, h2⟩, appc_eq (by simp; omega)]
          rfl
        · rw [if_neg (by simpa using h2), if_neg (fun q => h2 q.2)]
      · rw [if_neg h1, Option.bind_some, if_neg (by decide), if_neg (fun q => h1 q.1)]
    have h2 : (stepP ml p x).2.length ≤ p.2.length + 1 := stepP_len ml [x] p
    rw [hs, Option.bind_some]
    exact fit_F2 ml L (stepP ml p x) (by omega)
def Met (p : List (State × Bool) × List State) : Prop := ∀ x, (aget p.1 x).getD false = decide (x ∈ p.2)
theorem stepP_met {ml : ML} {p : List (State × Bool) × List State} {x : State} (h : Met p) : Met (stepP ml p x) ∧ ∀ y, y ∈ (stepP ml p x).2 ↔ y ∈ p.2 ∨ (y = x ∧ 0 < (aget ml y).getD 0) := by
  unfold stepP
  by_cases h1 : 0 < (aget ml x).getD 0 ∧ (aget p.1 x).getD false = false
  · rw [if_pos h1]
    constructor
    · intro y
      simp only
      rw [aget_aset]
      by_cases e : y = x
      · rw [if_pos e]; simp [e]
      · rw [if_neg e, h y]; simp [e]
    · intro y
      simp only [List.mem_append, List.mem_singleton]
      constructor
      · rintro (h2 | rfl)
        · exact .inl h2
        · exact .inr ⟨rfl, h1.1⟩
      · rintro (h2 | ⟨rfl, _⟩)
        · exact .inl h2
        · exact .inr rfl
  · rw [if_neg h1]
    refine ⟨h, fun y => ⟨.inl, ?_⟩⟩
    rintro (h2 | ⟨rfl, h2⟩)
    · exact h2
    · have h3 : ¬ (aget p.1 y).getD false = false := fun q => h1 ⟨h2, q⟩
      rw [h y] at h3
      simpa using h3
theorem foldP_met {ml : ML} : ∀ (L : List State) (p : List (State × Bool) × List State), Met p → Met (L.foldl (stepP ml) p) ∧ ∀ y, y ∈ (L.foldl (stepP ml) p).2 ↔ y ∈ p.2 ∨ (y ∈ L ∧ 0 < (aget ml y).getD 0)
  | [], p, h => ⟨h, fun y => by simp⟩
  | x :: L, p, h => by
    obtain ⟨h1, h2⟩ := stepP_met (ml := ml) (x := x) h
    obtain ⟨h3, h4⟩ := foldP_met L _ h1
    refine ⟨h3, fun y => ?_⟩
    rw [List.foldl_cons, h4 y, h2 y, List.mem_cons]
    constructor
    · rintro ((h | ⟨h, q⟩) | ⟨h, q⟩)
      · exact .inl h
      · exact .inr ⟨.inl h, q⟩
      · exact .inr ⟨.inr h, q⟩
    · rintro (h | ⟨h | h, q⟩)
      · exact .inl (.inl h)
      · exact .inl (.inr ⟨h, q⟩)
      · exact .inr ⟨h, q⟩
def rowP (ml : ML) (nx : State → List State) (l : List State) : List State := ((l.flatMap nx).foldl (stepP ml) ([], [])).2
theorem mem_rowP {ml : ML} {nx : State → List State} {l : List State} {y : State} : y ∈ rowP ml nx l ↔ (∃ s ∈ l, y ∈ nx s) ∧ 0 < (aget ml y).getD 0 := by
  unfold rowP
  rw [(foldP_met (ml := ml) (l.flatMap nx) ([], []) (fun x => by simp [aget, afind])).2 y, List.mem_flatMap]
  simp
theorem flatMap_len {nx : State → List State} (h : ∀ s, (nx s).length ≤ 1000) (l : List State) : (l.flatMap nx).length ≤ l.length * 1000 := by
  rw [List.length_flatMap]
  exact sum_le (fun s => (nx s).length) 1000 l (fun x _ => h x)
theorem rowP_len {ml : ML} {nx : State → List State} (h : ∀ s, (nx s).length ≤ 1000) (l : List State) : (rowP ml nx l).length ≤ l.length * 1000 := by
  have := stepP_len ml (l.flatMap nx) ([], [])
  have := flatMap_len h l
  unfold rowP
  simp only [List.length_nil, Nat.zero_add] at *
  omega
theorem fit_L1 {c : Channel} (r : Right c) (ml : ML) {l : List State} (hl : l.length ≤ 1000000000) (hV : ∀ s ∈ l, VS c s) :
    ∃ met, iterM FU (kP l c.cells c.tides c.fords c.sands c.sights (rchL c) ml) ⟨0, [], []⟩ = some ⟨met, rowP ml (nxS c) l⟩ := by
  refine ⟨((l.flatMap (nxS c)).foldl (stepP ml) ([], [])).1, ?_⟩
  have key := iterM_run (f := kP l c.cells c.tides c.fords c.sands c.sights (rchL c) ml) (fun j => ⟨(j : Int), (((l.take j).flatMap (nxS c)).foldl (stepP ml) ([], [])).1, (((l.take j).flatMap (nxS c)).foldl (stepP ml) ([], [])).2⟩) l.length (b := ⟨((l.flatMap (nxS c)).foldl (stepP ml) ([], [])).1, ((l.flatMap (nxS c)).foldl (stepP ml) ([], [])).2⟩) (fun j hj => ?_) ?_ FU (FU_lt (by omega))
  · exact key
  · have e : l.take (j + 1) = l.take j ++ [l[j]] := by rw [List.take_append_getElem]
    have hx : l.getD j default = l[j] := by simp [List.getD_eq_getElem?_getD, hj]
    unfold kP qg
    simp only
    rw [if_pos (by omega), ix_nat default hj, Option.bind_some, hx, Option.bind_some, if_pos (VS_next r (hV _ (List.getElem_mem hj)))]
    have h1 := stepP_len ml ((l.take j).flatMap (nxS c)) ([], [])
    have h2 := flatMap_len (nxS_len r) (l.take j)
    have h3 := nxS_len r l[j]
    have h4 : (l.take j).length ≤ l.length := by rw [List.length_take]; omega
    have h5 := Nat.mul_le_mul_right 1000 h4
    have hf := fit_F2 ml (nxS c l[j]) (((l.take j).flatMap (nxS c)).foldl (stepP ml) ([], [])) (by simp only [List.length_nil, Nat.zero_add] at h1; omega)
    unfold nxS at hf
    unfold nxS
    rw [hf, Option.bind_some, addc_eq (by omega), Option.bind_some, e, List.flatMap_append, List.foldl_append]
    simp
  · unfold kP
    simp only
    rw [if_neg (by omega), List.take_length]
def lev (c : Channel) (ml : ML) : Nat → List State
  | 0 => [first c]
  | k + 1 => rowP ml (nxS c) (lev c ml k)
theorem lev_len {c : Channel} (r : Right c) (ml : ML) : ∀ k, (lev c ml k).length ≤ 1000 ^ k
  | 0 => by simp [lev]
  | k + 1 => by
    have h := rowP_len (ml := ml) (nxS_len r) (lev c ml k)
    have h2 := Nat.mul_le_mul_right 1000 (lev_len r ml k)
    rw [lev, Nat.pow_succ]
    omega
theorem lev_V {c : Channel} (r : Right c) (ml : ML) : ∀ k : Nat, (k : Int) ≤ c.tides → ∀ s ∈ lev c ml k, VS c s ∧ s.after = (k : Int)
  | 0, _, s, hs => by
    simp only [lev, List.mem_singleton] at hs
    subst hs
    exact ⟨first_V r, rfl⟩
  | k + 1, hk, s, hs => by
    obtain ⟨⟨u, hu, hn⟩, _⟩ := mem_rowP.1 hs
    obtain ⟨h1, h2⟩ := lev_V r ml k (by omega) u hu
    obtain ⟨h3, h4⟩ := nxS_V r h1 (by omega) hn
    exact ⟨h3, by omega⟩
theorem lev_on {c : Channel} (r : Right c) {ml : ML} (hS : Sound (nxS c) (agS (fun _ => true) c) c.tides ml) (hC : Closed (nxS c) (agS (fun _ => true) c) c.tides ml) (hi : (aget ml (first c)).isSome = true) (hp : 0 < cntS (fun _ => true) c) :
    ∀ k : Nat, (k : Int) ≤ c.tides → ∀ t, (t ∈ lev c ml k ↔ On (nxS c) (agS (fun _ => true) c) k c.tides.toNat (first c) t) ∧ (t ∈ lev c ml k → (aget ml t).isSome = true)
  | 0, _, t => by
    constructor
    · rw [lev, List.mem_singleton, on_zero]
      constructor
      · intro h; exact ⟨h, hp⟩
      · exact fun h => h.1
    · intro h
      rw [lev, List.mem_singleton] at h
      rw [h]; exact hi
  | k + 1, hk, t => by
    have ih := lev_on r hS hC hi hp k (by omega)
    have hsome : t ∈ lev c ml (k + 1) → (aget ml t).isSome = true := by
      intro h
      have h2 := (mem_rowP.1 h).2
      cases hq : aget ml t with
      | none => rw [hq] at h2; simp at h2
      | some v => rfl
    refine ⟨?_, hsome⟩
    rw [on_succ (by omega)]
    constructor
    · intro h
      obtain ⟨⟨u, hu, hn⟩, h2⟩ := mem_rowP.1 h
      obtain ⟨v1, v2⟩ := lev_V r ml k (by omega) u hu
      obtain ⟨v3, v4⟩ := nxS_V r v1 (by omega) hn
      refine ⟨u, (ih u).1.1 hu, hn, ?_⟩
      obtain ⟨v, hv⟩ := Option.isSome_iff_exists.1 (hsome h)
      have h3 := hS t v hv
      rw [hv, Option.getD_some, h3] at h2
      unfold valR at h2
      rw [show (c.tides - t.after).toNat = c.tides.toNat - k - 1 by omega] at h2
      omega
    · rintro ⟨u, hu, hn, h2⟩
      have hu' := (ih u).1.2 hu
      obtain ⟨v1, v2⟩ := lev_V r ml k (by omega) u hu'
      obtain ⟨v3, v4⟩ := nxS_V r v1 (by omega) hn
      have hag := R_ag (on_R (by omega) hu)
      have hst := hC u ((ih u).2 hu') hag (by omega) t hn
      obtain ⟨v, hv⟩ := Option.isSome_iff_exists.1 hst
      have h3 := hS t v hv
      refine mem_rowP.2 ⟨⟨u, hu', hn⟩, ?_⟩
      rw [hv, Option.getD_some, h3]
      unfold valR
      rw [show (c.tides - t.after).toNat = c.tides.toNat - k - 1 by omega]
      omega
structure Levs (c : Channel) (L : List (List State)) : Prop where
  len : (L.length : Int) = c.tides + 1
  mem : ∀ k : Nat, (k : Int) ≤ c.tides → ∀ t, t ∈ L.getD k [] ↔ On (nxS c) (agS (fun _ => true) c) k c.tides.toNat (first c) t
  val : ∀ k : Nat, (k : Int) ≤ c.tides → ∀ s ∈ L.getD k [], VS c s ∧ s.after = (k : Int)
  bnd : ∀ k : Nat, (k : Int) ≤ c.tides → (L.getD k []).length ≤ 1000000000000
theorem Z6 {c : Channel} (r : Right c) : ∃ L, yj c.cells c.tides c.fords c.sands c.sights (rchL c) = some (if cntS (fun _ => true) c = 0 then .inl () else .inr L) ∧ (cntS (fun _ => true) c ≠ 0 → Levs c L) := by
  have hf := r.fords
  have ht := r.tides
  obtain ⟨ml, e, s1, c1, i1⟩ := jaz r
  obtain ⟨v, hv⟩ := Option.isSome_iff_exists.1 i1
  have hv2 := s1 _ _ hv
  have hv3 : v = (cntS (fun _ => true) c : Int) := by
    rw [hv2]
    unfold valR cntS first
    simp
  refine ⟨(List.range (c.tides.toNat + 1)).map (lev c ml), ?_, ?_⟩
  · unfold yj KS
    rw [Option.bind_some, e, Option.bind_some, ZH (by omega), Option.bind_some]
    show (if (aget ml (first c)).getD 0 = 0 then _ else _) = _
    rw [hv, Option.getD_some, hv3]
    by_cases h0 : cntS (fun _ => true) c = 0
    · rw [if_pos (by omega), if_pos h0]
    · rw [if_neg (by omega), if_neg h0, Option.bind_some]
      have key := iterM_run (f := kQ c.tides c.cells c.fords c.sands c.sights (rchL c) ml) (fun j => ⟨(j : Int), (List.range (j + 1)).map (lev c ml)⟩) c.tides.toNat (b := (List.range (c.tides.toNat + 1)).map (lev c ml)) (fun j hj => ?_) ?_ FU (FU_lt (by omega))
      · show (iterM FU (kQ c.tides c.cells c.fords c.sands c.sights (rchL c) ml) ⟨((0 : Nat) : Int), (List.range (0 + 1)).map (lev c ml)⟩).bind _ = _
        rw [key]; rfl
      · unfold kQ
        simp only
        have hlen := lev_len r ml j
        have hpw : (1000 : Nat) ^ j ≤ 1000 ^ 3 := Nat.pow_le_pow_right (by omega) (by omega)
        have e3 : (1000 : Nat) ^ 3 = 1000000000 := by decide
        obtain ⟨met, hm⟩ := fit_L1 r ml (l := lev c ml j) (by omega) (fun s hs => (lev_V r ml j (by omega) s hs).1)
        rw [if_pos (by omega), range_ix (by omega), Option.bind_some, hm, Option.bind_some, appc_eq (by simp; omega), Option.bind_some, addc_eq (by omega), Option.bind_some, List.range_succ (n := j + 1), List.map_append]
        rfl
      · unfold kQ
        simp only
        rw [if_neg (by omega)]
  · intro h0
    have hg : ∀ k : Nat, (k : Int) ≤ c.tides → ((List.range (c.tides.toNat + 1)).map (lev c ml)).getD k [] = lev c ml k := by
      intro k hk
      rw [List.getD_eq_getElem?_getD, List.getElem?_map, List.getElem?_range (by omega)]
      rfl
    refine ⟨by simp; omega, fun k hk t => ?_, fun k hk s hs => ?_, fun k hk => ?_⟩
    · rw [hg k hk]; exact (lev_on r s1 c1 i1 (by omega) k hk t).1
    · rw [hg k hk] at hs; exact lev_V r ml k hk s hs
    · rw [hg k hk]
      have := lev_len r ml k
      have hpw : (1000 : Nat) ^ k ≤ 1000 ^ 4 := Nat.pow_le_pow_right (by omega) (by omega)
      have e4 : (1000 : Nat) ^ 4 = 1000000000000 := by decide
      omega
theorem Yx {c : Channel} (h : Few c) : ∃ L, qq c = some (if chk c = 0 then (if cntS (fun _ => true) c = 0 then .inl 7 else .inr ⟨c.cells, c.tides, L, rchL c⟩) else .inl (chk c)) ∧ (chk c = 0 → cntS (fun _ => true) c ≠ 0 → Levs c L) := by
  unfold qq
  rw [jag h, Option.bind_some]
  by_cases h0 : chk c = 0
  · have r := rightOf h0
    obtain ⟨L, e, hL⟩ := Z6 r
    refine ⟨L, ?_, fun _ h1 => hL h1⟩
    rw [if_pos h0, if_pos h0, oc_inr, e, Option.bind_some]
    by_cases h1 : cntS (fun _ => true) c = 0
    · rw [if_pos h1, if_pos h1, oc_inl]
    · rw [if_neg h1, if_neg h1, oc_inr, if_pos (by have := (hL h1).len; have := r.tides; omega)]
  · exact ⟨[], by rw [if_neg h0, if_neg h0, oc_inl], fun h => absurd h h0⟩
end Go.Proofs.Wb

namespace Go.Proofs.Wb
open Go Go.Fw Go.Gx Go.Sb
set_option linter.unusedVariables false
set_option maxRecDepth 100000
def sumN {α : Type} (l : List α) (f : α → Nat) : Nat := (l.map f).sum
theorem sumN_nil {α : Type} (f : α → Nat) : sumN [] f = 0 := rfl
theorem sumN_cons {α : Type} (x : α) (l : List α) (f : α → Nat) : sumN (x :: l) f = f x + sumN l f := by unfold sumN; rw [List.map_cons, List.sum_cons]
theorem sumN_append {α : Type} (l m : List α) (f : α → Nat) : sumN (l ++ m) f = sumN l f + sumN m f := by unfold sumN; rw [List.map_append, List.sum_append]
theorem sumN_congr {α : Type} {l : List α} {f g : α → Nat} (h : ∀ x ∈ l, f x = g x) : sumN l f = sumN l g := by unfold sumN; rw [List.map_congr_left h]
theorem sumN_zero {α : Type} {l : List α} {f : α → Nat} (h : ∀ x ∈ l, f x = 0) : sumN l f = 0 := by
  induction l with
  | nil => rfl
  | cons x l ih => rw [sumN_cons, h x List.mem_cons_self, ih (fun y hy => h y (List.mem_cons_of_mem _ hy))]
theorem sumN_add {α : Type} (l : List α) (f g : α → Nat) : sumN l (fun x => f x + g x) = sumN l f + sumN l g := by
  induction l with
  | nil => rfl
  | cons x l ih => rw [sumN_cons, sumN_cons, sumN_cons, ih]; omega
theorem sumN_mul {α : Type} (l : List α) (f : α → Nat) (k : Nat) : sumN l (fun x => f x * k) = sumN l f * k := by
  induction l with
  | nil => simp [sumN]
  | cons x l ih => rw [sumN_cons, sumN_cons, ih, Nat.add_mul]
theorem sumN_mul' {α : Type} (l : List α) (f : α → Nat) (k : Nat) : sumN l (fun x => k * f x) = k * sumN l f := by
  induction l with
  | nil => simp [sumN]
  | cons x l ih => rw [sumN_cons, sumN_cons, ih, Nat.mul_add]
theorem sumN_comm {α β : Type} (l : List α) (m : List β) (f : α → β → Nat) : sumN l (fun x => sumN m fun y => f x y) = sumN m fun y => sumN l fun x => f x y := by
  induction l with
  | nil => rw [sumN_nil, sumN_zero (fun y _ => sumN_nil _)]
  | cons x l ih =>
    rw [sumN_cons, ih, ← sumN_add]
    refine sumN_congr fun y _ => ?_
    rw [sumN_cons]
theorem sumN_pos {α : Type} {l : List α} {f : α → Nat} : 0 < sumN l f ↔ ∃ x ∈ l, 0 < f x := by
  induction l with
  | nil => simp [sumN]
  | cons x l ih =>
    rw [sumN_cons]
    constructor
    · intro h
      by_cases hx : 0 < f x
      · exact ⟨x, List.mem_cons_self, hx⟩
      · obtain ⟨y, hy, h2⟩ := ih.1 (by omega)
        exact ⟨y, List.mem_cons_of_mem _ hy, h2⟩
    · rintro ⟨y, hy, h⟩
      rcases List.mem_cons.1 hy with rfl | hy
      · omega
      · have := ih.2 ⟨y, hy, h⟩; omega
theorem sumN_perm {α : Type} {l m : List α} (h : l.Perm m) (f : α → Nat) : sumN l f = sumN m f := by
  unfold sumN
  exact (h.map f).sum_nat
theorem sumN_map {α β : Type} (l : List α) (g : α → β) (f : β → Nat) : sumN (l.map g) f = sumN l fun x => f (g x) := by unfold sumN; rw [List.map_map]; rfl
theorem sumN_filter {α : Type} (l : List α) (p : α → Bool) (f : α → Nat) : sumN (l.filter p) f = sumN l fun x => if p x = true then f x else 0 := by
  induction l with
  | nil => rfl
  | cons x l ih =>
    rw [List.filter_cons, sumN_cons, ← ih]
    split
    · rw [sumN_cons]
    · rw [Nat.zero_add]
theorem sumN_one {α : Type} [DecidableEq α] {l : List α} (hn : l.Nodup) {a : α} (ha : a ∈ l) (k : Nat) : sumN l (fun x => if x = a then k else 0) = k := by
  induction l with
  | nil => cases ha
  | cons x l ih =>
    obtain ⟨h1, h2⟩ := List.nodup_cons.1 hn
    rw [sumN_cons]
    by_cases hx : x = a
    · subst hx
      rw [if_pos rfl, sumN_zero (fun y hy => if_neg (fun e : y = x => h1 (e ▸ hy)))]
      rfl
    · rw [if_neg hx, ih h2 ((List.mem_cons.1 ha).resolve_left (fun e => hx e.symm)), Nat.zero_add]
def incL (below : Nat) : Nat → Nat → List (List Int)
  | 0, _ => [[]]
  | m + 1, fr => (List.range (below - fr)).flatMap fun d => (incL below m (fr + d + 1)).map (((fr + d : Nat) : Int) :: ·)
theorem mem_incL {below : Nat} : ∀ (m fr : Nat) (l : List Int), l ∈ incL below m fr ↔ l.length = m ∧ upB l = true ∧ ∀ x ∈ l, (fr : Int) ≤ x ∧ x < (below : Int)
  | 0, fr, l => by
    rw [incL, List.mem_singleton]
    constructor
    · rintro rfl; exact ⟨rfl, rfl, fun x hx => by cases hx⟩
    · rintro ⟨h, _⟩; exact List.length_eq_zero_iff.1 h
  | m + 1, fr, l => by
    rw [incL]
    simp only [List.mem_flatMap, List.mem_range, List.mem_map]
    constructor
    · rintro ⟨d, hd, v, hv, rfl⟩
      obtain ⟨h1, h2, h3⟩ := (mem_incL m _ v).1 hv
      refine ⟨by simp [h1], ?_, fun x hx => ?_⟩
      · rw [upB_iff, List.pairwise_cons]
        exact ⟨fun y hy => by have := h3 y hy; push_cast at this ⊢; omega, upB_iff.1 h2⟩
      · rcases List.mem_cons.1 hx with rfl | hx
        · push_cast; omega
        · have := h3 x hx; push_cast at this; omega
    · rintro ⟨h1, h2, h3⟩
      cases l with
      | nil => simp at h1
      | cons y v =>
        have hy := h3 y List.mem_cons_self
        obtain ⟨q1, q2⟩ := List.pairwise_cons.1 (upB_iff.1 h2)
        refine ⟨y.toNat - fr, by omega, v, (mem_incL m _ v).2 ⟨by simpa using h1, upB_iff.2 q2, fun x hx => ?_⟩, ?_⟩
        · have a := q1 x hx
          have b := h3 x (List.mem_cons_of_mem _ hx)
          push_cast
          omega
        · congr 1
          omega
theorem incL_nodup {below : Nat} : ∀ (m fr : Nat), (incL below m fr).Nodup
  | 0, fr => by simp [incL]
  | m + 1, fr => by
    rw [incL]
    refine nodup_flatMap' List.nodup_range (fun d _ => nodup_map' (incL_nodup m _) (fun a _ b _ h => by simpa using h)) ?_
    intro d _ e _ w h1 h2
    obtain ⟨v, _, rfl⟩ := List.mem_map.1 h1
    obtain ⟨v', _, he⟩ := List.mem_map.1 h2
    injection he with he _
    omega
theorem incL_len {below : Nat} : ∀ (m fr : Nat), (incL below m fr).length ≤ below ^ m
  | 0, fr => by simp [incL]
  | m + 1, fr => by
    rw [incL, List.length_flatMap]
    have h := sum_le (fun d => ((incL below m (fr + d + 1)).map (((fr + d : Nat) : Int) :: ·)).length) (below ^ m) (List.range (below - fr)) (fun d _ => by rw [List.length_map]; exact incL_len m _)
    rw [List.length_range] at h
    have h2 := Nat.mul_le_mul_right (below ^ m) (show below - fr ≤ below by omega)
    rw [Nat.pow_succ, Nat.mul_comm]
    omega
def LL (c : Channel) : List (List Int) := incL c.cells.toNat c.fords.length 0
theorem mem_LL {c : Channel} (hc : 0 ≤ c.cells) {l : List Int} : l ∈ LL c ↔ rowB c l = true := by
  unfold LL
  rw [mem_incL, rowB_iff]
  constructor
  · rintro ⟨h1, h2, h3⟩; exact ⟨h1, h2, fun x hx => by have := h3 x hx; push_cast at this; omega⟩
  · rintro ⟨h1, h2, h3⟩; exact ⟨h1, h2, fun x hx => by have := h3 x hx; push_cast; omega⟩
theorem LL_nodup (c : Channel) : (LL c).Nodup := incL_nodup _ _
theorem LL_len {c : Channel} (r : Right c) : (LL c).length ≤ 1000 := by
  have hc := r.cells
  have hf := r.fords
  refine Nat.le_trans (incL_len _ _) ?_
  have h1 : c.cells.toNat ^ c.fords.length ≤ 10 ^ c.fords.length := Nat.pow_le_pow_left (by omega) _
  have h2 : 10 ^ c.fords.length ≤ 10 ^ 3 := Nat.pow_le_pow_right (by omega) (by omega)
  omega
def stL (k : Nat) (l : List Int) : State := ⟨(k : Int), mkCells l⟩
theorem nxS_perm {c : Channel} (r : Right c) {k : Nat} {a : List Int} (ha : rowB c a = true) : (nxS c (stL k a)).Perm (((LL c).filter fun l => canB c.sands a l).map (stL (k + 1))) := by
  have hc := r.cells
  have hf := r.fords
  refine (List.perm_ext_iff_of_nodup (nxS_nodup r _) (nodup_map' ((LL_nodup c).filter _) (fun x hx y hy h => ?_))).2 (fun t => ?_)
  · have hx' := (rowB_iff.1 ((mem_LL (by omega)).1 (List.mem_filter.1 hx).1)).1
    have hy' := (rowB_iff.1 ((mem_LL (by omega)).1 (List.mem_filter.1 hy).1)).1
    simp only [stL, State.mk.injEq, true_and] at h
    exact mkCells_inj (by omega) (by omega) h
  · rw [nxS_mem r, List.mem_map]
    constructor
    · rintro ⟨l, h, rfl⟩
      have hr := row_of_can h
      exact ⟨l, List.mem_filter.2 ⟨(mem_LL (by omega)).2 hr, (can_iff r ha hr).2 h⟩, by simp [stL]⟩
    · rintro ⟨l, h, rfl⟩
      obtain ⟨h1, h2⟩ := List.mem_filter.1 h
      exact ⟨l, (can_iff r ha ((mem_LL (by omega)).1 h1)).1 h2, by simp [stL]⟩
def FcL (cnt : Nat → Bool) (c : Channel) : Nat → List Int → Nat
  | 0, l => if agP cnt c.sights 0 l = true ∧ l = c.fords then 1 else 0
  | k + 1, l => if agP cnt c.sights ((k + 1 : Nat) : Int) l = true then sumN (LL c) fun a => if canB c.sands a l = true then FcL cnt c k a else 0 else 0
theorem agS_stL {cnt : Nat → Bool} {c : Channel} (r : Right c) {k : Nat} {l : List Int} (h : rowB c l = true) : agS cnt c (stL k l) = agP cnt c.sights (k : Int) l := by
  have hf := r.fords
  have h1 := (rowB_iff.1 h).1
  unfold agS stL
  simp only
  rw [← h1, clS_mk (by omega)]
theorem R_stL {cnt : Nat → Bool} {c : Channel} (r : Right c) {j k : Nat} {a : List Int} (ha : rowB c a = true) : R (nxS c) (agS cnt c) (j + 1) (stL k a) = if agP cnt c.sights (k : Int) a = true then sumN (LL c) fun l => if canB c.sands a l = true then R (nxS c) (agS cnt c) j (stL (k + 1) l) else 0 else 0 := by
  rw [R, agS_stL r ha]
  by_cases h : agP cnt c.sights (k : Int) a = true
  · rw [if_pos h, if_pos h]
    show sumN (nxS c (stL k a)) _ = _
    rw [sumN_perm (nxS_perm r ha), sumN_map, sumN_filter]
  · rw [if_neg h, if_neg h]
theorem FcL_ag {cnt : Nat → Bool} {c : Channel} {k : Nat} {l : List Int} (h : ¬ agP cnt c.sights (k : Int) l = true) : FcL cnt c k l = 0 := by
  cases k with
  | zero => rw [FcL, if_neg (fun q => h q.1)]
  | succ k => rw [FcL, if_neg h]
theorem FcL_sum {cnt : Nat → Bool} {c : Channel} (r : Right c) : ∀ (k j : Nat), sumN (LL c) (fun l => FcL cnt c k l * R (nxS c) (agS cnt c) j (stL k l)) = R (nxS c) (agS cnt c) (k + j) (first c)
  | 0, j => by
    have hc := r.cells
    have hfr : rowB c c.fords = true := rowB_iff.2 ⟨rfl, r.up, r.fcell⟩
    have e : sumN (LL c) (fun l => FcL cnt c 0 l * R (nxS c) (agS cnt c) j (stL 0 l)) = sumN (LL c) (fun l => if l = c.fords then R (nxS c) (agS cnt c) j (first c) else 0) := by
      refine sumN_congr fun l hl => ?_
      by_cases h : l = c.fords
      · subst h
        rw [if_pos rfl, FcL]
        by_cases h2 : agP cnt c.sights 0 c.fords = true
        · rw [if_pos ⟨h2, rfl⟩, Nat.one_mul]; rfl
        · rw [if_neg (fun q => h2 q.1), Nat.zero_mul]
          have h3 : ¬ 0 < R (nxS c) (agS cnt c) j (first c) := fun q => by
            have := R_ag q
            rw [show first c = stL 0 c.fords from rfl, agS_stL r hfr] at this
            exact h2 this
          omega
      · rw [if_neg h, FcL, if_neg (fun q => h q.2), Nat.zero_mul]
    rw [e, sumN_one (LL_nodup c) ((mem_LL (by omega)).2 hfr), Nat.zero_add]
  | k + 1, j => by
    have hc := r.cells
    have ih := FcL_sum (cnt := cnt) r k (j + 1)
    rw [show k + 1 + j = k + (j + 1) by omega, ← ih]
    have e1 : sumN (LL c) (fun l => FcL cnt c (k + 1) l * R (nxS c) (agS cnt c) j (stL (k + 1) l)) = sumN (LL c) (fun l => sumN (LL c) fun a => (if canB c.sands a l = true then FcL cnt c k a else 0) * R (nxS c) (agS cnt c) j (stL (k + 1) l)) := by
      refine sumN_congr fun l hl => ?_
      rw [sumN_mul, FcL]
      by_cases h : agP cnt c.sights ((k + 1 : Nat) : Int) l = true
      · rw [if_pos h]
      · rw [if_neg h, Nat.zero_mul]
        have h3 : ¬ 0 < R (nxS c) (agS cnt c) j (stL (k + 1) l) := fun q => by
          have := R_ag q
          rw [agS_stL r ((mem_LL (by omega)).1 hl)] at this
          exact h this
        rw [Nat.eq_zero_of_not_pos h3, Nat.mul_zero]
    rw [e1, sumN_comm]
    refine sumN_congr fun a ha => ?_
    rw [R_stL r ((mem_LL (by omega)).1 ha)]
    by_cases h : agP cnt c.sights (k : Int) a = true
    · rw [if_pos h, ← sumN_mul']
      refine sumN_congr fun l _ => ?_
      split
      · rfl
      · rw [Nat.zero_mul, Nat.mul_zero]
    · rw [if_neg h, Nat.mul_zero]
      refine sumN_zero fun l _ => ?_
      rw [FcL_ag h]
      split <;> rw [Nat.zero_mul]
end Go.Proofs.Wb

namespace Go.Proofs.Wb
open Go Go.Fw Go.Gx Go.Sb
set_option linter.unusedVariables false
set_option maxRecDepth 100000
def outL (b m fr j : Nat) : List (List Int) := (List.range j).flatMap fun d => (incL b m (fr + d + 1)).map (((fr + d : Nat) : Int) :: ·)
theorem outL_succ {b m fr j : Nat} : outL b m fr (j + 1) = outL b m fr j ++ (incL b m (fr + j + 1)).map (((fr + j : Nat) : Int) :: ·) := by
  unfold outL
  rw [List.range_succ, List.flatMap_append]
  simp
theorem outL_len {b m fr j : Nat} : (outL b m fr j).length ≤ j * b ^ m := by
  unfold outL
  rw [List.length_flatMap]
  have h := sum_le (fun d => ((incL b m (fr + d + 1)).map (((fr + d : Nat) : Int) :: ·)).length) (b ^ m) (List.range j) (fun d _ => by rw [List.length_map]; exact incL_len m _)
  rw [List.length_range] at h
  exact h
theorem lists_L1 {l : List (List Int)} (out : List (List Int)) (n : Int) (h : out.length + l.length ≤ 1000000) (hl : ∀ x ∈ l, x.length ≤ 100) : iterM FU (qj l ⟨n, out⟩) ⟨0, out⟩ = some (out ++ l.map (n :: ·)) := by
  have key := iterM_run (f := qj l ⟨n, out⟩) (fun j => ⟨(j : Int), out ++ (l.take j).map (n :: ·)⟩) l.length (b := out ++ l.map (n :: ·)) (fun j hj => ?_) ?_ FU (FU_lt (by omega))
  · simpa using key
  · have e : l.take (j + 1) = l.take j ++ [l[j]] := by rw [List.take_append_getElem]
    have hx : l.getD j default = l[j] := by simp [List.getD_eq_getElem?_getD, hj]
    have := hl l[j] (List.getElem_mem hj)
    unfold qj
    simp only
    rw [if_pos (by omega), ix_nat default hj, Option.bind_some, hx, appc_eq (by simp; omega), Option.bind_some, appc_eq (by simp; omega), Option.bind_some, addc_eq (by omega), Option.bind_some, e, List.map_append, ← List.append_assoc]
    rfl
  · unfold qj
    simp only
    rw [if_neg (by omega), List.take_length]
theorem ZI {b : Nat} (hb : b ≤ 10) : ∀ (m fu fr : Nat), m ≤ 3 → m < fu → fr ≤ 100 → kt fu (m : Int) (fr : Int) (b : Int) = some (incL b m fr)
  | m, 0, fr, _, h, _ => absurd h (by omega)
  | 0, fu + 1, fr, _, _, _ => rfl
  | m + 1, fu + 1, fr, hm, hf, hr => by
    rw [kt]
    unfold zs
    rw [if_neg (by omega)]
    have hpw : b ^ m ≤ 10 ^ m := Nat.pow_le_pow_left hb m
    have hpw2 : 10 ^ m ≤ 10 ^ 2 := Nat.pow_le_pow_right (by omega) (by omega)
    have key := iterM_run (f := ql (b : Int) ((m + 1 : Nat) : Int) (kt fu)) (fun j => ⟨((fr + j : Nat) : Int), outL b m fr j⟩) (b - fr) (b := incL b (m + 1) fr) (fun j hj => ?_) ?_ FU (FU_lt (by omega))
    · show (iterM FU (ql (b : Int) ((m + 1 : Nat) : Int) (kt fu)) ⟨((fr + 0 : Nat) : Int), outL b m fr 0⟩).bind _ = _
      rw [key]; rfl
    · have h1 := outL_len (b := b) (m := m) (fr := fr) (j := j)
      have h2 := Nat.mul_le_mul_left j (Nat.le_trans hpw hpw2)
      have h3 := incL_len (below := b) m (fr + j + 1)
      unfold ql
      simp only
      rw [if_pos (by omega), subc_eq (by omega), Option.bind_some, addc_eq (by omega), Option.bind_some, show ((m + 1 : Nat) : Int) - 1 = (m : Int) by omega, show ((fr + j : Nat) : Int) + 1 = ((fr + j + 1 : Nat) : Int) by omega, ZI hb m fu (fr + j + 1) (by omega) (by omega) (by omega), Option.bind_some, lists_L1 (outL b m fr j) _ (by omega) (fun x hx => by have := ((mem_incL _ _ _).1 hx).1; omega), Option.bind_some, Option.bind_some, outL_succ]
      congr 3
    · unfold ql
      simp only
      rw [if_neg (by omega)]
      rfl
theorem Yh {c : Channel} (r : Right c) : kX c = some (LL c) := by
  have hc := r.cells
  have hf := r.fords
  unfold kX
  have h := ZI (b := c.cells.toNat) (by omega) c.fords.length FU 0 (by omega) (by unfold FU; omega) (by omega)
  rw [show ((c.cells.toNat : Nat) : Int) = c.cells by omega] at h
  rw [show (0 : Int) = ((0 : Nat) : Int) from rfl, h]
  rfl
theorem FcL_le {cnt : Nat → Bool} {c : Channel} (r : Right c) : ∀ k l, FcL cnt c k l ≤ 1000 ^ k
  | 0, l => by rw [FcL]; split <;> simp
  | k + 1, l => by
    rw [FcL]
    split
    · have h1 := sum_le (fun a => if canB c.sands a l = true then FcL cnt c k a else 0) (1000 ^ k) (LL c) (fun a _ => by
        split
        · exact FcL_le r k a
        · exact Nat.zero_le _)
      have h2 := Nat.mul_le_mul_right (1000 ^ k) (LL_len r)
      unfold sumN
      rw [Nat.pow_succ, Nat.mul_comm]
      omega
    · exact Nat.zero_le _
theorem FcL_bnd {cnt : Nat → Bool} {c : Channel} (r : Right c) {k : Nat} (hk : k ≤ 4) (l : List Int) : FcL cnt c k l ≤ 1000000000000 := by
  have h := FcL_le (cnt := cnt) r k l
  have h2 : (1000 : Nat) ^ k ≤ 1000 ^ 4 := Nat.pow_le_pow_right (by omega) hk
  have e4 : (1000 : Nat) ^ 4 = 1000000000000 := by decide
  omega
def li (c : Channel) (i : Nat) : List Int := (LL c).getD i []
theorem li_row {c : Channel} (r : Right c) {i : Nat} (h : i < (LL c).length) : rowB c (li c i) = true := by
  have hc := r.cells
  refine (mem_LL (by omega)).1 ?_
  unfold li
  rw [List.getD_eq_getElem?_getD, List.getElem?_eq_getElem h]
  exact List.getElem_mem h
theorem sumN_li {c : Channel} (f : List Int → Nat) : sumN (LL c) f = sumN (List.range (LL c).length) fun i => f (li c i) := by
  rw [show (fun i => f (li c i)) = fun i => f ((LL c).getD i []) from rfl, ← sumN_map (List.range (LL c).length) (fun i => (LL c).getD i []) f, range_getD]
theorem sumN_range_succ (f : Nat → Nat) (n : Nat) : sumN (List.range (n + 1)) f = sumN (List.range n) f + f n := by
  rw [List.range_succ, sumN_append]; simp [sumN]
theorem sumN_range_le (f : Nat → Nat) (B n : Nat) (h : ∀ i, f i ≤ B) : sumN (List.range n) f ≤ n * B := by
  have := sum_le f B (List.range n) (fun x _ => h x)
  rw [List.length_range] at this
  exact this
def rowZ (cnt : Nat → Bool) (c : Channel) (k : Nat) : List Int := (List.range (LL c).length).map fun i : Nat => (FcL cnt c k (li c i) : Int)
def rowT (n b : Nat) (g : Nat → Int) (v : Int) : List Int := (List.range n).map fun i : Nat => if i < b then g i else if i = b then v else 0
theorem rowT_set {n b : Nat} {g : Nat → Int} {v u : Int} : (rowT n b g v).set b u = rowT n b g u := by
  unfold rowT
  rw [range_set]
  apply List.map_congr_left
  intro i _
  by_cases h : i = b
  · subst h; simp
  · rw [if_neg h]
    by_cases h2 : i < b
    · rw [if_pos h2, if_pos h2]
    · rw [if_neg h2, if_neg h2, if_neg h, if_neg h]
theorem rowT_ix {n b : Nat} {g : Nat → Int} {v : Int} (h : b < n) : ix (rowT n b g v) (b : Int) = some v := by
  unfold rowT
  rw [range_ix h, if_neg (by omega), if_pos rfl]
theorem rowT_next {n b : Nat} {g : Nat → Int} : rowT n b g (g b) = rowT n (b + 1) g 0 := by
  unfold rowT
  apply List.map_congr_left
  intro i _
  by_cases h : i < b
  · rw [if_pos h, if_pos (by omega)]
  · by_cases h2 : i = b
    · subst h2; rw [if_neg h, if_pos rfl, if_pos (by omega)]
    · rw [if_neg h, if_neg h2, if_neg (by omega)]
      split <;> rfl
theorem come_L2 {cnt : Nat → Bool} {c : Channel} (r : Right c) {k b : Nat} (hk : k + 1 ≤ 4) (hb : b < (LL c).length) (g : Nat → Int) (out : List (List Int)) (ho : ix out (k : Int) = some (rowZ cnt c k)) (t0 : List Int) :
    iterM FU (kp (LL c) ⟨((k + 1 : Nat) : Int), out⟩ ⟨(b : Int), t0⟩ c) ⟨0, rowT (LL c).length b g 0⟩ = some (rowT (LL c).length b g (sumN (LL c) fun a => if canB c.sands a (li c b) = true then FcL cnt c k a else 0 : Nat)) := by
  have hc := r.cells
  have hf := r.fords
  have hs := r.sands
  have hLL := LL_len r
  have hbb := fun i => FcL_bnd (cnt := cnt) r (show k ≤ 4 by omega) (li c i)
  have key := iterM_run (f := kp (LL c) ⟨((k + 1 : Nat) : Int), out⟩ ⟨(b : Int), t0⟩ c) (fun a => ⟨(a : Int), rowT (LL c).length b g ((sumN (List.range a) fun i => if canB c.sands (li c i) (li c b) = true then FcL cnt c k (li c i) else 0 : Nat) : Int)⟩) (LL c).length (b := rowT (LL c).length b g (sumN (LL c) fun a => if canB c.sands a (li c b) = true then FcL cnt c k a else 0 : Nat)) (fun a ha => ?_) ?_ FU (FU_lt (by omega))
  · exact key
  · have hra := rowB_iff.1 (li_row r ha)
    have hrb := rowB_iff.1 (li_row r hb)
    have hsum := sumN_range_le (fun i => if canB c.sands (li c i) (li c b) = true then FcL cnt c k (li c i) else 0) 1000000000000 a (fun i => by
      split
      · exact hbb i
      · omega)
    have hm := Nat.mul_le_mul_right 1000000000000 (show a ≤ 1000 by omega)
    have hcan := jaw (c := c) (by omega) r.reach (a := li c a) (b := li c b) (by omega) (by omega) (fun x hx => by have := hra.2.2 x hx; omega)
    have hzi : ix (rowZ cnt c k) (a : Int) = some (FcL cnt c k (li c a) : Int) := by unfold rowZ; rw [range_ix ha]
    have hba := hbb a
    unfold kp
    simp only
    rw [if_pos (by omega), Option.bind_some, if_pos (by rw [decide_eq_true_eq]; omega), subc_eq (by omega), Option.bind_some, show ((k + 1 : Nat) : Int) - 1 = (k : Int) by omega, ho, Option.bind_some, hzi, Option.bind_some]
    rw [sumN_range_succ]
    have hxa : (LL c).getD a [] = li c a := rfl
    have hxb : (LL c).getD b [] = li c b := rfl
    by_cases h0 : 0 < FcL cnt c k (li c a)
    · rw [if_pos (by omega), ix_nat [] ha, Option.bind_some, ix_nat [] hb, Option.bind_some, hxa, hxb, hcan, Option.bind_some, Option.bind_some]
      by_cases h1 : canB c.sands (li c a) (li c b) = true
      · rw [if_pos h1, if_pos h1, rowT_ix hb, Option.bind_some, Option.bind_some, ho, Option.bind_some, hzi, Option.bind_some, addc_eq (by omega), Option.bind_some, Option.bind_some, Option.bind_some, Option.bind_some, Int.toNat_natCast, rowT_set, addc_eq (by omega), Option.bind_some]
        congr 3
      · rw [if_neg h1, if_neg h1, Option.bind_some, addc_eq (by omega), Option.bind_some, Nat.add_zero]
        congr 3
    · rw [if_neg (by omega), Option.bind_some, if_neg (by decide), Option.bind_some, addc_eq (by omega), Option.bind_some]
      have e0 : FcL cnt c k (li c a) = 0 := by omega
      rw [e0]
      split <;> rfl
  · unfold kp
    simp only
    rw [if_neg (by omega), Option.bind_some, if_neg (by decide), sumN_li]
theorem come_L1 {c : Channel} (r : Right c) {n : Nat} (hn : n ≤ 1000000000000) {k : Nat} (hk : k ≤ 4) (out : List (List Int)) (ho : ∀ j, j + 1 = k → ix out (j : Int) = some (rowZ (bitN n) c j)) :
    iterM FU (qx (LL c) c ⟨(k : Int), out⟩ (n : Int)) ⟨0, rowT (LL c).length 0 (fun i => (FcL (bitN n) c k (li c i) : Int)) 0⟩ = some (rowZ (bitN n) c k) := by
  have hc := r.cells
  have hf := r.fords
  have hs := r.sights
  have hLL := LL_len r
  have key := iterM_run (f := qx (LL c) c ⟨(k : Int), out⟩ (n : Int)) (fun b => ⟨(b : Int), rowT (LL c).length b (fun i => (FcL (bitN n) c k (li c i) : Int)) 0⟩) (LL c).length (b := rowZ (bitN n) c k) (fun b hb => ?_) ?_ FU (FU_lt (by omega))
  · exact key
  · have hrb := rowB_iff.1 (li_row r hb)
    have hxb : (LL c).getD b [] = li c b := rfl
    unfold qx
    simp only
    rw [if_pos (by omega), ix_nat [] hb, Option.bind_some, hxb, refAgrees_eq (by omega) (by omega) _ _ hn, Option.bind_some, addc_eq (by omega), ← rowT_next]
    by_cases hag : agP (bitN n) c.sights (k : Int) (li c b) = true
    · rw [if_neg (by simp [hag])]
      cases k with
      | zero =>
        have hend : ∀ T : List Int, iterM FU (kp (LL c) ⟨((0 : Nat) : Int), out⟩ ⟨(b : Int), rowT (LL c).length b (fun i => (FcL (bitN n) c 0 (li c i) : Int)) 0⟩ c) ⟨0, T⟩ = some T := by
          intro T
          obtain ⟨N, hN⟩ : ∃ N, FU = N + 1 := ⟨FU - 1, by unfold FU; rfl⟩
          rw [hN, iterM_done]
          unfold kp
          simp only
          split
          · rw [Option.bind_some, if_neg (by simp)]
          · rw [Option.bind_some, if_neg (by simp)]
        rw [if_pos (show ((0 : Nat) : Int) = 0 from rfl), Option.bind_some, Z1 (by omega), Option.bind_some, Option.bind_some]
        by_cases he : li c b = c.fords
        · rw [if_pos (by simpa using he), rowT_ix hb, Option.bind_some, Option.bind_some, Option.bind_some, Int.toNat_natCast, rowT_set, hend, Option.bind_some, Option.bind_some, Option.bind_some]
          congr 3
          rw [FcL, if_pos ⟨hag, he⟩]
          rfl
        · rw [if_neg (by simpa using he), Option.bind_some, hend, Option.bind_some, Option.bind_some, Option.bind_some]
          congr 3
          rw [FcL, if_neg (fun q => he q.2)]
          rfl
      | succ k =>
        rw [if_neg (by omega), Option.bind_some, if_neg (by decide), Option.bind_some, come_L2 (cnt := bitN n) r hk hb _ out (ho k rfl), Option.bind_some, Option.bind_some, Option.bind_some]
        congr 3
        rw [FcL, if_pos hag]
    · rw [if_pos (by simpa using hag), Option.bind_some, Option.bind_some]
      congr 3
      rw [FcL_ag hag]
      rfl
  · unfold qx
    simp only
    rw [if_neg (by omega)]
    congr 2
    unfold rowT rowZ
    apply List.map_congr_left
    intro i hi
    rw [if_pos (by simpa using hi)]
theorem Z5 {c : Channel} (r : Right c) {n : Nat} (hn : n ≤ 1000000000000) : yt c (n : Int) = some ((List.range (c.tides.toNat + 1)).map (rowZ (bitN n) c)) := by
  have ht := r.tides
  have hLL := LL_len r
  unfold yt
  rw [Yh r, Option.bind_some]
  have key := iterM_run (f := qz c (LL c) (n : Int)) (fun k => ⟨(k : Int), (List.range k).map (rowZ (bitN n) c)⟩) (c.tides.toNat + 1) (b := (List.range (c.tides.toNat + 1)).map (rowZ (bitN n) c)) (fun k hk => ?_) ?_ FU (FU_lt (by omega))
  · show (iterM FU (qz c (LL c) (n : Int)) ⟨((0 : Nat) : Int), (List.range 0).map (rowZ (bitN n) c)⟩).bind _ = _
    rw [key]; rfl
  · unfold qz
    simp only
    have e0 : List.replicate ((LL c).length : Int).toNat (0 : Int) = rowT (LL c).length 0 (fun i => (FcL (bitN n) c k (li c i) : Int)) 0 := by
      unfold rowT
      apply List.ext_getElem (by simp)
      intro i h1 h2
      simp
    rw [if_pos (by omega), makec_eq (by omega), Option.bind_some, e0, come_L1 r hn (by omega) _ (fun j hj => by rw [range_ix (by omega)]), Option.bind_some, appc_eq (by simp; omega), Option.bind_some, addc_eq (by omega), Option.bind_some, List.range_succ, List.map_append]
    rfl
  · unfold qz
    simp only
    rw [if_neg (by omega)]
theorem ZS {c : Channel} (r : Right c) {n : Nat} (hn : n ≤ 1000000000000) : ya c (n : Int) = some (cntS (bitN n) c : Int) := by
  have ht := r.tides
  have hc := r.cells
  have hLL := LL_len r
  have hbb := fun i => FcL_bnd (cnt := bitN n) r (show c.tides.toNat ≤ 4 by omega) (li c i)
  unfold ya
  rw [Z5 r hn, Option.bind_some]
  have hrow : ix ((List.range (c.tides.toNat + 1)).map (rowZ (bitN n) c)) c.tides = some (rowZ (bitN n) c c.tides.toNat) := by
    have h := range_ix (f := rowZ (bitN n) c) (n := c.tides.toNat + 1) (i := c.tides.toNat) (by omega)
    rw [show ((c.tides.toNat : Nat) : Int) = c.tides by omega] at h
    exact h
  have hlen : ((rowZ (bitN n) c c.tides.toNat).length : Int) = ((LL c).length : Int) := by unfold rowZ; simp
  have key := iterM_run (f := qi ((List.range (c.tides.toNat + 1)).map (rowZ (bitN n) c)) c) (fun a => ⟨((sumN (List.range a) fun i => FcL (bitN n) c c.tides.toNat (li c i) : Nat) : Int), (a : Int)⟩) (LL c).length (b := (cntS (bitN n) c : Int)) (fun a ha => ?_) ?_ FU (FU_lt (by omega))
  · show (iterM FU (qi ((List.range (c.tides.toNat + 1)).map (rowZ (bitN n) c)) c) ⟨((sumN (List.range 0) fun i => FcL (bitN n) c c.tides.toNat (li c i) : Nat) : Int), ((0 : Nat) : Int)⟩).bind _ = _
    rw [key]; rfl
  · have hsum := sumN_range_le (fun i => FcL (bitN n) c c.tides.toNat (li c i)) 1000000000000 a hbb
    have hm := Nat.mul_le_mul_right 1000000000000 (show a ≤ 1000 by omega)
    have hba := hbb a
    have hzi : ix (rowZ (bitN n) c c.tides.toNat) (a : Int) = some (FcL (bitN n) c c.tides.toNat (li c a) : Int) := by unfold rowZ; rw [range_ix ha]
    unfold qi
    simp only
    rw [hrow, Option.bind_some, hlen, if_pos (by omega), Option.bind_some, hzi, Option.bind_some, addc_eq (by omega), Option.bind_some, addc_eq (by omega), Option.bind_some, sumN_range_succ]
    congr 3
  · unfold qi
    simp only
    rw [hrow, Option.bind_some, hlen, if_neg (by omega)]
    congr 2
    rw [← sumN_li (fun l => FcL (bitN n) c c.tides.toNat l)]
    have h := FcL_sum (cnt := bitN n) r c.tides.toNat 0
    unfold cntS
    rw [Nat.add_zero] at h
    rw [← h]
    congr 1
    refine sumN_congr fun l hl => ?_
    rw [R, agS_stL r ((mem_LL (by omega)).1 hl)]
    by_cases hag : agP (bitN n) c.sights ((c.tides.toNat : Nat) : Int) l = true
    · rw [if_pos hag, Nat.mul_one]
    · rw [if_neg hag, Nat.mul_zero, FcL_ag hag]
end Go.Proofs.Wb

namespace Go.Proofs.Wb
open Go Go.Fw Go.Gx Go.Sb
set_option linter.unusedVariables false
set_option maxRecDepth 100000
abbrev tt : Nat → Bool := fun _ => true
theorem agS_all (c : Channel) : agS (bitN (2 ^ c.sights.length - 1)) c = agS tt c := by
  funext s
  exact agP_congr (fun i hi => bitN_all hi)
theorem FcL_all (c : Channel) : ∀ k l, FcL (bitN (2 ^ c.sights.length - 1)) c k l = FcL tt c k l
  | 0, l => by rw [FcL, FcL, agP_congr (fun i hi => bitN_all hi)]
  | k + 1, l => by
    rw [FcL, FcL, agP_congr (fun i hi => bitN_all hi)]
    congr 1
    refine sumN_congr fun a _ => ?_
    rw [FcL_all c k a]
theorem cntS_all (c : Channel) : cntS (bitN (2 ^ c.sights.length - 1)) c = cntS tt c := by unfold cntS; rw [agS_all]
theorem all_small {c : Channel} (r : Right c) : 2 ^ c.sights.length - 1 ≤ 1000000000000 := by
  have h6 : 2 ^ c.sights.length ≤ 2 ^ 20 := Nat.pow_le_pow_right (by omega) r.sights
  generalize 2 ^ c.sights.length = q at h6 ⊢
  omega
def onB (c : Channel) (k : Nat) (l : List Int) : Bool := decide (0 < FcL tt c k l) && decide (0 < R (nxS c) (agS tt c) (c.tides.toNat - k) (stL k l))
theorem FcL_succ_pos {c : Channel} {k : Nat} {l : List Int} : 0 < FcL tt c (k + 1) l ↔ agP tt c.sights ((k + 1 : Nat) : Int) l = true ∧ ∃ a ∈ LL c, canB c.sands a l = true ∧ 0 < FcL tt c k a := by
  rw [FcL]
  by_cases h : agP tt c.sights ((k + 1 : Nat) : Int) l = true
  · rw [if_pos h, sumN_pos]
    constructor
    · rintro ⟨a, ha, h2⟩
      split at h2
      · rename_i hc; exact ⟨h, a, ha, hc, h2⟩
      · omega
    · rintro ⟨_, a, ha, hc, h2⟩
      exact ⟨a, ha, by rw [if_pos hc]; exact h2⟩
  · rw [if_neg h]
    constructor
    · intro q; omega
    · rintro ⟨q, _⟩; exact absurd q h
theorem FcL_pos_ag {c : Channel} {k : Nat} {l : List Int} (h : 0 < FcL tt c k l) : agP tt c.sights (k : Int) l = true := by
  cases hq : agP tt c.sights (k : Int) l with
  | true => rfl
  | false => rw [FcL_ag (by rw [hq]; decide)] at h; omega
theorem R_stL_pos {c : Channel} (r : Right c) {j k : Nat} {a : List Int} (ha : rowB c a = true) : 0 < R (nxS c) (agS tt c) (j + 1) (stL k a) ↔ agP tt c.sights (k : Int) a = true ∧ ∃ l ∈ LL c, canB c.sands a l = true ∧ 0 < R (nxS c) (agS tt c) j (stL (k + 1) l) := by
  rw [R_stL r ha]
  by_cases h : agP tt c.sights (k : Int) a = true
  · rw [if_pos h, sumN_pos]
    constructor
    · rintro ⟨l, hl, h2⟩
      split at h2
      · rename_i hc; exact ⟨h, l, hl, hc, h2⟩
      · omega
    · rintro ⟨_, l, hl, hc, h2⟩
      exact ⟨l, hl, by rw [if_pos hc]; exact h2⟩
  · rw [if_neg h]
    constructor
    · intro q; omega
    · rintro ⟨q, _⟩; exact absurd q h
theorem stL_of {c : Channel} (r : Right c) {s : State} {k : Nat} (h : VS c s) (hk : s.after = (k : Int)) : ∃ a ∈ LL c, s = stL k a := by
  have hc := r.cells
  obtain ⟨⟨l, h1, h2⟩, _⟩ := h
  obtain ⟨x, y⟩ := s
  simp only at hk h2
  exact ⟨l, (mem_LL (by omega)).2 h1, by rw [hk, h2]; rfl⟩
theorem mem_nx_stL {c : Channel} (r : Right c) {k : Nat} {a l : List Int} (ha : rowB c a = true) (hl : rowB c l = true) : stL (k + 1) l ∈ nxS c (stL k a) ↔ canB c.sands a l = true := by
  have hf := r.fords
  rw [nxS_mem r, can_iff r ha hl]
  constructor
  · rintro ⟨l', h, e⟩
    simp only [stL, State.mk.injEq] at e
    have := mkCells_inj (l := l) (m := l') (by rw [h.len]; exact (rowB_iff.1 hl).1) (by have := (rowB_iff.1 hl).1; omega) e.2
    rw [this]; exact h
  · intro h
    exact ⟨l, h, by simp [stL]⟩
theorem on_V {c : Channel} (r : Right c) : ∀ (k : Nat), (k : Int) ≤ c.tides → ∀ t, On (nxS c) (agS tt c) k c.tides.toNat (first c) t → VS c t ∧ t.after = (k : Int)
  | 0, _, t, h => by
    obtain ⟨rfl, _⟩ := on_zero.1 h
    exact ⟨first_V r, rfl⟩
  | k + 1, hk, t, h => by
    obtain ⟨u, h1, h2, _⟩ := (on_succ (by omega)).1 h
    obtain ⟨v1, v2⟩ := on_V r k (by omega) u h1
    obtain ⟨v3, v4⟩ := nxS_V r v1 (by omega) h2
    exact ⟨v3, by omega⟩
theorem on_iff {c : Channel} (r : Right c) : ∀ (k : Nat), (k : Int) ≤ c.tides → ∀ l, rowB c l = true → (On (nxS c) (agS tt c) k c.tides.toNat (first c) (stL k l) ↔ onB c k l = true)
  | 0, _, l, hl => by
    have hf := r.fords
    have h1 := (rowB_iff.1 hl).1
    unfold onB
    rw [on_zero, Bool.and_eq_true, decide_eq_true_eq, decide_eq_true_eq, FcL, Nat.sub_zero]
    constructor
    · rintro ⟨e, h2⟩
      have e2 : l = c.fords := by
        simp only [stL, first, State.mk.injEq] at e
        exact mkCells_inj (by omega) (by omega) e.2
      subst e2
      have hag := R_ag h2
      rw [show first c = stL 0 c.fords from rfl, agS_stL r hl] at hag
      exact ⟨by rw [if_pos ⟨hag, rfl⟩]; omega, h2⟩
    · rintro ⟨h2, h3⟩
      split at h2
      · rename_i q
        obtain ⟨_, q⟩ := q
        subst q
        exact ⟨rfl, h3⟩
      · omega
  | k + 1, hk, l, hl => by
    have hc := r.cells
    unfold onB
    rw [on_succ (by omega), Bool.and_eq_true, decide_eq_true_eq, decide_eq_true_eq, FcL_succ_pos, show c.tides.toNat - (k + 1) = c.tides.toNat - k - 1 by omega]
    constructor
    · rintro ⟨u, h1, h2, h3⟩
      obtain ⟨v1, v2⟩ := on_V r k (by omega) u h1
      obtain ⟨a, ha, rfl⟩ := stL_of r v1 v2
      have ha' := (mem_LL (by omega)).1 ha
      have h4 := (on_iff r k (by omega) a ha').1 h1
      unfold onB at h4
      rw [Bool.and_eq_true, decide_eq_true_eq] at h4
      have hag := R_ag h3
      rw [agS_stL r hl] at hag
      exact ⟨⟨hag, a, ha, (mem_nx_stL r ha' hl).1 h2, h4.1⟩, h3⟩
    · rintro ⟨⟨hag, a, ha, h1, h2⟩, h3⟩
      have ha' := (mem_LL (by omega)).1 ha
      refine ⟨stL k a, (on_iff r k (by omega) a ha').2 ?_, (mem_nx_stL r ha' hl).2 h1, h3⟩
      unfold onB
      rw [Bool.and_eq_true, decide_eq_true_eq, decide_eq_true_eq, show c.tides.toNat - k = (c.tides.toNat - k - 1) + 1 by omega, R_stL_pos r ha']
      exact ⟨h2, FcL_pos_ag h2, l, (mem_LL (by omega)).2 hl, h1, h3⟩
theorem onB_step {c : Channel} (r : Right c) {k : Nat} (hk : (k : Int) < c.tides) {a : List Int} (ha : rowB c a = true) (hp : 0 < FcL tt c k a) : onB c k a = (List.range (LL c).length).any fun b => onB c (k + 1) (li c b) && canB c.sands a (li c b) := by
  have hc := r.cells
  have hag := FcL_pos_ag hp
  rw [Bool.eq_iff_iff]
  unfold onB
  rw [Bool.and_eq_true, decide_eq_true_eq, decide_eq_true_eq, show c.tides.toNat - k = (c.tides.toNat - (k + 1)) + 1 by omega, R_stL_pos r ha, List.any_eq_true]
  constructor
  · rintro ⟨_, _, l, hl, h1, h2⟩
    obtain ⟨b, hb, e⟩ := List.getElem_of_mem hl
    have e2 : li c b = l := by unfold li; rw [← e]; simp [List.getD_eq_getElem?_getD, hb]
    refine ⟨b, by simpa using hb, ?_⟩
    rw [e2, Bool.and_eq_true, Bool.and_eq_true, decide_eq_true_eq, decide_eq_true_eq, FcL_succ_pos]
    have hag2 := R_ag h2
    rw [agS_stL r ((mem_LL (by omega)).1 hl)] at hag2
    exact ⟨⟨⟨hag2, a, (mem_LL (by omega)).2 ha, h1, hp⟩, h2⟩, h1⟩
  · rintro ⟨b, hb, h⟩
    have hb' : b < (LL c).length := by simpa using hb
    rw [Bool.and_eq_true, Bool.and_eq_true, decide_eq_true_eq, decide_eq_true_eq] at h
    exact ⟨hp, hag, li c b, (mem_LL (by omega)).2 (li_row r hb'), h.2, h.1.2⟩
theorem onB_last {c : Channel} (r : Right c) {k : Nat} (hk : (k : Int) = c.tides) {a : List Int} (ha : rowB c a = true) (hp : 0 < FcL tt c k a) : onB c k a = true := by
  unfold onB
  rw [Bool.and_eq_true, decide_eq_true_eq, decide_eq_true_eq, show c.tides.toNat - k = 0 by omega, R, agS_stL r ha, if_pos (FcL_pos_ag hp)]
  exact ⟨hp, by omega⟩
def rowU (n b : Nat) (g : Nat → Bool) (v : Bool) : List Bool := (List.range n).map fun i : Nat => if i < b then g i else if i = b then v else false
theorem rowU_set {n b : Nat} {g : Nat → Bool} {v u : Bool} : (rowU n b g v).set b u = rowU n b g u := by
  unfold rowU
  rw [range_set]
  apply List.map_congr_left
  intro i _
  by_cases h : i = b
  · subst h; simp
  · rw [if_neg h]
    by_cases h2 : i < b
    · rw [if_pos h2, if_pos h2]
    · rw [if_neg h2, if_neg h2, if_neg h, if_neg h]
theorem rowU_ix {n b : Nat} {g : Nat → Bool} {v : Bool} (h : b < n) : ix (rowU n b g v) (b : Int) = some v := by
  unfold rowU
  rw [range_ix h, if_neg (by omega), if_pos rfl]
theorem rowU_next {n b : Nat} {g : Nat → Bool} : rowU n b g (g b) = rowU n (b + 1) g false := by
  unfold rowU
  apply List.map_congr_left
  intro i _
  by_cases h : i < b
  · rw [if_pos h, if_pos (by omega)]
  · by_cases h2 : i = b
    · subst h2; rw [if_neg h, if_pos rfl, if_pos (by omega)]
    · rw [if_neg h, if_neg h2, if_neg (by omega)]
      split <;> rfl
def onRow (c : Channel) (k : Nat) : List Bool := (List.range (LL c).length).map fun i : Nat => onB c k (li c i)
def outK (c : Channel) (k : Nat) (row : List Bool) : List (List Bool) := (List.range (c.tides.toNat + 1)).map fun i : Nat => if i = k then row else if k < i then onRow c i else []
theorem outK_ix {c : Channel} {k : Nat} {row : List Bool} (h : k ≤ c.tides.toNat) : ix (outK c k row) (k : Int) = some row := by
  unfold outK
  rw [range_ix (by omega), if_pos rfl]
theorem outK_ix' {c : Channel} {k : Nat} {row : List Bool} (h : k + 1 ≤ c.tides.toNat) : ix (outK c k row) ((k : Int) + 1) = some (onRow c (k + 1)) := by
  have := range_ix (f := fun i : Nat => if i = k then row else if k < i then onRow c i else []) (n := c.tides.toNat + 1) (i := k + 1) (by omega)
  rw [if_neg (by omega), if_pos (by omega)] at this
  exact this
theorem outK_set {c : Channel} {k : Nat} {row row' : List Bool} : (outK c k row).set k row' = outK c k row' := by
  unfold outK
  rw [range_set]
  apply List.map_congr_left
  intro i _
  by_cases h : i = k
  · rw [if_pos h, if_pos h]
  · rw [if_neg h, if_neg h, if_neg h]
theorem on_L2 {c : Channel} (r : Right c) {k a : Nat} (hk : (k : Int) ≤ c.tides) (ha : a < (LL c).length) (g : Nat → Bool) (v : Bool) (t0 o0 : List (List Bool)) :
    iterM FU (qv (LL c) ⟨(k : Int), o0⟩ c ⟨(a : Int), t0⟩) ⟨0, outK c k (rowU (LL c).length a g v)⟩ = some (outK c k (rowU (LL c).length a g (v || (decide ((k : Int) < c.tides) && (List.range (LL c).length).any fun b => onB c (k + 1) (li c b) && canB c.sands (li c a) (li c b))))) := by
  have hc := r.cells
  have hf := r.fords
  have hs := r.sands
  have hLL := LL_len r
  have ht := r.tides
  by_cases hkt : (k : Int) < c.tides
  · have key := iterM_run (f := qv (LL c) ⟨(k : Int), o0⟩ c ⟨(a : Int), t0⟩) (fun b => ⟨(b : Int), outK c k (rowU (LL c).length a g (v || (List.range b).any fun b => onB c (k + 1) (li c b) && canB c.sands (li c a) (li c b)))⟩) (LL c).length (b := outK c k (rowU (LL c).length a g (v || (decide ((k : Int) < c.tides) && (List.range (LL c).length).any fun b => onB c (k + 1) (li c b) && canB c.sands (li c a) (li c b))))) (fun b hb => ?_) ?_ FU (FU_lt (by omega))
    · simpa using key
    · have hra := rowB_iff.1 (li_row r ha)
      have hrb := rowB_iff.1 (li_row r hb)
      have hcan := jaw (c := c) (by omega) r.reach (a := li c a) (b := li c b) (by omega) (by omega) (fun x hx => by have := hra.2.2 x hx; omega)
      have hxa : (LL c).getD a [] = li c a := rfl
      have hxb : (LL c).getD b [] = li c b := rfl
      have hor : ix (onRow c (k + 1)) (b : Int) = some (onB c (k + 1) (li c b)) := by unfold onRow; rw [range_ix hb]
      have hany : ((List.range (b + 1)).any fun b => onB c (k + 1) (li c b) && canB c.sands (li c a) (li c b)) = (((List.range b).any fun b => onB c (k + 1) (li c b) && canB c.sands (li c a) (li c b)) || (onB c (k + 1) (li c b) && canB c.sands (li c a) (li c b))) := by
        rw [List.range_succ, List.any_append]; simp
      unfold qv
      simp only
      rw [hany, ← Bool.or_assoc]
      generalize (v || (List.range b).any fun b => onB c (k + 1) (li c b) && canB c.sands (li c a) (li c b)) = u
      rw [if_pos (by omega), Option.bind_some, if_pos (by rw [decide_eq_true_eq]; exact hkt), outK_ix (by omega), Option.bind_some, Option.bind_some, rowU_ix ha, Option.bind_some]
      cases u with
      | true =>
        rw [if_pos rfl, Option.bind_some, Option.bind_some, Option.bind_some, Option.bind_some, Int.toNat_natCast, Int.toNat_natCast, rowU_set, outK_set, addc_eq (by omega), Option.bind_some, Bool.true_or]
        rfl
      | false =>
        rw [if_neg (by decide), addc_eq (by omega), Option.bind_some, outK_ix' (by omega), Option.bind_some, hor, Option.bind_some, Bool.false_or]
        cases h1 : onB c (k + 1) (li c b) with
        | true =>
          rw [if_pos rfl, ix_nat [] ha, Option.bind_some, ix_nat [] hb, Option.bind_some, hxa, hxb, hcan, Option.bind_some, Option.bind_some, Option.bind_some, Option.bind_some, Option.bind_some, Int.toNat_natCast, Int.toNat_natCast, rowU_set, outK_set, addc_eq (by omega), Option.bind_some, Bool.true_and]
          rfl
        | false =>
          rw [if_neg (by decide), Option.bind_some, Option.bind_some, Option.bind_some, Option.bind_some, Int.toNat_natCast, Int.toNat_natCast, rowU_set, outK_set, addc_eq (by omega), Option.bind_some, Bool.false_and]
          rfl
    · unfold qv
      simp only
      rw [if_neg (by omega), Option.bind_some, if_neg (by decide), decide_eq_true hkt, Bool.true_and]
  · rw [decide_eq_false hkt, Bool.false_and, Bool.or_false]
    obtain ⟨N, hN⟩ : ∃ N, FU = N + 1 := ⟨FU - 1, by unfold FU; rfl⟩
    rw [hN, iterM_done]
    unfold qv
    simp only
    split
    · rw [Option.bind_some, if_neg (by simpa using hkt)]
    · rw [Option.bind_some, if_neg (by decide)]
theorem on_L1 {c : Channel} (r : Right c) {k : Nat} (hk : (k : Int) ≤ c.tides) (rows : List (List Int)) (hrows : ix rows (k : Int) = some (rowZ (bitN (2 ^ c.sights.length - 1)) c k)) (o0 : List (List Bool)) :
    iterM FU (q6 (LL c) rows ⟨(k : Int), o0⟩ c) ⟨0, outK c k (rowU (LL c).length 0 (fun i => onB c k (li c i)) false)⟩ = some (outK c k (onRow c k)) := by
  have hLL := LL_len r
  have ht := r.tides
  have key := iterM_run (f := q6 (LL c) rows ⟨(k : Int), o0⟩ c) (fun a => ⟨(a : Int), outK c k (rowU (LL c).length a (fun i => onB c k (li c i)) false)⟩) (LL c).length (b := outK c k (onRow c k)) (fun a ha => ?_) ?_ FU (FU_lt (by omega))
  · exact key
  · have hzi : ix (rowZ (bitN (2 ^ c.sights.length - 1)) c k) (a : Int) = some (FcL tt c k (li c a) : Int) := by unfold rowZ; rw [range_ix ha, FcL_all]
    unfold q6
    simp only
    rw [if_pos (by omega), hrows, Option.bind_some, hzi, Option.bind_some, addc_eq (by omega), ← rowU_next]
    by_cases h0 : FcL tt c k (li c a) = 0
    · rw [if_pos (by omega), Option.bind_some, Option.bind_some]
      have : onB c k (li c a) = false := by unfold onB; rw [h0]; rfl
      rw [this]
      rfl
    · rw [if_neg (by omega)]
      by_cases hkt : (k : Int) = c.tides
      · rw [if_pos hkt, outK_ix (by omega), Option.bind_some, rowU_ix ha, Option.bind_some, Option.bind_some, Option.bind_some, Option.bind_some, Int.toNat_natCast, Int.toNat_natCast, rowU_set, outK_set, on_L2 r hk ha, Option.bind_some, Option.bind_some, Option.bind_some, onB_last r hkt (li_row r ha) (by omega), Bool.true_or]
        rfl
      · rw [if_neg hkt, Option.bind_some, on_L2 r hk ha, Option.bind_some, Option.bind_some, Option.bind_some, Bool.false_or, decide_eq_true (by omega), Bool.true_and, ← onB_step r (by omega) (li_row r ha) (by omega)]
        rfl
  · unfold q6
    simp only
    rw [if_neg (by omega)]
    congr 2
    unfold rowU onRow
    congr 1
    apply List.map_congr_left
    intro i hi
    rw [if_pos (by simpa using hi)]
theorem jaI {c : Channel} (r : Right c) : zn c = some ((List.range (c.tides.toNat + 1)).map (onRow c)) := by
  have hLL := LL_len r
  have ht := r.tides
  have hs := r.sights
  unfold zn
  rw [Yh r, Option.bind_some, Q6 (by omega), Option.bind_some, Z5 r (all_small r), Option.bind_some, List.length_map, List.length_range, makec_eq (by omega), Option.bind_some]
  have key := iterM_run (f := yV (LL c) ((List.range (c.tides.toNat + 1)).map (rowZ (bitN (2 ^ c.sights.length - 1)) c)) c) (fun j => ⟨c.tides - (j : Int), (List.range (c.tides.toNat + 1)).map fun i : Nat => if c.tides.toNat < i + j then onRow c i else []⟩) (c.tides.toNat + 1) (b := (List.range (c.tides.toNat + 1)).map (onRow c)) (fun j hj => ?_) ?_ FU (FU_lt (by omega))
  · have e0 : List.replicate ((c.tides.toNat + 1 : Nat) : Int).toNat ([] : List Bool) = (List.range (c.tides.toNat + 1)).map fun i : Nat => if c.tides.toNat < i + 0 then onRow c i else [] := by
      apply List.ext_getElem (by simp; omega)
      intro i h1 h2
      have : i < c.tides.toNat + 1 := by simpa using h2
      simp only [List.getElem_replicate, List.getElem_map, List.getElem_range]
      rw [if_neg (by omega)]
    simp only [Int.natCast_zero, Int.sub_zero, show ((0 : Nat) : Int) = 0 from rfl] at key
    rw [e0, key]
    rfl
  · obtain ⟨k, hk⟩ : ∃ k : Nat, c.tides - (j : Int) = (k : Int) := ⟨(c.tides - (j : Int)).toNat, by omega⟩
    have hrow : ix ((List.range (c.tides.toNat + 1)).map (rowZ (bitN (2 ^ c.sights.length - 1)) c)) (k : Int) = some (rowZ (bitN (2 ^ c.sights.length - 1)) c k) := range_ix (by omega)
    have e1 : ((List.range (c.tides.toNat + 1)).map fun i : Nat => if c.tides.toNat < i + j then onRow c i else []).set k (List.replicate ((LL c).length : Int).toNat false) = outK c k (rowU (LL c).length 0 (fun i => onB c k (li c i)) false) := by
      rw [range_set]
      unfold outK
      apply List.map_congr_left
      intro i hi
      by_cases h : i = k
      · rw [if_pos h, if_pos h]
        unfold rowU
        apply List.ext_getElem (by simp)
        intro i h1 h2
        simp
      · rw [if_neg h, if_neg h]
        by_cases h2 : k < i
        · rw [if_pos (by omega), if_pos h2]
        · rw [if_neg (by omega), if_neg h2]
    unfold yV
    simp only
    rw [hk, if_pos (by omega), makec_eq (by omega), Option.bind_some, range_ix (by omega), Option.bind_some, Option.bind_some, Int.toNat_natCast, e1, on_L1 r (by omega) _ hrow, Option.bind_some, subc_eq (by omega), Option.bind_some]
    congr 3
    · omega
    · unfold outK
      apply List.map_congr_left
      intro i hi
      by_cases h : i = k
      · rw [if_pos h, if_pos (by omega), h]
      · rw [if_neg h]
        by_cases h2 : k < i
        · rw [if_pos h2, if_pos (by omega)]
        · rw [if_neg h2, if_neg (by omega)]
  · unfold yV
    simp only
    rw [if_neg (by omega)]
    congr 2
    apply List.map_congr_left
    intro i hi
    have : i < c.tides.toNat + 1 := by simpa using hi
    rw [if_pos (by omega)]
end Go.Proofs.Wb

namespace Go.Proofs.Wb
open Go Go.Fw Go.Gx Go.Sb
set_option linter.unusedVariables false
set_option maxRecDepth 100000
theorem asc_ext {l m : List Int} (hl : l.Pairwise (· < ·)) (hm : m.Pairwise (· < ·)) (h : ∀ x, x ∈ l ↔ x ∈ m) : l = m := by
  refine List.Perm.eq_of_pairwise (le := fun x y : Int => x < y) (fun a b _ _ h1 h2 => by omega) hl hm ?_
  exact (List.perm_ext_iff_of_nodup (hl.imp (fun h => by omega)) (hm.imp (fun h => by omega))).2 h
theorem sorted_get {l : List Int} (h : l.Pairwise (· ≤ ·)) {i j : Nat} (hij : i ≤ j) (hj : j < l.length) : l.getD i 0 ≤ l.getD j 0 := by
  rcases Nat.lt_or_eq_of_le hij with h1 | h1
  · have := List.pairwise_iff_getElem.1 h i j (by omega) hj h1
    simpa [List.getD_eq_getElem?_getD, hj, (show i < l.length by omega)] using this
  · subst h1; exact Int.le_refl _
theorem cmp_get {l : List Int} {j : Nat} (hj : j < l.length) : l.toArray[j]! = l.getD j 0 := by
  simp [List.getD_eq_getElem?_getD, hj]
theorem compact_asc {l : List Int} (h : l.Pairwise (· ≤ ·)) : (Go.Lib.compact l).Pairwise (· < ·) := by
  unfold Go.Lib.compact Go.Lib.compactUpTo
  rw [List.pairwise_map, List.pairwise_filter]
  refine List.Pairwise.imp_of_mem ?_ (List.pairwise_lt_range (n := l.length))
  intro i j hi hj hij ki kj
  have hj' : j < l.length := by simpa using hj
  have hi' : i < l.length := by simpa using hi
  rw [cmp_get hi', cmp_get hj']
  have k2 : l.getD j 0 ≠ l.getD (j - 1) 0 := by
    unfold Go.Lib.keeps at kj
    rw [decide_eq_true_eq, cmp_get hj', cmp_get (by omega)] at kj
    exact kj.resolve_left (by omega)
  have h1 := sorted_get h (show i ≤ j - 1 by omega) (by omega)
  have h2 := sorted_get h (show j - 1 ≤ j by omega) hj'
  omega
theorem compact_mem {l : List Int} {x : Int} : x ∈ Go.Lib.compact l ↔ x ∈ l := by
  unfold Go.Lib.compact Go.Lib.compactUpTo
  simp only [List.mem_map, List.mem_filter, List.mem_range]
  constructor
  · rintro ⟨i, ⟨hi, _⟩, rfl⟩
    rw [cmp_get hi]
    exact getD_mem hi
  · intro hx
    obtain ⟨i, hi, rfl⟩ := List.getElem_of_mem hx
    have key : ∀ n i, i ≤ n → (hi : i < l.length) → ∃ j, (j < l.length ∧ Go.Lib.keeps l.toArray j = true) ∧ l.toArray[j]! = l[i] := by
      intro n
      induction n with
      | zero =>
        intro i h0 hi
        obtain rfl : i = 0 := by omega
        exact ⟨0, ⟨hi, by simp [Go.Lib.keeps]⟩, by simp [hi]⟩
      | succ n ih =>
        intro i h0 hi
        by_cases hk : Go.Lib.keeps l.toArray i = true
        · exact ⟨i, ⟨hi, hk⟩, by simp [hi]⟩
        · have h1 : ¬ (i = 0 ∨ l.toArray[i]! ≠ l.toArray[i - 1]!) := by
            intro q
            exact hk (by unfold Go.Lib.keeps; rw [decide_eq_true_eq]; exact q)
          have h2 : i ≠ 0 := fun q => h1 (.inl q)
          have h3 : l.toArray[i]! = l.toArray[i - 1]! := by
            by_cases q : l.toArray[i]! = l.toArray[i - 1]!
            · exact q
            · exact absurd (.inr q) h1
          obtain ⟨j, h4, h5⟩ := ih (i - 1) (by omega) (by omega)
          refine ⟨j, h4, ?_⟩
          rw [h5]
          have e1 : l.toArray[i]! = l[i] := by simp [hi]
          have e2 : l.toArray[i - 1]! = l[i - 1] := by simp [(show i - 1 < l.length by omega)]
          rw [← e1, h3, e2]
    exact key i i (Nat.le_refl _) hi
theorem filtL_asc {p : Nat → Bool} {n : Nat} : (filtL p n).Pairwise (· < ·) := by
  unfold filtL
  rw [List.pairwise_map]
  refine ((List.pairwise_lt_range (n := n)).filter p).imp ?_
  intro a b h
  omega
theorem mem_filtL {p : Nat → Bool} {n : Nat} {x : Int} : x ∈ filtL p n ↔ 0 ≤ x ∧ x < (n : Int) ∧ p x.toNat = true := by
  unfold filtL
  simp only [List.mem_map, List.mem_filter, List.mem_range]
  constructor
  · rintro ⟨i, ⟨hi, hp⟩, rfl⟩
    exact ⟨by omega, by omega, by simpa using hp⟩
  · rintro ⟨h0, h1, hp⟩
    exact ⟨x.toNat, ⟨by omega, hp⟩, by omega⟩
def whereL (c : Channel) (k i : Nat) : List Int := filtL (fun x => (LL c).any fun l => onB c k l && decide (l.getD i (-1) = (x : Int))) c.cells.toNat
def sureL (c : Channel) (k : Nat) : List Int := filtL (fun x => (LL c).all fun l => !onB c k l || decide ((x : Int) ∈ l)) c.cells.toNat
def bareL (c : Channel) (k : Nat) : List Int := filtL (fun x => (LL c).all fun l => !onB c k l || !decide ((x : Int) ∈ l)) c.cells.toNat
theorem lev_iff {c : Channel} (r : Right c) {L : List (List State)} (hL : Levs c L) {k : Nat} (hk : (k : Int) ≤ c.tides) {s : State} : s ∈ L.getD k [] ↔ ∃ l ∈ LL c, s = stL k l ∧ onB c k l = true := by
  have hc := r.cells
  rw [hL.mem k hk]
  constructor
  · intro h
    obtain ⟨v1, v2⟩ := on_V r k hk s h
    obtain ⟨l, hl, rfl⟩ := stL_of r v1 v2
    exact ⟨l, hl, rfl, (on_iff r k hk l ((mem_LL (by omega)).1 hl)).1 h⟩
  · rintro ⟨l, hl, rfl, h⟩
    exact (on_iff r k hk l ((mem_LL (by omega)).1 hl)).2 h
theorem levs_ix {c : Channel} (r : Right c) {L : List (List State)} (hL : Levs c L) {k : Int} (h0 : 0 ≤ k) (hk : k ≤ c.tides) : ix L k = some (L.getD k.toNat []) := ix_eq [] h0 (by have := hL.len; omega)
theorem cells_loop {l : List State} {i : Nat} (hi : i < 3) (hl : l.length ≤ 1000000000000) : iterM FU (yQ l (i : Int)) ⟨0, []⟩ = some (l.map fun s => cGet s.at_ i) := by
  have key := iterM_run (f := yQ l (i : Int)) (fun j => ⟨(j : Int), (l.take j).map fun s => cGet s.at_ i⟩) l.length (b := l.map fun s => cGet s.at_ i) (fun j hj => ?_) ?_ FU (FU_lt2 (by omega))
  · exact key
  · have e : l.take (j + 1) = l.take j ++ [l[j]] := by rw [List.take_append_getElem]
    have hx : l.getD j default = l[j] := by simp [List.getD_eq_getElem?_getD, hj]
    unfold yQ
    simp only
    rw [if_pos (by omega), ix_nat default hj, Option.bind_some, hx, ix3 hi, Option.bind_some, appc_eq (by simp; omega), Option.bind_some, addc_eq (by omega), Option.bind_some, e, List.map_append]
    rfl
  · unfold yQ
    simp only
    rw [if_neg (by omega), List.take_length]
theorem whereL_prog {c : Channel} (r : Right c) {L : List (List State)} (hL : Levs c L) {k i : Nat} (hk : (k : Int) ≤ c.tides) (hi : i < c.fords.length) : Go.Lib.compact (sortI ((L.getD k []).map fun s => cGet s.at_ i)) = whereL c k i := by
  have hc := r.cells
  have hf := r.fords
  refine asc_ext (compact_asc (sortI_sorted _)) filtL_asc (fun x => ?_)
  rw [compact_mem, mem_sortI, List.mem_map]
  unfold whereL
  rw [mem_filtL, List.any_eq_true]
  constructor
  · rintro ⟨s, hs, rfl⟩
    obtain ⟨l, hl, rfl, ho⟩ := (lev_iff r hL hk).1 hs
    have hr := rowB_iff.1 ((mem_LL (by omega)).1 hl)
    have e : cGet (stL k l).at_ i = l.getD i (-1) := cGet_mk (by omega)
    have hm := hr.2.2 _ (getD_mem (l := l) (i := i) (d := -1) (by omega))
    rw [e]
    refine ⟨hm.1, by omega, l, hl, ?_⟩
    rw [ho, Bool.true_and, decide_eq_true_eq]
    omega
  · rintro ⟨h0, h1, l, hl, h⟩
    rw [Bool.and_eq_true, decide_eq_true_eq] at h
    refine ⟨stL k l, (lev_iff r hL hk).2 ⟨l, hl, rfl, h.1⟩, ?_⟩
    rw [show cGet (stL k l).at_ i = l.getD i (-1) from cGet_mk (by omega), h.2]
    omega
theorem jaC {c : Channel} (h : Few c) (k i : Int) : zA c k i = some (if chk c = 0 then (if inb k 0 c.tides = true then (if inb i 0 ((c.fords.length : Int) - 1) = true then (if cntS tt c = 0 then ⟨7, []⟩ else ⟨0, whereL c k.toNat i.toNat⟩) else ⟨1, []⟩) else ⟨3, []⟩) else ⟨chk c, []⟩) := by
  unfold zA
  rw [Yj, Option.bind_some]
  by_cases h0 : chk c = 0
  · have r := rightOf h0
    have hf := r.fords
    rw [if_pos h0, if_pos h0, Yi, Option.bind_some, not_true_if]
    by_cases h1 : inb k 0 c.tides = true
    · rw [if_pos h1, if_pos h1, subc_eq (by omega), Option.bind_some, QB, Option.bind_some, not_true_if]
      by_cases h2 : inb i 0 ((c.fords.length : Int) - 1) = true
      · rw [if_pos h2, if_pos h2]
        obtain ⟨L, e, hL⟩ := Yx h
        rw [e, Option.bind_some, if_pos h0]
        by_cases h3 : cntS tt c = 0
        · rw [if_pos h3, if_pos h3, oc_inl]
        · rw [if_neg h3, if_neg h3, oc_inr]
          have hL' := hL h0 h3
          have k1 := inb_iff.1 h1
          have i1 := inb_iff.1 h2
          rw [levs_ix r hL' k1.1 k1.2, Option.bind_some, show i = ((i.toNat : Nat) : Int) by omega, cells_loop (by omega) (hL'.bnd _ (by omega)), Option.bind_some]
          have hlen := hL'.bnd k.toNat (by omega)
          unfold K4
          rw [if_pos (by rw [List.length_map]; omega), Option.bind_some]
          unfold yx
          rw [if_pos (by rw [sortI_length, List.length_map]; omega), Option.bind_some, whereL_prog r hL' (by omega) (by omega), Int.toNat_natCast]
      · rw [if_neg h2, if_neg h2]
    · rw [if_neg h1, if_neg h1]
  · rw [if_neg h0, if_neg h0]
theorem any_li {c : Channel} (p : List Int → Bool) : ((List.range (LL c).length).any fun a => p (li c a)) = (LL c).any p := any_range
theorem rows_ix {c : Channel} {k : Nat} (hk : (k : Int) ≤ c.tides) (h0 : 0 ≤ c.tides) : ix ((List.range (c.tides.toNat + 1)).map (onRow c)) (k : Int) = some (onRow c k) := range_ix (by omega)
theorem onRow_ix {c : Channel} {k a : Nat} (ha : a < (LL c).length) : ix (onRow c k) (a : Int) = some (onB c k (li c a)) := by unfold onRow; rw [range_ix ha]
theorem ZM {c : Channel} (r : Right c) {k i : Nat} (hk : (k : Int) ≤ c.tides) (hi : i < c.fords.length) : yY c (k : Int) (i : Int) = some (whereL c k i) := by
  have hc := r.cells
  have hf := r.fords
  have ht := r.tides
  have hLL := LL_len r
  unfold yY
  rw [Yh r, Option.bind_some, jaI r, Option.bind_some]
  have inner : ∀ (x : Nat) (out : List Int), iterM FU (qh (LL c) ((List.range (c.tides.toNat + 1)).map (onRow c)) (k : Int) (i : Int) ⟨(x : Int), out⟩) ⟨false, 0⟩ = some ((LL c).any fun l => onB c k l && decide (l.getD i (-1) = (x : Int))) := by
    intro x out
    have key := iterM_run (f := qh (LL c) ((List.range (c.tides.toNat + 1)).map (onRow c)) (k : Int) (i : Int) ⟨(x : Int), out⟩) (fun a => ⟨(List.range a).any fun a => onB c k (li c a) && decide ((li c a).getD i (-1) = (x : Int)), (a : Int)⟩) (LL c).length (b := (LL c).any fun l => onB c k l && decide (l.getD i (-1) = (x : Int))) (fun a ha => ?_) ?_ FU (FU_lt (by omega))
    · exact key
    · have hr := rowB_iff.1 (li_row r ha)
      have hxa : (LL c).getD a [] = li c a := rfl
      unfold qh
      simp only
      rw [if_pos (by omega), List.range_succ (n := a), List.any_append]
      cases (List.range a).any fun a => onB c k (li c a) && decide ((li c a).getD i (-1) = (x : Int)) with
      | true => rw [if_pos rfl, Option.bind_some, addc_eq (by omega), Option.bind_some]; rfl
      | false =>
        rw [if_neg (by decide), rows_ix hk ht.1, Option.bind_some, onRow_ix ha, Option.bind_some, Bool.false_or]
        simp only [List.any_cons, List.any_nil, Bool.or_false]
        cases onB c k (li c a) with
        | true => rw [if_pos rfl, ix_nat [] ha, Option.bind_some, hxa, ix_nat (-1) (by omega), Option.bind_some, Option.bind_some, addc_eq (by omega), Option.bind_some]; rfl
        | false => rw [if_neg (by decide), Option.bind_some, addc_eq (by omega), Option.bind_some]; rfl
    · unfold qh
      simp only
      rw [if_neg (by omega), any_li (fun l => onB c k l && decide (l.getD i (-1) = (x : Int)))]
  have key := iterM_run (f := qk c (LL c) ((List.range (c.tides.toNat + 1)).map (onRow c)) (k : Int) (i : Int)) (fun x => ⟨(x : Int), filtL (fun x => (LL c).any fun l => onB c k l && decide (l.getD i (-1) = (x : Int))) x⟩) c.cells.toNat (b := whereL c k i) (fun x hx => ?_) ?_ FU (FU_lt (by omega))
  · show (iterM FU (qk c (LL c) ((List.range (c.tides.toNat + 1)).map (onRow c)) (k : Int) (i : Int)) ⟨((0 : Nat) : Int), filtL (fun x => (LL c).any fun l => onB c k l && decide (l.getD i (-1) = (x : Int))) 0⟩).bind _ = _
    rw [key]; rfl
  · unfold qk
    have hfl := filtL_len (p := fun x => (LL c).any fun l => onB c k l && decide (l.getD i (-1) = (x : Int))) (k := x)
    simp only
    rw [if_pos (by omega), inner x _, Option.bind_some, filtL_succ]
    cases ((LL c).any fun l => onB c k l && decide (l.getD i (-1) = (x : Int))) with
    | true => rw [if_pos rfl, if_pos rfl, appc_eq (by rw [List.length_singleton]; omega), Option.bind_some, Option.bind_some, addc_eq (by omega), Option.bind_some]; rfl
    | false => rw [if_neg (by decide), if_neg (by decide), Option.bind_some, addc_eq (by omega), Option.bind_some]; rfl
  · unfold qk
    simp only
    rw [if_neg (by omega)]
    rfl
end Go.Proofs.Wb

namespace Go.Proofs.Wb
open Go Go.Fw Go.Gx Go.Sb
set_option linter.unusedVariables false
set_option maxRecDepth 100000
def cntX (c : Channel) (l : List State) (x : Nat) : Nat := (l.filter fun s => decide ((x : Int) ∈ clS c.fords.length s)).length
theorem cntX_all {c : Channel} {l : List State} {x : Nat} : decide ((cntX c l x : Int) = (l.length : Int)) = l.all fun s => decide ((x : Int) ∈ clS c.fords.length s) := by
  unfold cntX
  rw [Bool.eq_iff_iff, decide_eq_true_eq, List.all_eq_true]
  have := List.length_filter_eq_length_iff (l := l) (p := fun s => decide ((x : Int) ∈ clS c.fords.length s))
  rw [← this]
  omega
theorem cntX_none {c : Channel} {l : List State} {x : Nat} : decide ((cntX c l x : Int) = 0) = l.all fun s => !decide ((x : Int) ∈ clS c.fords.length s) := by
  unfold cntX
  rw [Bool.eq_iff_iff, decide_eq_true_eq, List.all_eq_true]
  constructor
  · intro h s hs
    have h2 : l.filter (fun s => decide ((x : Int) ∈ clS c.fords.length s)) = [] := List.length_eq_zero_iff.1 (by omega)
    have h3 := List.filter_eq_nil_iff.1 h2 s hs
    cases hq : decide ((x : Int) ∈ clS c.fords.length s) with
    | true => exact absurd hq h3
    | false => rfl
  · intro h
    have : l.filter (fun s => decide ((x : Int) ∈ clS c.fords.length s)) = [] := by
      rw [List.filter_eq_nil_iff]
      intro s hs hq
      have := h s hs
      rw [hq] at this
      exact absurd this (by decide)
    rw [this]
    rfl
theorem filled_row {c : Channel} (r : Right c) {L : List (List State)} (hL : Levs c L) {k : Nat} (hk : (k : Int) ≤ c.tides) (q : List Int → Bool) : ((L.getD k []).all fun s => q (clS c.fords.length s)) = (LL c).all fun l => !onB c k l || q l := by
  have hc := r.cells
  have hf := r.fords
  have hcl : ∀ l, l ∈ LL c → clS c.fords.length (stL k l) = l := by
    intro l hl
    have h1 := (rowB_iff.1 ((mem_LL (by omega)).1 hl)).1
    unfold stL
    rw [← h1, clS_mk (by omega)]
  rw [Bool.eq_iff_iff, List.all_eq_true, List.all_eq_true]
  constructor
  · intro h l hl
    cases ho : onB c k l with
    | false => rfl
    | true =>
      have := h (stL k l) ((lev_iff r hL hk).2 ⟨l, hl, rfl, ho⟩)
      rw [hcl l hl] at this
      exact this
  · intro h s hs
    obtain ⟨l, hl, rfl, ho⟩ := (lev_iff r hL hk).1 hs
    have := h l hl
    rw [ho] at this
    rw [hcl l hl]
    exact this
theorem filled_L1 {c : Channel} (r : Right c) (L : List (List State)) {l : List State} (hl : l.length ≤ 1000000000000) (x : Nat) (o : List Int) : iterM FU (yu l ⟨c.cells, c.tides, L, rchL c⟩ c ⟨(x : Int), o⟩) ⟨0, 0⟩ = some (cntX c l x : Int) := by
  have hf := r.fords
  have key := iterM_run (f := yu l ⟨c.cells, c.tides, L, rchL c⟩ c ⟨(x : Int), o⟩) (fun j => ⟨(cntX c (l.take j) x : Int), (j : Int)⟩) l.length (b := (cntX c l x : Int)) (fun j hj => ?_) ?_ FU (FU_lt2 (by omega))
  · exact key
  · have e : l.take (j + 1) = l.take j ++ [l[j]] := by rw [List.take_append_getElem]
    have hx : l.getD j default = l[j] := by simp [List.getD_eq_getElem?_getD, hj]
    have hb : cntX c (l.take j) x ≤ l.length := by
      unfold cntX
      have := List.length_filter_le (fun s => decide ((x : Int) ∈ clS c.fords.length s)) (l.take j)
      rw [List.length_take] at this
      omega
    have e2 : cntX c (l.take (j + 1)) x = cntX c (l.take j) x + if decide ((x : Int) ∈ clS c.fords.length l[j]) = true then 1 else 0 := by
      unfold cntX
      rw [e, List.filter_append, List.length_append, List.filter_cons, List.filter_nil]
      split <;> rfl
    unfold yu
    simp only
    rw [if_pos (by omega), ix_nat default hj, Option.bind_some, hx, Zv (by omega), Option.bind_some, QS (by unfold clS; simp; omega), Option.bind_some, e2]
    cases decide ((x : Int) ∈ clS c.fords.length l[j]) with
    | true => rw [if_pos rfl, if_pos rfl, addc_eq (by omega), Option.bind_some, Option.bind_some, addc_eq (by omega), Option.bind_some]; rfl
    | false => rw [if_neg (by decide), if_neg (by decide), Option.bind_some, addc_eq (by omega), Option.bind_some]; rfl
  · unfold yu
    simp only
    rw [if_neg (by omega), List.take_length]
theorem filled_1_L1 {c : Channel} (r : Right c) (L : List (List State)) {l : List State} (hl : l.length ≤ 1000000000000) (x : Nat) (o : List Int) : iterM FU (qS l ⟨c.cells, c.tides, L, rchL c⟩ c ⟨(x : Int), o⟩) ⟨0, 0⟩ = some (cntX c l x : Int) := by
  have hf := r.fords
  have key := iterM_run (f := qS l ⟨c.cells, c.tides, L, rchL c⟩ c ⟨(x : Int), o⟩) (fun j => ⟨(cntX c (l.take j) x : Int), (j : Int)⟩) l.length (b := (cntX c l x : Int)) (fun j hj => ?_) ?_ FU (FU_lt2 (by omega))
  · exact key
  · have e : l.take (j + 1) = l.take j ++ [l[j]] := by rw [List.take_append_getElem]
    have hx : l.getD j default = l[j] := by simp [List.getD_eq_getElem?_getD, hj]
    have hb : cntX c (l.take j) x ≤ l.length := by
      unfold cntX
      have := List.length_filter_le (fun s => decide ((x : Int) ∈ clS c.fords.length s)) (l.take j)
      rw [List.length_take] at this
      omega
    have e2 : cntX c (l.take (j + 1)) x = cntX c (l.take j) x + if decide ((x : Int) ∈ clS c.fords.length l[j]) = true then 1 else 0 := by
      unfold cntX
      rw [e, List.filter_append, List.length_append, List.filter_cons, List.filter_nil]
      split <;> rfl
    unfold qS
    simp only
    rw [if_pos (by omega), ix_nat default hj, Option.bind_some, hx, Zv (by omega), Option.bind_some, QS (by unfold clS; simp; omega), Option.bind_some, e2]
    cases decide ((x : Int) ∈ clS c.fords.length l[j]) with
    | true => rw [if_pos rfl, if_pos rfl, addc_eq (by omega), Option.bind_some, Option.bind_some, addc_eq (by omega), Option.bind_some]; rfl
    | false => rw [if_neg (by decide), if_neg (by decide), Option.bind_some, addc_eq (by omega), Option.bind_some]; rfl
  · unfold qS
    simp only
    rw [if_neg (by omega), List.take_length]
theorem jaP {c : Channel} (h : Few c) (k : Int) : Kx c k = some (if chk c = 0 then (if inb k 0 c.tides = true then (if cntS tt c = 0 then ⟨7, []⟩ else ⟨0, sureL c k.toNat⟩) else ⟨3, []⟩) else ⟨chk c, []⟩) := by
  unfold Kx KA
  rw [Yj, Option.bind_some]
  by_cases h0 : chk c = 0
  · have r := rightOf h0
    have hc := r.cells
    rw [if_pos h0, if_pos h0, Yi, Option.bind_some, not_true_if]
    by_cases h1 : inb k 0 c.tides = true
    · rw [if_pos h1, if_pos h1]
      obtain ⟨L, e, hL⟩ := Yx h
      rw [e, Option.bind_some, if_pos h0]
      by_cases h3 : cntS tt c = 0
      · rw [if_pos h3, if_pos h3, oc_inl]; rfl
      · rw [if_neg h3, if_neg h3, oc_inr]
        have hL' := hL h0 h3
        have k1 := inb_iff.1 h1
        have hlen := hL'.bnd k.toNat (by omega)
        have hkk : ((k.toNat : Nat) : Int) = k := by omega
        have key := iterM_run (f := yr c ⟨c.cells, c.tides, L, rchL c⟩ k) (fun x => ⟨(x : Int), filtL (fun x => (LL c).all fun l => !onB c k.toNat l || decide ((x : Int) ∈ l)) x⟩) c.cells.toNat (b := sureL c k.toNat) (fun x hx => ?_) ?_ FU (FU_lt (by omega))
        · show ((iterM FU (yr c ⟨c.cells, c.tides, L, rchL c⟩ k) ⟨((0 : Nat) : Int), filtL (fun x => (LL c).all fun l => !onB c k.toNat l || decide ((x : Int) ∈ l)) 0⟩).bind _).bind _ = _
          rw [key]; rfl
        · have hfl := filtL_len (p := fun x => (LL c).all fun l => !onB c k.toNat l || decide ((x : Int) ∈ l)) (k := x)
          unfold yr
          simp only
          rw [if_pos (by omega), levs_ix r hL' k1.1 k1.2, Option.bind_some, filled_L1 r L hlen, Option.bind_some, Option.bind_some]
          unfold KB
          rw [Option.bind_some, cntX_all, filled_row r hL' (by omega) (fun l => decide ((x : Int) ∈ l)), filtL_succ]
          cases ((LL c).all fun l => !onB c k.toNat l || decide ((x : Int) ∈ l)) with
          | true => rw [if_pos rfl, if_pos rfl, appc_eq (by rw [List.length_singleton]; omega), Option.bind_some, Option.bind_some, addc_eq (by omega), Option.bind_some]; rfl
          | false => rw [if_neg (by decide), if_neg (by decide), Option.bind_some, addc_eq (by omega), Option.bind_some]; rfl
        · unfold yr
          simp only
          rw [if_neg (by omega)]
          rfl
    · rw [if_neg h1, if_neg h1]; rfl
  · rw [if_neg h0, if_neg h0]; rfl
theorem jaS {c : Channel} (h : Few c) (k : Int) : Kz c k = some (if chk c = 0 then (if inb k 0 c.tides = true then (if cntS tt c = 0 then ⟨7, []⟩ else ⟨0, bareL c k.toNat⟩) else ⟨3, []⟩) else ⟨chk c, []⟩) := by
  unfold Kz JJ
  rw [Yj, Option.bind_some]
  by_cases h0 : chk c = 0
  · have r := rightOf h0
    have hc := r.cells
    rw [if_pos h0, if_pos h0, Yi, Option.bind_some, not_true_if]
    by_cases h1 : inb k 0 c.tides = true
    · rw [if_pos h1, if_pos h1]
      obtain ⟨L, e, hL⟩ := Yx h
      rw [e, Option.bind_some, if_pos h0]
      by_cases h3 : cntS tt c = 0
      · rw [if_pos h3, if_pos h3, oc_inl]; rfl
      · rw [if_neg h3, if_neg h3, oc_inr]
        have hL' := hL h0 h3
        have k1 := inb_iff.1 h1
        have hlen := hL'.bnd k.toNat (by omega)
        have hkk : ((k.toNat : Nat) : Int) = k := by omega
        have key := iterM_run (f := qT c ⟨c.cells, c.tides, L, rchL c⟩ k) (fun x => ⟨(x : Int), filtL (fun x => (LL c).all fun l => !onB c k.toNat l || !decide ((x : Int) ∈ l)) x⟩) c.cells.toNat (b := bareL c k.toNat) (fun x hx => ?_) ?_ FU (FU_lt (by omega))
        · show ((iterM FU (qT c ⟨c.cells, c.tides, L, rchL c⟩ k) ⟨((0 : Nat) : Int), filtL (fun x => (LL c).all fun l => !onB c k.toNat l || !decide ((x : Int) ∈ l)) 0⟩).bind _).bind _ = _
          rw [key]; rfl
        · have hfl := filtL_len (p := fun x => (LL c).all fun l => !onB c k.toNat l || !decide ((x : Int) ∈ l)) (k := x)
          unfold qT
          simp only
          rw [if_pos (by omega), levs_ix r hL' k1.1 k1.2, Option.bind_some, filled_1_L1 r L hlen, Option.bind_some, Option.bind_some]
          unfold Kq
          rw [Option.bind_some, cntX_none, filled_row r hL' (by omega) (fun l => !decide ((x : Int) ∈ l)), filtL_succ]
          cases ((LL c).all fun l => !onB c k.toNat l || !decide ((x : Int) ∈ l)) with
          | true => rw [if_pos rfl, if_pos rfl, appc_eq (by rw [List.length_singleton]; omega), Option.bind_some, Option.bind_some, addc_eq (by omega), Option.bind_some]; rfl
          | false => rw [if_neg (by decide), if_neg (by decide), Option.bind_some, addc_eq (by omega), Option.bind_some]; rfl
        · unfold qT
          simp only
          rw [if_neg (by omega)]
          rfl
    · rw [if_neg h1, if_neg h1]; rfl
  · rw [if_neg h0, if_neg h0]; rfl
theorem all_li {c : Channel} (p : List Int → Bool) : ((List.range (LL c).length).all fun a => p (li c a)) = (LL c).all p := by
  rw [← not_any_not, any_li (fun l => !p l), not_any_not]
theorem Ys {c : Channel} (r : Right c) {k : Nat} (hk : (k : Int) ≤ c.tides) : yJ c (k : Int) = some ⟨sureL c k, bareL c k⟩ := by
  have hc := r.cells
  have hf := r.fords
  have ht := r.tides
  have hLL := LL_len r
  unfold yJ
  rw [Yh r, Option.bind_some, jaI r, Option.bind_some]
  have inner : ∀ (x : Nat) (o1 o2 : List Int), iterM FU (k9 (LL c) ((List.range (c.tides.toNat + 1)).map (onRow c)) (k : Int) ⟨(x : Int), o1, o2⟩) ⟨true, true, 0⟩ = some ⟨(LL c).all fun l => !onB c k l || decide ((x : Int) ∈ l), (LL c).all fun l => !onB c k l || !decide ((x : Int) ∈ l)⟩ := by
    intro x o1 o2
    have key := iterM_run (f := k9 (LL c) ((List.range (c.tides.toNat + 1)).map (onRow c)) (k : Int) ⟨(x : Int), o1, o2⟩) (fun a => ⟨(List.range a).all fun a => !onB c k (li c a) || decide ((x : Int) ∈ li c a), (List.range a).all fun a => !onB c k (li c a) || !decide ((x : Int) ∈ li c a), (a : Int)⟩) (LL c).length (b := ⟨(LL c).all fun l => !onB c k l || decide ((x : Int) ∈ l), (LL c).all fun l => !onB c k l || !decide ((x : Int) ∈ l)⟩) (fun a ha => ?_) ?_ FU (FU_lt (by omega))
    · exact key
    · have hr := rowB_iff.1 (li_row r ha)
      have hxa : (LL c).getD a [] = li c a := rfl
      unfold k9
      simp only
      rw [if_pos (by omega), rows_ix hk ht.1, Option.bind_some, onRow_ix ha, Option.bind_some, List.range_succ (n := a), List.all_append, List.all_append, addc_eq (by omega), ix_nat [] ha, hxa]
      have hhas := jat (l := li c a) (by omega) (x : Int)
      simp only [Option.bind_some, hhas, List.all_cons, List.all_nil, Bool.and_true]
      generalize ((List.range a).all fun a => !onB c k (li c a) || decide ((x : Int) ∈ li c a)) = u
      generalize ((List.range a).all fun a => !onB c k (li c a) || !decide ((x : Int) ∈ li c a)) = v
      cases onB c k (li c a) <;> cases u <;> cases v <;> cases decide ((x : Int) ∈ li c a) <;> rfl
    · unfold k9
      simp only
      rw [if_neg (by omega), all_li (fun l => !onB c k l || decide ((x : Int) ∈ l)), all_li (fun l => !onB c k l || !decide ((x : Int) ∈ l))]
  have key := iterM_run (f := kZ c (LL c) ((List.range (c.tides.toNat + 1)).map (onRow c)) (k : Int)) (fun x => ⟨(x : Int), filtL (fun x => (LL c).all fun l => !onB c k l || decide ((x : Int) ∈ l)) x, filtL (fun x => (LL c).all fun l => !onB c k l || !decide ((x : Int) ∈ l)) x⟩) c.cells.toNat (b := ⟨sureL c k, bareL c k⟩) (fun x hx => ?_) ?_ FU (FU_lt (by omega))
  · show (iterM FU (kZ c (LL c) ((List.range (c.tides.toNat + 1)).map (onRow c)) (k : Int)) ⟨((0 : Nat) : Int), filtL (fun x => (LL c).all fun l => !onB c k l || decide ((x : Int) ∈ l)) 0, filtL (fun x => (LL c).all fun l => !onB c k l || !decide ((x : Int) ∈ l)) 0⟩).bind _ = _
    rw [key]; rfl
  · unfold kZ
    have hfl := filtL_len (p := fun x => (LL c).all fun l => !onB c k l || decide ((x : Int) ∈ l)) (k := x)
    have hfl2 := filtL_len (p := fun x => (LL c).all fun l => !onB c k l || !decide ((x : Int) ∈ l)) (k := x)
    simp only
    rw [if_pos (by omega), inner x _ _, Option.bind_some, filtL_succ, filtL_succ, addc_eq (by omega), appc_eq (by rw [List.length_singleton]; omega), appc_eq (by rw [List.length_singleton]; omega)]
    simp only [Option.bind_some]
    cases ((LL c).all fun l => !onB c k l || decide ((x : Int) ∈ l)) <;> cases ((LL c).all fun l => !onB c k l || !decide ((x : Int) ∈ l)) <;> rfl
  · unfold kZ
    simp only
    rw [if_neg (by omega)]
    rfl
end Go.Proofs.Wb

namespace Go.Proofs.Wb
open Go Go.Fw Go.Gx Go.Sb
set_option maxRecDepth 100000
theorem awake_true : yX = some true := by decide +kernel
end Go.Proofs.Wb

namespace Go.Proofs.Wb
open Go Go.Fw Go.Gx Go.Sb
set_option linter.unusedVariables false
set_option maxRecDepth 100000
theorem jaD (c : Channel) : yW c = some (decide (10 < c.fords.length ∨ 10 < c.sands.length ∨ 14 < c.sights.length)) := by
  unfold yW
  by_cases h1 : 10 < c.fords.length
  · rw [if_pos (by omega), Option.bind_some, decide_eq_true (.inl h1)]
  · rw [if_neg (by omega)]
    by_cases h2 : 10 < c.sands.length
    · rw [if_pos (by omega), Option.bind_some, decide_eq_true (.inr (.inl h2))]
    · rw [if_neg (by omega), Option.bind_some]
      congr 1
      rw [Bool.eq_iff_iff, decide_eq_true_eq, decide_eq_true_eq]
      omega
theorem few_of {c : Channel} (h : ¬ (10 < c.fords.length ∨ 10 < c.sands.length ∨ 14 < c.sights.length)) : Few c := ⟨by omega, by omega, by omega⟩
end Go.Proofs.Wb

namespace Go.Proofs.Wb
open Go Go.Fw Go.Gx Go.Sb
set_option linter.unusedVariables false
set_option maxRecDepth 100000
def WideP (c : Channel) : Prop := (10 < c.fords.length ∨ 10 < c.sands.length ∨ 14 < c.sights.length) ∨ c.fords.length = 3 ∨ (8 < c.cells ∧ c.cells ≤ 10)
instance (c : Channel) : Decidable (WideP c) := by unfold WideP; infer_instance
theorem jaV (c : Channel) : zt c = some (decide (WideP c)) := by
  unfold zt
  rw [jaD, Option.bind_some]
  by_cases h1 : 10 < c.fords.length ∨ 10 < c.sands.length ∨ 14 < c.sights.length
  · rw [if_pos (by simpa using h1), Option.bind_some, decide_eq_true (p := WideP c) (.inl h1)]
  · rw [if_neg (by simpa using h1)]
    by_cases h2 : c.fords.length = 3
    · rw [if_pos (by omega), Option.bind_some, decide_eq_true (p := WideP c) (.inr (.inl h2))]
    · rw [if_neg (by omega)]
      by_cases h3 : 8 < c.cells
      · rw [if_pos h3, Option.bind_some]
        congr 1
        rw [Bool.eq_iff_iff, decide_eq_true_eq, decide_eq_true_eq]
        unfold WideP
        omega
      · rw [if_neg h3, Option.bind_some]
        congr 1
        symm
        rw [decide_eq_false_iff_not]
        unfold WideP
        omega
theorem few_wide {c : Channel} (h : ¬ WideP c) : Few c := few_of (fun q => h (.inl q))
theorem offA (x hi : Int) : ((if x < 0 then (some true) else (some (decide (hi < x)))) : Option Bool) = some (!inb x 0 hi) := by
  unfold inb
  by_cases hq : x < 0
  · rw [if_pos hq]
    congr 1
    rw [Bool.eq_iff_iff]; simp; omega
  · rw [if_neg hq]
    congr 1
    rw [Bool.eq_iff_iff]; simp; omega
theorem offB (x hi : Int) : ((if x < 0 then (some true) else (some (decide (hi ≤ x)))) : Option Bool) = some (!inb x 0 (hi - 1)) := by
  unfold inb
  by_cases hq : x < 0
  · rw [if_pos hq]
    congr 1
    rw [Bool.eq_iff_iff]; simp; omega
  · rw [if_neg hq]
    congr 1
    rw [Bool.eq_iff_iff]; simp; omega
theorem Zf {c : Channel} (r : Right c) : kf c = some ((2 ^ c.sights.length - 1 : Nat) : Int) := Q6 (by have := r.sights; omega)
theorem Zx {c : Channel} (r : Right c) : ya c ((2 ^ c.sights.length - 1 : Nat) : Int) = some (cntS tt c : Int) := by rw [ZS r (all_small r), cntS_all]
theorem filtL_short {p : Nat → Bool} {c : Channel} (hc : c.cells ≤ 10) : (filtL p c.cells.toNat).length < 1000000 := by
  have := filtL_len (p := p) (k := c.cells.toNat)
  omega
theorem BranchCells_true (c : Channel) (k i : Int) : yh c k i = some true := by
  unfold yh
  rw [jaV, Option.bind_some, awake_true]
  by_cases hw : WideP c
  · rw [decide_eq_true hw, if_pos rfl, Option.bind_some]
  rw [decide_eq_false hw, if_neg (by decide)]
  have hF := few_wide hw
  rw [Own_eq hF, theirs_eq hF]
  simp only [Option.bind_some]
  rw [refCheck_eq hF, jaC hF, jaP hF, jaS hF, jaK hF, offA, offB]
  simp only [Option.bind_some]
  by_cases h0 : chk c = 0
  · have r := rightOf h0
    have hc := r.cells
    have hf := r.fords
    rw [Zf r]
    simp only [Option.bind_some]
    rw [Zx r]
    simp only [h0, if_true, Option.bind_some]
    cases h1 : inb k 0 c.tides with
    | false =>
      simp [zP]
    | true =>
      have k1 := inb_iff.1 h1
      have ek : k = ((k.toNat : Nat) : Int) := by omega
      cases h2 : inb i 0 ((c.fords.length : Int) - 1) with
      | false =>
        by_cases h3 : cntS tt c = 0
        · simp [h3, zP]
        · have h3' : ¬ ((cntS tt c : Int) = 0) := by omega
          have hfill := Ys r (k := k.toNat) (by omega)
          rw [← ek] at hfill
          have s1 := zP (a := sureL c k.toNat) (b := sureL c k.toNat) (filtL_short hc.2)
          have s2 := zP (a := bareL c k.toNat) (b := bareL c k.toNat) (filtL_short hc.2)
          have s0 := zP (a := ([] : List Int)) (b := []) (by simp)
          simp [h3, h3', hfill, s1, s2, s0]
      | true =>
        have i1 := inb_iff.1 h2
        have ei : i = ((i.toNat : Nat) : Int) := by omega
        by_cases h3 : cntS tt c = 0
        · simp [h3, zP]
        · have h3' : ¬ ((cntS tt c : Int) = 0) := by omega
          have hfill := Ys r (k := k.toNat) (by omega)
          rw [← ek] at hfill
          have hcell := ZM r (k := k.toNat) (i := i.toNat) (by omega) (by omega)
          rw [← ek, ← ei] at hcell
          have s0 := zP (a := whereL c k.toNat i.toNat) (b := whereL c k.toNat i.toNat) (filtL_short hc.2)
          have s1 := zP (a := sureL c k.toNat) (b := sureL c k.toNat) (filtL_short hc.2)
          have s2 := zP (a := bareL c k.toNat) (b := bareL c k.toNat) (filtL_short hc.2)
          simp [h3, h3', hfill, hcell, s1, s2, s0]
  · simp [h0, zP]
end Go.Proofs.Wb

namespace Go.Gx
open Go Go.Fw Go.RowKit
section
variable {H : Type} {enc : TypeId × Value → H} {P : Program} {w : World} {base : Nat} {sp : Nat → Bool} {held : Bool}
def Opens (enc : TypeId × Value → H) (P : Program) (w : World) (base : Nat) (sp : Nat → Bool) (held : Bool) {α : Type} (R : Row α) (wf : α → Prop) (t : TypeId) : Prop :=
  ∀ fuel cs x, DataW.trod enc P w base sp held fuel t cs = some x → ∃ a, cs = R.cells a ∧ wf a
def i64P (n : Int) : Prop := -9223372036854775808 ≤ n ∧ n ≤ 9223372036854775807
theorem wf_i64P {n : Int} (h : (Lit.int .i64 n).wf = true) : i64P n := by
  simp [Lit.wf, IntKind.min, IntKind.max, IntKind.signed, IntKind.bits] at h
  unfold i64P; omega
theorem opens_i64 {t : TypeId} (ht : P.underlying t = some (.int .i64)) : Opens enc P w base sp held RI i64P t := fun fuel cs x h => by
  obtain ⟨n, rfl, _, hw⟩ := DataW.trod_int ht h
  exact ⟨n, rfl, wf_i64P hw⟩
theorem opens_bool {t : TypeId} (ht : P.underlying t = some .bool) : Opens enc P w base sp held RB (fun _ => True) t := fun fuel cs x h => by
  obtain ⟨b, rfl, _⟩ := DataW.trod_bool ht h
  exact ⟨b, rfl, trivial⟩
theorem fieldAt {fs : Array Field} {t : TypeId} {fuel : Nat} {cs : List Value} {x : DataW H × List MemPlace} (ht : P.underlying t = some (.struct fs)) (h : DataW.trod enc P w base sp held fuel t cs = some x) {α : Type} {R : Row α} {wf : α → Prop} (i : Nat) {T o k : Nat}
    (hf : (fs[i]?).map (fun fd => (fd.type, fd.offset)) = some (T, o)) (hk : P.cellsOf T = k) (hR : Opens enc P w base sp held R wf T) : ∃ a, (cs.drop o).take k = R.cells a ∧ wf a := by
  obtain ⟨xs, n, rfl, _, hlen, hxl, hx⟩ := DataW.trod_struct ht h
  obtain ⟨fd, hfd, he⟩ : ∃ fd, fs[i]? = some fd ∧ (fd.type, fd.offset) = (T, o) := by
    cases hh : fs[i]? with
    | none => simp [hh] at hf
    | some fd => exact ⟨fd, rfl, by simpa [hh] using hf⟩
  simp only [Prod.mk.injEq] at he
  obtain ⟨rfl, rfl⟩ := he
  have h1 := hx i fd hfd
  rw [hk] at h1
  have hi : i < xs.length := by rw [hxl]; exact (Array.getElem?_eq_some_iff.1 hfd).1
  rw [List.getElem?_eq_getElem hi] at h1
  exact hR _ _ _ h1
theorem structLen {fs : Array Field} {t : TypeId} {fuel : Nat} {cs : List Value} {x : DataW H × List MemPlace} (ht : P.underlying t = some (.struct fs)) (h : DataW.trod enc P w base sp held fuel t cs = some x) : cs.length = P.cellsOf t := by
  obtain ⟨xs, n, _, _, hlen, _⟩ := DataW.trod_struct ht h
  exact hlen
structure SlIn {α : Type} (R : Row α) (wf : α → Prop) (w : World) (v : Value) (A : Option Addr) (n c : Nat) (l : List α) : Prop where
  val : v = .slice A n c
  len : l.length = n
  ok : AOK n A
  le : n ≤ c
  max : c ≤ maxLen
  seg : segOK w (aB A, aO A, R.enc l)
  wf : ∀ x, x ∈ l → wf x
theorem choose_list {α : Type} {p : Nat → α → Prop} : ∀ (n : Nat), (∀ i, i < n → ∃ a, p i a) → ∃ l : List α, l.length = n ∧ ∀ i (h : i < l.length), p i l[i]
  | 0, _ => ⟨[], rfl, fun i h => by simp at h⟩
  | n + 1, h => by
    obtain ⟨l, hl, hp⟩ := choose_list n (fun i hi => h i (by omega))
    obtain ⟨a, ha⟩ := h n (by omega)
    refine ⟨l ++ [a], by simp [hl], fun i hi => ?_⟩
    by_cases hil : i < l.length
    · rw [List.getElem_append_left hil]; exact hp i hil
    · have : i = l.length := by simp at hi; omega
      subst this
      rw [List.getElem_append_right (by omega)]
      simp only [Nat.sub_self, List.getElem_cons_zero]
      rw [hl]; exact ha
theorem openSl {α : Type} {R : Row α} {wf : α → Prop} {t e : TypeId} (ht : P.underlying t = some (.slice e)) (hc : P.cellsOf e = R.sz) (hR : Opens enc P w base sp held R wf e) (h0 : Nat.blt 0 R.sz = true)
    {fuel : Nat} {cs : List Value} {x : DataW H × List MemPlace} (h : DataW.trod enc P w base sp held fuel t cs = some x) : ∃ (v : Value) (A : Option Addr) (n c : Nat) (l : List α), cs = [v] ∧ SlIn R wf w v A n c l := by
  have hsz : 0 < R.sz := by simpa using h0
  rcases Go.Deep.open_slice ht h with ⟨rfl, _⟩ | ⟨a, len, cap, m, n, D, Pl, rfl, hb, hl, hm, hmm, _, hi⟩
  · exact ⟨_, none, 0, 0, [], rfl, rfl, rfl, AOK.nil, Nat.le_refl _, Nat.zero_le _, segOK.nil, by simp⟩
  · have hlm : len ≤ m := by rw [hmm]; split <;> omega
    have hcell : ∀ i, i < len → ∃ x : α, (∀ f (hf : f < (R.cells x).length), w.cell? (a.add (i * R.sz + f)) = some (R.cells x)[f]) ∧ wf x := fun i hil => by
      obtain ⟨cs', h1, h2⟩ := hi i (by omega)
      obtain ⟨x, rfl, hw⟩ := hR _ _ _ h2
      obtain ⟨_, _, hat⟩ := World.cells?_some h1
      refine ⟨x, fun f hf => ?_, hw⟩
      have := hat f (by rw [hc, ← R.len x]; exact hf)
      rw [hc] at this
      rw [List.getElem?_eq_getElem hf] at this
      have e : (a.add (i * R.sz)).add f = a.add (i * R.sz + f) := by
        unfold Addr.add
        by_cases h1 : i * R.sz = 0
        · simp [h1]
        · by_cases h2 : f = 0
          · simp [h2]
          · simp [h1, h2, Nat.add_assoc]
      rw [e] at this
      exact this
    obtain ⟨l, hll, hlp⟩ := choose_list len hcell
    have hspot : 0 < len → a.spot = none := fun h0 => by
      obtain ⟨x, hx, _⟩ := hcell 0 h0
      have := World.cell?_spot (hx 0 (by rw [R.len]; exact hsz))
      simpa [Addr.add] using this
    refine ⟨_, some a, len, cap, l, rfl, rfl, hll, fun h0 => ?_, hl, hm, fun j hj => ?_, fun x hx => ?_⟩
    · obtain ⟨b, o, s⟩ := a
      have := hspot h0
      simp only at this
      subst this
      exact ⟨b, o, rfl⟩
    · have hj' : j < l.length * R.sz := by rw [← R.enc_len]; exact hj
      have hpos : 0 < len := by
        rcases Nat.eq_zero_or_pos len with h | h
        · rw [hll, h, Nat.zero_mul] at hj'; omega
        · exact h
      obtain ⟨b, o, s⟩ := a
      have hs := hspot hpos
      simp only at hs
      subst hs
      have hq : j / R.sz < l.length := Nat.div_lt_of_lt_mul (by rw [Nat.mul_comm]; exact hj')
      have hr : j % R.sz < R.sz := Nat.mod_lt _ hsz
      have hd : j / R.sz * R.sz + j % R.sz = j := by rw [Nat.mul_comm]; exact Nat.div_add_mod j R.sz
      have h1 := (hlp (j / R.sz) hq).1 (j % R.sz) (by rw [R.len]; exact hr)
      rw [hd] at h1
      have h2 := R.enc_get l (j / R.sz) (j % R.sz) l[j / R.sz] (List.getElem?_eq_getElem hq) hr
      rw [hd] at h2
      have h3 : (⟨b, o, none⟩ : Addr).add j = ⟨b, o + j, none⟩ := addr_add b o j
      rw [h3] at h1
      simp only [aB, aO, Option.map_some, Option.getD_some]
      rw [h1, ← List.getElem?_eq_getElem, ← h2, List.getElem?_eq_getElem hj]
    · obtain ⟨i, hi', rfl⟩ := List.getElem_of_mem hx
      exact (hlp i hi').2
theorem fieldSl {fs : Array Field} {t : TypeId} {fuel : Nat} {cs : List Value} {x : DataW H × List MemPlace} (ht : P.underlying t = some (.struct fs)) (h : DataW.trod enc P w base sp held fuel t cs = some x) {α : Type} {R : Row α} {wf : α → Prop} (i : Nat) {T o e : Nat}
    (hf : (fs[i]?).map (fun fd => (fd.type, fd.offset)) = some (T, o)) (hk : P.cellsOf T = 1) (hT : P.underlying T = some (.slice e)) (hc : P.cellsOf e = R.sz) (hR : Opens enc P w base sp held R wf e) (h0 : Nat.blt 0 R.sz = true) :
    ∃ (v : Value) (A : Option Addr) (n c : Nat) (l : List α), (cs.drop o).take 1 = [v] ∧ SlIn R wf w v A n c l := by
  obtain ⟨xs, m, rfl, _, hlen, hxl, hx⟩ := DataW.trod_struct ht h
  obtain ⟨fd, hfd, he⟩ : ∃ fd, fs[i]? = some fd ∧ (fd.type, fd.offset) = (T, o) := by
    cases hh : fs[i]? with
    | none => simp [hh] at hf
    | some fd => exact ⟨fd, rfl, by simpa [hh] using hf⟩
  simp only [Prod.mk.injEq] at he
  obtain ⟨rfl, rfl⟩ := he
  have h1 := hx i fd hfd
  rw [hk] at h1
  have hi : i < xs.length := by rw [hxl]; exact (Array.getElem?_eq_some_iff.1 hfd).1
  rw [List.getElem?_eq_getElem hi] at h1
  exact openSl hT hc hR h0 h1
theorem HV.begin {ro : List Sg} (h : ∀ s, s ∈ ro → segOK w s) : HV w (keys [] []) [] [] ro w :=
  ⟨rfl, rfl, rfl, Nat.le_refl _, fun _ _ _ => rfl, by simp [vbl], by simp [vbl], by simp [vbl], h, by simp [vbl]⟩
theorem segCons {s : Sg} {ro : List Sg} (h : segOK w s) (hr : ∀ t, t ∈ ro → segOK w t) : ∀ t, t ∈ s :: ro → segOK w t := fun t ht => by
  rcases List.mem_cons.1 ht with rfl | ht
  · exact h
  · exact hr t ht
theorem segNil : ∀ t, t ∈ ([] : List Sg) → segOK w t := fun t ht => by cases ht
theorem HV.below {w' : World} (h : HV w (keys [] []) [] [] [] w') : Below w.heap.size w w' := by
  have : Ext [] w w' := HS.toExt h
  exact this.below
end
end Go.Gx

