/- What the functions that the law BranchClashed reaches come to, and why it holds: part 8. -/
import Derived.Test.YtpjnpibgnkgnaaaGreatBranchClashed7
namespace Go.Proofs.Wb
set_option maxHeartbeats 4000000
set_option maxRecDepth 100000
open Go Go.Fw Go.Gx Go.Sb
open Tryz
set_option linter.unusedVariables false

structure YV where
  t5_1 : Int
  t5_2 : Int
def Zb (shells0 : (List Int)) : Option YV :=
 some (⟨0, 0⟩ : YV)
theorem jaR (shells0 : (List Int)) (qa0 : Option Addr) (na0 ca0 : Nat) (w : World) (hw : HV w (keys [] []) [] [] [(aB qa0, aO qa0, RU8.enc shells0)] w) (hna0 : shells0.length = na0) (hqa0 : AOK na0 qa0) (hla0 : na0 ≤ ca0) {res : YV} (hm : Zb shells0 = some res) :
    Calls Tryz.prog 62 #[.slice qa0 na0 ca0] w (fun en w' => ∃ l : Nat, en = .returned (ptr l 0) ∧ (True) ∧ HV w (keys [] []) [kc l #[.slice qa0 na0 ca0, .int .i64 res.t5_1, .int .u32 res.t5_2] 199] [] [] w') := by
  unfold Zb at hm
  refine q5 func62 Y ntmps62 Y (e := [(0, _)]) Y hw (jr (jo Y Y (kY (jh Y Y (jc Y Y Y (fun _ _ => qe (vs := [(0, _)]) (cells := [_, _, _]) Y Y) ?_)))))
  refine jK Y Y (fun b h1 => ?_)
  refine jo Y Y (jq (ju ?_))
  obtain rfl := sj hm
  refine jj Y (fun w hh => (.tmp Y .nil)) (fun w hh => ⟨b, rfl, trivial, hh.se [0] [] 1 Y Y Y rfl⟩)
structure Ko where
  r0 : Int
  h0_1 : Int
  h0_2 : Int
structure K9 where
  h0_1 : Int
  h0_2 : Int
def Je (h00 : (List Int)) (h01 : Int) (h02 : Int) : Option Ko :=
 (if h01 < (h00.length : Int) then
 ((ix h00 h01).bind fun t29 =>
 some (IntKind.u32.wrap ((IntKind.u32.wrap (40503 * (IntKind.u32.wrap (h02 + 1)))) + (IntKind.u32.wrap (331 * (IntKind.u32.wrap t29)))))) else
 (some (IntKind.u32.wrap (40503 * (IntKind.u32.wrap (h02 + 1)))))).bind fun o =>
 ((addc h01 1).bind fun t38 =>
 if (h00.length : Int) ≤ t38 then
 (some (⟨0, (IntKind.u32.wrap (h02 + 1))⟩ : K9)) else
 (some (⟨t38, h02⟩ : K9))).bind fun o_1 =>
 some (⟨(IntKind.i64.wrap (IntKind.u32.wrap (BitVec.ofInt IntKind.u32.bits (IntKind.u32.wrap (BitVec.ofInt IntKind.u32.bits o ^^^ BitVec.ofInt IntKind.u32.bits (Int.fdiv o (2 ^ min (Int.toNat 9) IntKind.u32.bits))).toNat) &&& BitVec.ofInt IntKind.u32.bits 32767).toNat)), o_1.h0_1, o_1.h0_2⟩ : Ko)
theorem Zf (h00 : (List Int)) (h01 : Int) (h02 : Int) (pb : Nat) (qa0 : Option Addr) (na0 ca0 : Nat) (w : World) (hw : HV w (keys [kc pb #[.slice qa0 na0 ca0, .int .i64 h01, .int .u32 h02] 199] []) [kc pb #[.slice qa0 na0 ca0, .int .i64 h01, .int .u32 h02] 199] [] [(aB qa0, aO qa0, RU8.enc h00)] w) (hna0 : h00.length = na0) (hqa0 : AOK na0 qa0) (hla0 : na0 ≤ ca0) {res : Ko} (hm : Je h00 h01 h02 = some res) :
    Calls Tryz.prog 180 #[ptr pb 0] w (fun en w' => ∃ l : Unit, en = .returned (.int .i64 res.r0) ∧ (True) ∧ HV w (keys [kc pb #[.slice qa0 na0 ca0, .int .i64 h01, .int .u32 h02] 199] []) [kc pb #[.slice qa0 na0 ca0, .int .i64 res.h0_1, .int .u32 res.h0_2] 199] [] [] w') := by
  unfold Je at hm
  refine q5 func180 Y ntmps180 Y (e := [(0, _)]) Y hw (jr (jo Y Y (kY (jh Y Y (jc Y Y Y (fun _ _ => jR Y) (yJ 2 runUnderlying199 Y sizeOf197 Y Y (yl 0 isAgg197 Y Y Y Y ?_)))))))
  refine jc Y Y Y (fun _ _ => jaz Y Y) (jc Y Y Y (fun _ _ => jaX Y Y) (jo Y Y (jq (ji ?_))))
  obtain ⟨o, h1, h2⟩ := bindO hm
  refine jU (ι := Unit) (fun l => True) (fun l => [(0, ptr pb 0), (3, .int .u32 o)]) (fun l => [kc pb #[.slice qa0 na0 ca0, .int .i64 h01, .int .u32 h02] 199]) (fun l => []) ?_ ?_
  ·replace hm := h1
   refine ji ?_
   refine kM none (.free 0 (.free 1 (.free 2 (.hoist 3 (.free 4 (.free 5 (.free 6 (.hoist 7 (.free 8 (.free 9 .done)))))))))) _ Y (by decide +kernel) (fun w k hh => hh.draw k) (fun w hh => hh) ?_
   refine za Y Y Y (jp Y Y Y Y (fun _ _ => jR Y) (KH 1 runUnderlying199 sizeOf3 Y Y Y Y (K2 0 isAgg3 Y Y Y Y Y (za Y Y Y (jp Y Y Y Y (fun _ _ => jR Y) (KH 0 runUnderlying199 sizeOf92 Y Y Y Y (K2 0 isAgg92 Y Y Y Y Y ?_)))))))
   refine jp Y Y Y Y (fun w _ => k6 hna0 (runUnderlying92 w) Y) (jp Y Y Y Y (fun _ _ => jaC Y Y) (jQ (ja ?_)))
   refine jt Y (fun h3 => ?_) (fun h3 => ?_)
   ·replace hm := ifD h3 hm
    refine kM none (.free 0 (.free 1 (.free 2 (.free 3 (.hoist 4 (.free 5 (.free 6 (.free 7 (.hoist 8 (.free 9 (.hoist 10 (.free 11 (.free 12 (.free 13 (.free 14 .done))))))))))))))) _ Y (by decide +kernel) (fun w k hh => hh.draw k) (fun w hh => hh) ?_
    refine za Y Y Y (za Y Y Y (jp Y Y Y Y (fun _ _ => jR Y) (KH 0 runUnderlying199 sizeOf92 Y Y Y Y (K2 0 isAgg92 Y Y Y Y Y (za Y Y Y (jp Y Y Y Y (fun _ _ => jR Y) (KH 1 runUnderlying199 sizeOf3 Y Y Y Y ?_)))))))
    refine K2 0 isAgg3 Y Y Y Y Y ?_
    obtain ⟨t29, h4, hm⟩ := bindO hm
    refine jp Y Y Y Y (fun w _ => Jf h4 (runUnderlying92 w) (sizeOf5 w) Y Y hna0 hqa0) (jz Y Y Y Y (fun w hh => zN RU8 0 h4 (isAgg5 w) Y (hh.seg 0 Y) Y (Nat.add_zero _).symm) (jp Y Y Y Y (fun w _ => jaU (runUnderlying5 w) (runUnderlying197 w) Y) (jp Y Y Y Y (fun _ _ => jaX Y Y) (jp Y Y Y Y (fun _ _ => jaz Y Y) (jp Y Y Y Y (fun _ _ => km Y) (jQ ?_))))))
    obtain rfl := sj hm
    exact jl () (trivial) (sE Y) (fun w hh => hh)
   replace hm := ifE h3 hm
   refine js ?_
   obtain rfl := sj hm
   exact jl () (trivial) (sE Y) (fun w hh => hh)
  intro l hj
  replace hm := h2
  refine ja (ji ?_)
  obtain ⟨o_1, h5, h6⟩ := bindO hm
  refine jU (ι := Unit) (fun l_1 => True) (fun l_1 => [(3, .int .u32 o)]) (fun l_1 => [kc pb #[.slice qa0 na0 ca0, .int .i64 o_1.h0_1, .int .u32 o_1.h0_2] 199]) (fun l_1 => []) ?_ ?_
  ·replace hm := h5
   refine jr (jh Y Y (jc Y Y Y (fun _ _ => jR Y) (yJ 1 runUnderlying199 Y sizeOf3 Y Y (yl 0 isAgg3 Y Y Y Y ?_))))
   obtain ⟨t38, h7, hm⟩ := bindO hm
   refine Ki h7 Y Y Y (jc Y Y Y (fun _ _ => jR Y) (yJ 1 runUnderlying199 Y sizeOf3 Y Y (q6 (cs' := #[_, _, _]) (S' := [_]) 0 (fun w => sizeOf3 w) Y Y Y Y Y Y Y (jq (ji ?_)))))
   refine kM none (.free 0 (.free 1 (.free 2 (.hoist 3 (.free 4 (.free 5 (.free 6 (.hoist 7 (.free 8 (.free 9 .done)))))))))) _ Y (by decide +kernel) (fun w k hh => hh.draw k) (fun w hh => hh) ?_
   refine za Y Y Y (jp Y Y Y Y (fun _ _ => jR Y) (KH 1 runUnderlying199 sizeOf3 Y Y Y Y (K2 0 isAgg3 Y Y Y Y Y (za Y Y Y (jp Y Y Y Y (fun _ _ => jR Y) (KH 0 runUnderlying199 sizeOf92 Y Y Y Y (K2 0 isAgg92 Y Y Y Y Y ?_)))))))
   refine jp Y Y Y Y (fun w _ => k6 hna0 (runUnderlying92 w) Y) (jp Y Y Y Y (fun _ _ => YA Y Y) (jQ (ja ?_)))
   refine jt Y (fun h8 => ?_) (fun h8 => ?_)
   ·replace hm := ifD h8 hm
    refine jg (jh Y Y (jh Y Y (jh Y Y (jc Y Y Y (fun _ _ => jR Y) (yJ 2 runUnderlying199 Y sizeOf197 Y Y (yl 0 isAgg197 Y Y Y Y (jc Y Y Y (fun _ _ => jaz Y Y) ?_)))))))
    refine jc Y Y Y (fun _ _ => jR Y) (yJ 1 runUnderlying199 Y sizeOf3 Y Y (q6 (cs' := #[_, _, _]) (S' := [_]) 0 (fun w => sizeOf3 w) Y Y Y Y Y Y Y (jc Y Y Y (fun _ _ => jR Y) (yJ 2 runUnderlying199 Y sizeOf197 Y Y (q6 (cs' := #[_, _, _]) (S' := [_]) 0 (fun w => sizeOf197 w) Y Y Y Y Y Y Y (jx ?_))))))
    obtain rfl := sj hm
    exact jl () (trivial) (sE Y) (fun w hh => hh)
   replace hm := ifE h8 hm
   refine js ?_
   obtain rfl := sj hm
   exact jl () (trivial) (sE Y) (fun w hh => hh)
  intro l_1 hj
  replace hm := h6
  refine ja (jr (jh Y Y (jh Y Y (jc Y Y Y (fun _ _ => jbr Y Y (by decide)) (jc Y Y Y (fun _ _ => jaB Y Y Y) (jc Y Y Y (fun _ _ => jaB Y Y Y) (jc Y Y Y (fun w _ => jaU (runUnderlying197 w) (runUnderlying3 w) Y) ?_)))))))
  refine jo Y Y (jq (ju ?_))
  obtain rfl := sj hm
  refine jj Y (fun w hh => (.tmp Y .nil)) (fun w hh => ⟨(), rfl, trivial, hh.se [0] [] 1 Y Y Y rfl⟩)
structure yT where
  r0 : Int
  h0_1 : Int
  h0_2 : Int
def jV (h00 : (List Int)) (h01 : Int) (h02 : Int) (n1 : Int) : Option yT :=
 (Je h00 h01 h02).bind fun t6 =>
 (addc n1 1).bind fun t8 =>
 (remc t6.r0 (max 1 t8)).bind fun t10 =>
 some (⟨t10, t6.h0_1, t6.h0_2⟩ : yT)
theorem kd (h00 : (List Int)) (h01 : Int) (h02 : Int) (n1 : Int) (pb : Nat) (qa0 : Option Addr) (na0 ca0 : Nat) (w : World) (hw : HV w (keys [kc pb #[.slice qa0 na0 ca0, .int .i64 h01, .int .u32 h02] 199] []) [kc pb #[.slice qa0 na0 ca0, .int .i64 h01, .int .u32 h02] 199] [] [(aB qa0, aO qa0, RU8.enc h00)] w) (hna0 : h00.length = na0) (hqa0 : AOK na0 qa0) (hla0 : na0 ≤ ca0) {res : yT} (hm : jV h00 h01 h02 n1 = some res) :
    Calls Tryz.prog 146 #[ptr pb 0, .int .i64 n1] w (fun en w' => ∃ l : Unit, en = .returned (.int .i64 res.r0) ∧ (True) ∧ HV w (keys [kc pb #[.slice qa0 na0 ca0, .int .i64 h01, .int .u32 h02] 199] []) [kc pb #[.slice qa0 na0 ca0, .int .i64 res.h0_1, .int .u32 res.h0_2] 199] [] [] w') := by
  unfold jV at hm
  refine q5 func146 Y ntmps146 Y (e := [(0, _), (1, _)]) Y hw (jr (jo Y Y (kY (jh Y Y ?_))))
  obtain ⟨t6, h1, hm⟩ := bindO hm
  refine jd [_] [] Y Y Y Y Y Y Y call180 (fun w hh => Zf h00 h01 h02 pb qa0 na0 ca0 w (HV.callee (S0 := [_]) (vs0 := []) hh (roR hh 0 Y roN)) hna0 hqa0 hla0 h1) (fun l h2 => ?_)
  refine ka (S' := [_]) (vs' := []) [0] [] 0 Y Y Y Y (jh Y Y ?_)
  obtain ⟨t8, h3, hm⟩ := bindO hm
  refine Ki h3 Y Y Y (jc Y Y Y (fun _ _ => ZN Y Y) ?_)
  obtain ⟨t10, h4, hm⟩ := bindO hm
  refine jc Y Y Y (fun _ _ => jbl h4 Y Y) (jo Y Y (jq (ju ?_)))
  obtain rfl := sj hm
  refine jj Y (fun w hh => (.tmp Y .nil)) (fun w hh => ⟨(), rfl, trivial, hh.se [0] [] 1 Y Y Y rfl⟩)
structure ym where
  r0 : Int
  h0_1 : Int
  h0_2 : Int
def yV (h00 : (List Int)) (h01 : Int) (h02 : Int) (lo1 : Int) (hi2 : Int) : Option ym :=
 (subc hi2 lo1).bind fun t11 =>
 (jV h00 h01 h02 t11).bind fun t12 =>
 (addc lo1 t12.r0).bind fun t13 =>
 some (⟨t13, t12.h0_1, t12.h0_2⟩ : ym)
theorem KP (h00 : (List Int)) (h01 : Int) (h02 : Int) (lo1 : Int) (hi2 : Int) (pb : Nat) (qa0 : Option Addr) (na0 ca0 : Nat) (w : World) (hw : HV w (keys [kc pb #[.slice qa0 na0 ca0, .int .i64 h01, .int .u32 h02] 199] []) [kc pb #[.slice qa0 na0 ca0, .int .i64 h01, .int .u32 h02] 199] [] [(aB qa0, aO qa0, RU8.enc h00)] w) (hna0 : h00.length = na0) (hqa0 : AOK na0 qa0) (hla0 : na0 ≤ ca0) {res : ym} (hm : yV h00 h01 h02 lo1 hi2 = some res) :
    Calls Tryz.prog 145 #[ptr pb 0, .int .i64 lo1, .int .i64 hi2] w (fun en w' => ∃ l : Unit, en = .returned (.int .i64 res.r0) ∧ (True) ∧ HV w (keys [kc pb #[.slice qa0 na0 ca0, .int .i64 h01, .int .u32 h02] 199] []) [kc pb #[.slice qa0 na0 ca0, .int .i64 res.h0_1, .int .u32 res.h0_2] 199] [] [] w') := by
  unfold yV at hm
  refine q5 func145 Y ntmps145 Y (e := [(0, _), (1, _), (2, _)]) Y hw (jr (jo Y Y (kY (jh Y Y (jh Y Y (jh Y Y (jh Y Y ?_)))))))
  obtain ⟨t11, h1, hm⟩ := bindO hm
  refine jc Y Y Y (fun _ _ => zH h1 Y Y) ?_
  obtain ⟨t12, h2, hm⟩ := bindO hm
  refine jd [_] [] Y Y Y Y Y Y Y call146 (fun w hh => kd h00 h01 h02 t11 pb qa0 na0 ca0 w (HV.callee (S0 := [_]) (vs0 := []) hh (roR hh 0 Y roN)) hna0 hqa0 hla0 h2) (fun l h3 => ?_)
  refine ka (S' := [_]) (vs' := []) [0] [] 0 Y Y Y Y ?_
  obtain ⟨t13, h4, hm⟩ := bindO hm
  refine Ki h4 Y Y Y (jo Y Y (jq (ju ?_)))
  obtain rfl := sj hm
  refine jj Y (fun w hh => (.tmp Y .nil)) (fun w hh => ⟨(), rfl, trivial, hh.se [0] [] 1 Y Y Y rfl⟩)
structure Kp where
  r0 : Bool
  h0_1 : Int
  h0_2 : Int
def zy (h00 : (List Int)) (h01 : Int) (h02 : Int) (n1 : Int) : Option Kp :=
 (subc n1 1).bind fun t7 =>
 (jV h00 h01 h02 t7).bind fun t8 =>
 some (⟨(decide (t8.r0 = 0)), t8.h0_1, t8.h0_2⟩ : Kp)
theorem Q7 (h00 : (List Int)) (h01 : Int) (h02 : Int) (n1 : Int) (pb : Nat) (qa0 : Option Addr) (na0 ca0 : Nat) (w : World) (hw : HV w (keys [kc pb #[.slice qa0 na0 ca0, .int .i64 h01, .int .u32 h02] 199] []) [kc pb #[.slice qa0 na0 ca0, .int .i64 h01, .int .u32 h02] 199] [] [(aB qa0, aO qa0, RU8.enc h00)] w) (hna0 : h00.length = na0) (hqa0 : AOK na0 qa0) (hla0 : na0 ≤ ca0) {res : Kp} (hm : zy h00 h01 h02 n1 = some res) :
    Calls Tryz.prog 68 #[ptr pb 0, .int .i64 n1] w (fun en w' => ∃ l : Unit, en = .returned (.bool res.r0) ∧ (True) ∧ HV w (keys [kc pb #[.slice qa0 na0 ca0, .int .i64 h01, .int .u32 h02] 199] []) [kc pb #[.slice qa0 na0 ca0, .int .i64 res.h0_1, .int .u32 res.h0_2] 199] [] [] w') := by
  unfold zy at hm
  refine q5 func68 Y ntmps68 Y (e := [(0, _), (1, _)]) Y hw (jr (jo Y Y (kY (jh Y Y (jh Y Y ?_)))))
  obtain ⟨t7, h1, hm⟩ := bindO hm
  refine jc Y Y Y (fun _ _ => zH h1 Y Y) ?_
  obtain ⟨t8, h2, hm⟩ := bindO hm
  refine jd [_] [] Y Y Y Y Y Y Y call146 (fun w hh => kd h00 h01 h02 t7 pb qa0 na0 ca0 w (HV.callee (S0 := [_]) (vs0 := []) hh (roR hh 0 Y roN)) hna0 hqa0 hla0 h2) (fun l h3 => ?_)
  refine ka (S' := [_]) (vs' := []) [0] [] 0 Y Y Y Y (jc Y Y Y (fun _ _ => zM Y Y) (jo Y Y (jq (ju ?_))))
  obtain rfl := sj hm
  refine jj Y (fun w hh => (.tmp Y .nil)) (fun w hh => ⟨(), rfl, trivial, hh.se [0] [] 1 Y Y Y rfl⟩)
structure zq where
  h0_1 : Int
  h0_2 : Int
  r0 : (List Int)
structure KN where
  h0_1 : Int
  h0_2 : Int
  out5 : (List Int)
structure zJ where
  t9 : Int
  h0_1 : Int
  h0_2 : Int
  out5 : (List Int)
def yX (n1 : Int) (h00 : (List Int)) (s : zJ) : Option (zJ ⊕ KN) :=
 if s.t9 < (max 0 n1) then
 ((jV h00 s.h0_1 s.h0_2 s.t9).bind fun t15 =>
 (Jg s.out5 t15.r0 [s.t9]).bind fun t18 =>
 (addc s.t9 1).bind fun t19 =>
 some (.inl (⟨t19, t15.h0_1, t15.h0_2, t18⟩ : zJ))) else
 (some (.inr (⟨s.h0_1, s.h0_2, s.out5⟩ : KN)))
def zT (h00 : (List Int)) (h01 : Int) (h02 : Int) (n1 : Int) : Option zq :=
 (iterM FU (yX n1 h00) (⟨0, h01, h02, []⟩ : zJ)).bind fun o =>
 some (⟨o.h0_1, o.h0_2, o.out5⟩ : zq)
theorem Y2 (h00 : (List Int)) (h01 : Int) (h02 : Int) (n1 : Int) (pb : Nat) (qa0 : Option Addr) (na0 ca0 : Nat) (w : World) (hw : HV w (keys [kc pb #[.slice qa0 na0 ca0, .int .i64 h01, .int .u32 h02] 199] []) [kc pb #[.slice qa0 na0 ca0, .int .i64 h01, .int .u32 h02] 199] [] [(aB qa0, aO qa0, RU8.enc h00)] w) (hna0 : h00.length = na0) (hqa0 : AOK na0 qa0) (hla0 : na0 ≤ ca0) {res : zq} (hm : zT h00 h01 h02 n1 = some res) :
    Calls Tryz.prog 69 #[ptr pb 0, .int .i64 n1] w (fun en w' => ∃ l : VL, en = .returned (sL l) ∧ (VOK 1 l.n l.cap (RI.enc res.r0) l.sp l.q) ∧ HV w (keys [kc pb #[.slice qa0 na0 ca0, .int .i64 h01, .int .u32 h02] 199] []) [kc pb #[.slice qa0 na0 ca0, .int .i64 res.h0_1, .int .u32 res.h0_2] 199] [vL 3 l (RI.enc res.r0)] [] w') := by
  unfold zT at hm
  refine q5 func69 Y ntmps69 Y (e := [(0, _), (1, _)]) Y hw (jr (jc Y Y Y (fun _ _ => ye Y) (kY (jc Y Y Y (fun _ _ => ye Y) (jq (ji (jr ?_)))))))
  refine jh Y Y (jc Y Y Y (fun _ _ => ZN Y Y) (jh Y Y (jq (zS 3 ?_))))
  obtain ⟨o, h2, h3⟩ := bindO hm
  refine jU (ι := VL) (fun l => VOK 1 l.n l.cap (RI.enc o.out5) l.sp l.q) (fun l => [(5, sL l)]) (fun l => [kc pb #[.slice qa0 na0 ca0, .int .i64 o.h0_1, .int .u32 o.h0_2] 199]) (fun l => [vL 3 l (RI.enc o.out5)]) ?_ ?_
  ·replace hm := h2
   refine jn ?_
   refine j5 (ι := VL) hm (fun s l_1 => VOK 1 l_1.n l_1.cap (RI.enc s.out5) l_1.sp l_1.q) (fun s l_1 => [(0, ptr pb 0), (5, sL l_1), (8, .int .i64 (max 0 n1)), (9, .int .i64 s.t9)]) (fun s l_1 => [kc pb #[.slice qa0 na0 ca0, .int .i64 s.h0_1, .int .u32 s.h0_2] 199]) (fun s l_1 => [vL 3 l_1 (RI.enc s.out5)]) ⟨none, 0, 0, []⟩ (VOK.nil) (sE Y) (fun w hh => hh) (fun s l_1 r hpl hm h6 => ?_)
   have h5 := hpl
   unfold yX at hm
   refine jr (Kk Y Y Y (jq (ji ?_)))
   refine jt Y (fun h7 => ?_) (fun h7 => ?_)
   ·replace hm := ifD h7 hm
    refine js (ja (ji (jn (jr (jh Y Y (jo Y Y (jq ?_)))))))
    refine jg (jh Y Y (jh Y Y (jh Y Y ?_)))
    obtain ⟨t15, h8, hm⟩ := bindO hm
    refine jd [_] [] Y Y Y Y Y Y Y call146 (fun w hh => kd h00 s.h0_1 s.h0_2 s.t9 pb qa0 na0 ca0 w (HV.callee (S0 := [_]) (vs0 := []) hh (roR hh 0 Y roN)) hna0 hqa0 hla0 h8) (fun l_2 h9 => ?_)
    refine ka (S' := [_]) (vs' := [_]) [0] [0] 0 Y Y Y Y (jh Y Y ?_)
    refine qw RI [s.t9] (ps := [(0, _)]) (cells := [_]) (fun w => runUnderlying22 w) (fun w => sizeOf3 w) (fun w => zeroValue3 w) Y Y Y Y Y Y Y Y (fun L h10 => ?_)
    obtain ⟨t18, h11, hm⟩ := bindO hm
    refine ka (S' := [_]) (vs' := [_, _]) [0] [1, 0] 0 Y Y Y Y ?_
    refine jd [] [_, _] Y Y Y Y Y Y Y call149 (fun w hh => Y7 s.out5 t15.r0 [s.t9] ⟨l_1.q, l_1.n, l_1.cap, l_1.sp⟩ ⟨L.q, L.n, L.cap, L.sp⟩ w (HV.callee (S0 := []) (vs0 := [_, _]) hh roN) h5 h10 h11) (fun l_3 h12 => ?_)
    have h13 := h12
    refine ka (S' := [_]) (vs' := [_, _]) [0] [0, 1] 0 Y Y Y Y (jo Y Y (jx (jw (ja (jg ?_)))))
    obtain ⟨t19, h14, hm⟩ := bindO hm
    refine Ki h14 Y Y Y (jh Y Y (jx ?_))
    obtain rfl := sj hm
    refine ja ?_
    exact jL _ l_3 Y (h13) (sE Y) (hsE [0] [0] 0 Y Y Y Y)
   replace hm := ifE h7 hm
   refine ks (jk (jk (jM ?_)))
   obtain rfl := sj hm
   have hbo := h6 _ Y
   subst hbo
   exact jl l_1 (h5) (sE Y) (fun w hh => hh)
  intro l hj
  have h4 := hj
  replace hm := h3
  refine ja (jr (jh Y Y (jo Y Y (jq (ju ?_)))))
  obtain rfl := sj hm
  refine jj Y (fun w hh => (.tmp Y .nil)) (fun w hh => ⟨l, rfl, h4, hh.se [0] [0] 1 Y Y Y rfl⟩)
structure yi where
  r5 : Int
  t11 : Int
def yc (c0 : Channel) (cell1 : Int) (s : yi) : Option (yi ⊕ Int) :=
 if s.t11 < (c0.sands.length : Int) then
 (((ix c0.sands s.t11).bind fun t13 =>
 (if t13.span.lo ≤ cell1 then
 (some (decide (cell1 ≤ t13.span.hi))) else
 (some false)).bind fun o_2 =>
 if o_2 = true then
 (some (max s.r5 t13.reach)) else
 (some s.r5)).bind fun o_1 =>
 (addc s.t11 1).bind fun t31 =>
 some (.inl (⟨o_1, t31⟩ : yi))) else
 (some (.inr s.r5))
def yo (c0 : Channel) (cell1 : Int) : Option Int :=
 (iterM FU (yc c0 cell1) (⟨0, 0⟩ : yi)).bind fun o =>
 some o
theorem KQ (c0 : Channel) (cell1 : Int) (qa0 : Option Addr) (na0 ca0 : Nat) (qa1 : Option Addr) (na1 ca1 : Nat) (qa2 : Option Addr) (na2 ca2 : Nat) (w : World) (hw : HV w (keys [] []) [] [] [(aB qa0, aO qa0, RI.enc c0.fords), (aB qa1, aO qa1, RSa.enc c0.sands), (aB qa2, aO qa2, RSi.enc c0.sights)] w) (hna0 : c0.fords.length = na0) (hqa0 : AOK na0 qa0) (hla0 : na0 ≤ ca0) (hna1 : c0.sands.length = na1) (hqa1 : AOK na1 qa1) (hla1 : na1 ≤ ca1) (hna2 : c0.sights.length = na2) (hqa2 : AOK na2 qa2) (hla2 : na2 ≤ ca2) {res : Int} (hm : yo c0 cell1 = some res) :
    Calls Tryz.prog 63 #[.agg #[.int .i64 c0.cells, .int .i64 c0.tides, .slice qa0 na0 ca0, .slice qa1 na1 ca1, .slice qa2 na2 ca2], .int .i64 cell1] w (fun en w' => ∃ l : Unit, en = .returned (.int .i64 res) ∧ (True) ∧ HV w (keys [] []) [] [] [] w') := by
  unfold yo at hm
  refine q5 func63 Y ntmps63 Y (e := [(0, _), (1, _)]) Y hw (jr ?_)
  refine jK Y Y (fun b h1 => ?_)
  refine jo Y Y (kY (jo Y Y (jq (ji (jr (yJ 3 runUnderlying26 Y sizeOf23 Y Y (yl 0 isAgg23 Y Y Y Y ?_)))))))
  refine jc Y Y Y (fun w _ => k6 hna1 (runUnderlying23 w) Y) (jh Y Y (jq ?_))
  obtain ⟨o, h2, h3⟩ := bindO hm
  refine jU (ι := Unit) (fun l => True) (fun l => [(5, .int .i64 o)]) (fun l => [kc b #[.int .i64 c0.cells, .int .i64 c0.tides, .slice qa0 na0 ca0, .slice qa1 na1 ca1, .slice qa2 na2 ca2] 26]) (fun l => []) ?_ ?_
  ·replace hm := h2
   refine jn ?_
   refine j5 (ι := Unit) hm (fun s l_1 => True) (fun s l_1 => [(1, .int .i64 cell1), (5, .int .i64 s.r5), (9, .slice qa1 na1 ca1), (10, .int .i64 (c0.sands.length : Int)), (11, .int .i64 s.t11)]) (fun s l_1 => [kc b #[.int .i64 c0.cells, .int .i64 c0.tides, .slice qa0 na0 ca0, .slice qa1 na1 ca1, .slice qa2 na2 ca2] 26]) (fun s l_1 => []) () (trivial) (sE Y) (fun w hh => hh) (fun s l_1 r hpl hm h4 => ?_)
   unfold yc at hm
   refine jr (Kk Y Y Y (jq (ji ?_)))
   refine jt Y (fun h5 => ?_) (fun h5 => ?_)
   ·replace hm := ifD h5 hm
    refine js (ja (ji ?_))
    obtain ⟨o_1, h6, h7⟩ := bindO hm
    refine jU (ι := Unit) (fun l_2 => True) (fun l_2 => [(1, .int .i64 cell1), (5, .int .i64 o_1), (9, .slice qa1 na1 ca1), (10, .int .i64 (c0.sands.length : Int)), (11, .int .i64 s.t11)]) (fun l_2 => [kc b #[.int .i64 c0.cells, .int .i64 c0.tides, .slice qa0 na0 ca0, .slice qa1 na1 ca1, .slice qa2 na2 ca2] 26]) (fun l_2 => []) ?_ ?_
    ·replace hm := h6
     refine jn (jr ?_)
     obtain ⟨t13, h8, hm⟩ := bindO hm
     refine jc Y Y Y (fun w _ => Jf h8 (runUnderlying23 w) (sizeOf98 w) Y Y hna1 hqa1) ?_
     refine jc Y Y Y (fun w hh => Kj RSa 0 [.int .i64 t13.span.lo, .int .i64 t13.span.hi, .int .i64 t13.reach] h8 (isAgg98 w) (sizeOf98 w) Y (hh.seg 1 Y) Y (Nat.add_zero _).symm) ?_
     refine jv (fun w => zeroValue98 w) Y (fun b_1 h9 => ?_)
     refine kQ (us := #[_, _, _]) (cs' := [_, _, _]) (S' := [_, _]) 0 (fun w => sizeOf98 w) Y Y Y Y Y Y Y (jq (ji ?_))
     obtain ⟨o_2, h10, h11⟩ := bindO hm
     refine jU (ι := Unit) (fun l_3 => True) (fun l_3 => [(1, .int .i64 cell1), (5, .int .i64 s.r5), (7, ptr b_1 0), (9, .slice qa1 na1 ca1), (10, .int .i64 (c0.sands.length : Int)), (11, .int .i64 s.t11), (26, .bool o_2)]) (fun l_3 => [kc b_1 #[.int .i64 t13.span.lo, .int .i64 t13.span.hi, .int .i64 t13.reach] 98, kc b #[.int .i64 c0.cells, .int .i64 c0.tides, .slice qa0 na0 ca0, .slice qa1 na1 ca1, .slice qa2 na2 ca2] 26]) (fun l_3 => []) ?_ ?_
     ·replace hm := h10
      refine jg (yJ 0 runUnderlying98 Y sizeOf50 Y Y (yJ 0 runUnderlying50 Y sizeOf3 Y Y (yl 0 isAgg3 Y Y Y Y (jh Y Y (jc Y Y Y (fun _ _ => jaa Y Y) (jh Y Y ?_))))))
      refine kf 20 Y (fun h12 => ?_) (fun h12 => ?_)
      ·replace hm := ifD h12 hm
       refine jb Y Y (jh Y Y (jb Y Y (yJ 0 runUnderlying98 Y sizeOf50 Y Y (jb Y Y (yJ 1 runUnderlying50 Y sizeOf3 Y Y (jb Y Y (yl 0 isAgg3 Y Y Y Y ?_)))))))
       refine jb Y Y (jc Y Y Y (fun _ _ => jaa Y Y) (zu Y Y Y (jx ?_)))
       obtain rfl := sj hm
       exact jl () (trivial) (sE Y) (fun w hh => hh)
      replace hm := ifE h12 hm
      refine g_k Y Y Y Y (g_k Y Y Y Y (g_k Y Y Y Y (g_k Y Y Y Y (g_k Y Y Y Y (zx Y Y Y (jx ?_))))))
      obtain rfl := sj hm
      exact jl () (trivial) (sE Y) (fun w hh => hh)
     intro l_3 hj
     replace hm := h11
     refine ja ?_
     refine jt Y (fun h13 => ?_) (fun h13 => ?_)
     ·replace hm := ifT (h13) hm
      refine jg (jh Y Y (yJ 2 runUnderlying98 Y sizeOf3 Y Y (yl 0 isAgg3 Y Y Y Y (jc Y Y Y (fun _ _ => ZN Y Y) (jo Y Y (jx (jw ?_)))))))
      obtain rfl := sj hm
      exact jl () (trivial) (sE Y) (hsE [1] [] 0 Y Y Y Y)
     replace hm := ifN h13 hm
     refine js (jw ?_)
     obtain rfl := sj hm
     exact jl () (trivial) (sE Y) (hsE [1] [] 0 Y Y Y Y)
    intro l_2 hj
    replace hm := h7
    refine ja (jg ?_)
    obtain ⟨t31, h14, hm⟩ := bindO hm
    refine Ki h14 Y Y Y (jh Y Y (jx ?_))
    obtain rfl := sj hm
    refine ja ?_
    exact jL _ () Y (trivial) (sE Y) (fun w hh => hh)
   replace hm := ifE h5 hm
   refine ks (jk (jk (jM ?_)))
   obtain rfl := sj hm
   have hbo := h4 _ Y
   subst hbo
   exact jl () (trivial) (sE Y) (fun w hh => hh)
  intro l hj
  replace hm := h3
  refine ja (jr (jh Y Y (jo Y Y (jq (ju ?_)))))
  obtain rfl := sj hm
  refine jj Y (fun w hh => (.tmp Y .nil)) (fun w hh => ⟨(), rfl, trivial, hh.se [] [] 3 Y Y Y rfl⟩)
structure zz where
  b0_1 : Int
  b0_2 : Int
  r0 : (List (List Int))
structure JA where
  b0_1 : Int
  b0_2 : Int
  out5 : (List (List Int))
structure yq where
  t17 : Int
  b0_1 : Int
  b0_2 : Int
  out5 : (List (List Int))
structure JB where
  b0_1 : Int
  b0_2 : Int
  r0 : (List Int)
structure yv where
  t33 : Int
  b0_1 : Int
  b0_2 : Int
  r0 : (List Int)
structure Jz where
  b0_1 : Int
  b0_2 : Int
  r0 : (List Int)
def qz (t31 : zq) (t27 : (List Int)) (c1 : Channel) (b00 : (List Int)) (s_1 : yv) : Option (yv ⊕ JB) :=
 if s_1.t33 < (t31.r0.length : Int) then
 (((ix t31.r0 s_1.t33).bind fun t35 =>
 (ix t27 t35).bind fun t39 =>
 (ix t27 t35).bind fun t45 =>
 (ix t27 t35).bind fun t52 =>
 (yo c1 t45).bind fun t47 =>
 (negc t47).bind fun t48 =>
 (yo c1 t52).bind fun t54 =>
 (yV b00 s_1.b0_1 s_1.b0_2 t48 t54).bind fun t55 =>
 (addc t39 t55.r0).bind fun t56 =>
 (if 0 ≤ t56 then
 (if t56 < c1.cells then
 (if t35 = 0 then
 ((subc (s_1.r0.length : Int) 1).bind fun t82 =>
 if t35 = t82 then
 (some true) else
 ((addc t35 1).bind fun t88 =>
 (ix s_1.r0 t88).bind fun t89 =>
 some (decide (t56 < t89)))) else
 ((subc t35 1).bind fun t72 =>
 (ix s_1.r0 t72).bind fun t73 =>
 if t73 < t56 then
 ((subc (s_1.r0.length : Int) 1).bind fun t82_1 =>
 if t35 = t82_1 then
 (some true) else
 ((addc t35 1).bind fun t88_1 =>
 (ix s_1.r0 t88_1).bind fun t89_1 =>
 some (decide (t56 < t89_1)))) else
 (some false))) else
 (some false)) else
 (some false)).bind fun o_3 =>
 if o_3 = true then
 ((ix s_1.r0 t35).bind fun t97 =>
 (some (s_1.r0.set (Int.toNat t35) t56)).bind fun r0 =>
 some (⟨t55.h0_1, t55.h0_2, r0⟩ : Jz)) else
 (some (⟨t55.h0_1, t55.h0_2, s_1.r0⟩ : Jz))).bind fun o_2 =>
 (addc s_1.t33 1).bind fun t98 =>
 some (.inl (⟨t98, o_2.b0_1, o_2.b0_2, o_2.r0⟩ : yv))) else
 (some (.inr (⟨s_1.b0_1, s_1.b0_2, s_1.r0⟩ : JB)))
def qu (c1 : Channel) (b00 : (List Int)) (s : yq) : Option (yq ⊕ JA) :=
 if s.t17 < c1.tides then
 ((subc (s.out5.length : Int) 1).bind fun t22 =>
 (ix s.out5 t22).bind fun t23 =>
 (JO t23).bind fun t25 =>
 (JO t25).bind fun t27 =>
 (zT b00 s.b0_1 s.b0_2 (t25.length : Int)).bind fun t31 =>
 (iterM FU (qz t31 t27 c1 b00) (⟨0, t31.h0_1, t31.h0_2, t25⟩ : yv)).bind fun o_1 =>
 (appc 24 s.out5 [o_1.r0]).bind fun t102 =>
 (addc s.t17 1).bind fun t103 =>
 some (.inl (⟨t103, o_1.b0_1, o_1.b0_2, t102⟩ : yq))) else
 (some (.inr (⟨s.b0_1, s.b0_2, s.out5⟩ : JA)))
def yf (b00 : (List Int)) (b01 : Int) (b02 : Int) (c1 : Channel) : Option zz :=
 (JO c1.fords).bind fun t13 =>
 (iterM FU (qu c1 b00) (⟨0, b01, b02, [t13]⟩ : yq)).bind fun o =>
 some (⟨o.b0_1, o.b0_2, o.out5⟩ : zz)
theorem Q1 (b00 : (List Int)) (b01 : Int) (b02 : Int) (c1 : Channel) (pb : Nat) (qa0 : Option Addr) (na0 ca0 : Nat) (qa1 : Option Addr) (na1 ca1 : Nat) (qa2 : Option Addr) (na2 ca2 : Nat) (qa3 : Option Addr) (na3 ca3 : Nat) (w : World) (hw : HV w (keys [kc pb #[.slice qa0 na0 ca0, .int .i64 b01, .int .u32 b02] 199] []) [kc pb #[.slice qa0 na0 ca0, .int .i64 b01, .int .u32 b02] 199] [] [(aB qa0, aO qa0, RU8.enc b00), (aB qa1, aO qa1, RI.enc c1.fords), (aB qa2, aO qa2, RSa.enc c1.sands), (aB qa3, aO qa3, RSi.enc c1.sights)] w) (hna0 : b00.length = na0) (hqa0 : AOK na0 qa0) (hla0 : na0 ≤ ca0) (hna1 : c1.fords.length = na1) (hqa1 : AOK na1 qa1) (hla1 : na1 ≤ ca1) (hna2 : c1.sands.length = na2) (hqa2 : AOK na2 qa2) (hla2 : na2 ≤ ca2) (hna3 : c1.sights.length = na3) (hqa3 : AOK na3 qa3) (hla3 : na3 ≤ ca3) {res : zz} (hm : yf b00 b01 b02 c1 = some res) :
    Calls Tryz.prog 78 #[ptr pb 0, .agg #[.int .i64 c1.cells, .int .i64 c1.tides, .slice qa1 na1 ca1, .slice qa2 na2 ca2, .slice qa3 na3 ca3]] w (fun en w' => ∃ l : DL, en = .returned (sL l.v) ∧ (VOK 1 l.v.n l.v.cap (RwH.enc l.rs) l.v.sp l.v.q ∧ DOK RI res.r0 l.rs) ∧ HV w (keys [kc pb #[.slice qa0 na0 ca0, .int .i64 b01, .int .u32 b02] 199] []) [kc pb #[.slice qa0 na0 ca0, .int .i64 res.b0_1, .int .u32 res.b0_2] 199] [⟨22, RwH.enc l.rs, l.v.sp, l.v.q, dbl 3 RI res.r0 l.rs⟩] [] w') := by
  unfold yf at hm
  refine q5 func78 Y ntmps78 Y (e := [(0, _), (1, _)]) Y hw (jr ?_)
  refine jK Y Y (fun b h3 => ?_)
  refine jc Y Y Y (fun _ _ => ye Y) (kY (yJ 2 runUnderlying26 Y sizeOf22 Y Y (yl 0 isAgg22 Y Y Y Y ?_)))
  obtain ⟨t13, h4, hm⟩ := bindO hm
  refine jd [] [] Y Y Y Y Y Y Y call46 (fun w hh => YD c1.fords qa1 na1 ca1 w (HV.callee (S0 := []) (vs0 := []) hh (roR hh 1 Y roN)) hna1 hqa1 hla1 h4) (fun l h5 => ?_)
  have h6 := h5
  refine ka (S' := [_, _]) (vs' := [_]) [0, 1] [0] 0 Y Y Y Y ?_
  refine qw RwH [(⟨l.q, l.n, l.cap, l.sp⟩ : VL)] (ps := [(0, _)]) (cells := [_]) (fun w => runUnderlying41 w) (fun w => sizeOf22 w) (fun w => zeroValue22 w) Y Y Y Y Y Y Y Y (fun L h7 => ?_)
  refine Zw (E2 := 3) RI 1 (Y : _ = ([[]] : List (List Int))) (fun h8 => ?_)
  refine ka (S' := [_, _]) (vs' := [_, _]) [0, 1] [0, 1] 0 Y Y Y Y ?_
  refine Zy RI (l' := [t13]) 0 l.n l.cap h8 h6 Y Y (fun h9 => ?_)
  have h10 : DOK RI [t13] [(⟨l.q, l.n, l.cap, l.sp⟩ : VL)] := h9
  refine jai (S' := [_, _]) (vs' := [⟨22, RwH.enc [(⟨l.q, l.n, l.cap, l.sp⟩ : VL)], L.sp, L.q, dbl 3 RI [t13] [(⟨l.q, l.n, l.cap, l.sp⟩ : VL)]⟩]) [0, 1] [0] 0 (by decide) (by decide) Y Y Y ?_
  refine jo Y Y (jq (ji (jr (yJ 1 runUnderlying26 Y sizeOf3 Y Y (yl 0 isAgg3 Y Y Y Y (jh Y Y (jq ?_)))))))
  obtain ⟨o, h11, h12⟩ := bindO hm
  refine jU (ι := DL) (fun l_1 => VOK 1 l_1.v.n l_1.v.cap (RwH.enc l_1.rs) l_1.v.sp l_1.v.q ∧ DOK RI o.out5 l_1.rs) (fun l_1 => [(5, sL l_1.v)]) (fun l_1 => [kc b #[.int .i64 c1.cells, .int .i64 c1.tides, .slice qa1 na1 ca1, .slice qa2 na2 ca2, .slice qa3 na3 ca3] 26, kc pb #[.slice qa0 na0 ca0, .int .i64 o.b0_1, .int .u32 o.b0_2] 199]) (fun l_1 => [⟨22, RwH.enc l_1.rs, l_1.v.sp, l_1.v.q, dbl 3 RI o.out5 l_1.rs⟩]) ?_ ?_
  ·replace hm := h11
   refine jn ?_
   refine j5 (ι := DL) hm (fun s l_2 => VOK 1 l_2.v.n l_2.v.cap (RwH.enc l_2.rs) l_2.v.sp l_2.v.q ∧ DOK RI s.out5 l_2.rs) (fun s l_2 => [(0, ptr pb 0), (3, ptr b 0), (5, sL l_2.v), (16, .int .i64 c1.tides), (17, .int .i64 s.t17)]) (fun s l_2 => [kc b #[.int .i64 c1.cells, .int .i64 c1.tides, .slice qa1 na1 ca1, .slice qa2 na2 ca2, .slice qa3 na3 ca3] 26, kc pb #[.slice qa0 na0 ca0, .int .i64 s.b0_1, .int .u32 s.b0_2] 199]) (fun s l_2 => [⟨22, RwH.enc l_2.rs, l_2.v.sp, l_2.v.q, dbl 3 RI s.out5 l_2.rs⟩]) (⟨⟨L.q, L.n, L.cap, L.sp⟩, [(⟨l.q, l.n, l.cap, l.sp⟩ : VL)]⟩) (⟨h7, h10⟩) (sE Y) (fun w hh => hh) (fun s l_2 r hpl hm h17 => ?_)
   obtain ⟨h15, h16⟩ := hpl
   unfold qu at hm
   refine jr (Kk Y Y Y (jq (ji ?_)))
   refine jt Y (fun h18 => ?_) (fun h18 => ?_)
   ·replace hm := ifD h18 hm
    refine js (ja (ji (jn (jr (jh Y Y (jh Y Y (jc Y Y Y (fun w _ => zW (Eq.trans (h16).len (vlen RwH h15 Y)) (runUnderlying41 w) Y) ?_)))))))
    obtain ⟨t22, h19, hm⟩ := bindO hm
    refine jc Y Y Y (fun _ _ => zH h19 Y Y) ?_
    obtain ⟨t23, h20, hm⟩ := bindO hm
    obtain ⟨L_1, h21, h22⟩ := (h16).row h20
    refine jc Y Y Y (fun w _ => KC h21 (runUnderlying41 w) (sizeOf22 w) Y Y (vlen RwH h15 Y) (vne h15)) (jc Y Y Y (fun w hh => zN RwH 0 h21 (isAgg22 w) Y (hh.vseg 0 Y h15) Y (Nat.add_zero _).symm) ?_)
    obtain ⟨t25, h23, hm⟩ := bindO hm
    refine jd [] [] Y Y Y Y Y Y Y call46 (fun w hh => YD t23 (qA L_1.q) L_1.n L_1.cap w (HV.callee (S0 := []) (vs0 := []) hh (roC (hh.dsepA (S0 := []) (vs0 := []) 0 Y h20 h21 h22) roN)) (vlen RI h22 Y) (AOK.q (vne h22)) (h22).hle h23) (fun l_3 h24 => ?_)
    have h25 := h24
    refine ka (S' := [_, _]) (vs' := [_, _]) [0, 1] [0, 1] 0 Y Y Y Y (jo Y Y (kY (jh Y Y ?_)))
    obtain ⟨t27, h26, hm⟩ := bindO hm
    refine jd [] [] Y Y Y Y Y Y Y call46 (fun w hh => YD t25 (qA l_3.q) l_3.n l_3.cap w (HV.callee (S0 := []) (vs0 := []) hh (roC (hh.vsepA 0 Y h25) roN)) (vlen RI h25 Y) (AOK.q (vne h25)) (h25).hle h26) (fun l_4 h27 => ?_)
    have h28 := h27
    refine ka (S' := [_, _]) (vs' := [_, _, _]) [0, 1] [0, 1, 2] 0 Y Y Y Y (jo Y Y (jq (ji (jr (jh Y Y (jh Y Y (jc Y Y Y (fun w _ => zW (vlen RI h25 Y) (runUnderlying22 w) Y) ?_)))))))
    obtain ⟨t31, h29, hm⟩ := bindO hm
    refine ka (S' := [_, _]) (vs' := [_, _, _]) [1, 0] [0, 1, 2] 0 Y Y Y Y ?_
    refine jd [_] [] Y Y Y Y Y Y Y call69 (fun w hh => Y2 b00 s.b0_1 s.b0_2 (t25.length : Int) pb qa0 na0 ca0 w (HV.callee (S0 := [_]) (vs0 := []) hh (roR hh 0 Y roN)) hna0 hqa0 hla0 h29) (fun l_5 h30 => ?_)
    have h31 := h30
    refine ka (S' := [_, _]) (vs' := [_, _, _, _]) [0, 1] [0, 1, 2, 3] 0 Y Y Y Y (jc Y Y Y (fun w _ => zW (vlen RI h31 Y) (runUnderlying22 w) Y) (jh Y Y (jq ?_)))
    obtain ⟨o_1, h32, h33⟩ := bindO hm
    refine jU (ι := Unit) (fun l_6 => VOK 1 l_3.n l_3.cap (RI.enc o_1.r0) l_3.sp l_3.q) (fun l_6 => [(0, ptr pb 0), (3, ptr b 0), (5, sL l_2.v), (6, sL l_3), (16, .int .i64 c1.tides), (17, .int .i64 s.t17)]) (fun l_6 => [kc pb #[.slice qa0 na0 ca0, .int .i64 o_1.b0_1, .int .u32 o_1.b0_2] 199, kc b #[.int .i64 c1.cells, .int .i64 c1.tides, .slice qa1 na1 ca1, .slice qa2 na2 ca2, .slice qa3 na3 ca3] 26]) (fun l_6 => [⟨22, RwH.enc l_2.rs, l_2.v.sp, l_2.v.q, dbl 3 RI s.out5 l_2.rs⟩, vL 3 l_3 (RI.enc o_1.r0)]) ?_ ?_
    ·replace hm := h32
     refine jn ?_
     refine j5 (ι := Unit) hm (fun s_1 l_7 => VOK 1 l_3.n l_3.cap (RI.enc s_1.r0) l_3.sp l_3.q) (fun s_1 l_7 => [(0, ptr pb 0), (3, ptr b 0), (5, sL l_2.v), (6, sL l_3), (7, sL l_4), (16, .int .i64 c1.tides), (17, .int .i64 s.t17), (31, sL l_5), (32, .int .i64 (t31.r0.length : Int)), (33, .int .i64 s_1.t33)]) (fun s_1 l_7 => [kc pb #[.slice qa0 na0 ca0, .int .i64 s_1.b0_1, .int .u32 s_1.b0_2] 199, kc b #[.int .i64 c1.cells, .int .i64 c1.tides, .slice qa1 na1 ca1, .slice qa2 na2 ca2, .slice qa3 na3 ca3] 26]) (fun s_1 l_7 => [⟨22, RwH.enc l_2.rs, l_2.v.sp, l_2.v.q, dbl 3 RI s.out5 l_2.rs⟩, vL 3 l_3 (RI.enc s_1.r0), vL 3 l_4 (RI.enc t27), vL 3 l_5 (RI.enc t31.r0)]) () (h25) (sE Y) (hsE [0, 1] [3, 2, 1, 0] 0 Y Y Y Y) (fun s_1 l_7 r_1 hpl hm h36 => ?_)
     have h35 := hpl
     unfold qz at hm
     refine jr (Kk Y Y Y (jq (ji ?_)))
     refine jt Y (fun h37 => ?_) (fun h37 => ?_)
     ·replace hm := ifD h37 hm
      refine js (ja (ji ?_))
      obtain ⟨o_2, h38, h39⟩ := bindO hm
      refine jU (ι := Unit) (fun l_8 => VOK 1 l_3.n l_3.cap (RI.enc o_2.r0) l_3.sp l_3.q) (fun l_8 => [(0, ptr pb 0), (3, ptr b 0), (5, sL l_2.v), (6, sL l_3), (7, sL l_4), (16, .int .i64 c1.tides), (17, .int .i64 s.t17), (31, sL l_5), (32, .int .i64 (t31.r0.length : Int)), (33, .int .i64 s_1.t33)]) (fun l_8 => [kc pb #[.slice qa0 na0 ca0, .int .i64 o_2.b0_1, .int .u32 o_2.b0_2] 199, kc b #[.int .i64 c1.cells, .int .i64 c1.tides, .slice qa1 na1 ca1, .slice qa2 na2 ca2, .slice qa3 na3 ca3] 26]) (fun l_8 => [⟨22, RwH.enc l_2.rs, l_2.v.sp, l_2.v.q, dbl 3 RI s.out5 l_2.rs⟩, vL 3 l_3 (RI.enc o_2.r0), vL 3 l_4 (RI.enc t27), vL 3 l_5 (RI.enc t31.r0)]) ?_ ?_
      ·replace hm := h38
       refine jn (jr ?_)
       obtain ⟨t35, h41, hm⟩ := bindO hm
       refine jc Y Y Y (fun w _ => KC h41 (runUnderlying22 w) (sizeOf3 w) Y Y (vlen RI h31 Y) (vne h31)) (jc Y Y Y (fun w hh => zN RI 0 h41 (isAgg3 w) Y (hh.vseg 3 Y h31) Y (Nat.add_zero _).symm) (jo Y Y (jq (ji ?_))))
       refine kM none (.free 0 (.free 1 (.free 2 (.hoist 3 (.free 4 (.hoist 5 (.free 6 (.free 7 (.free 8 (.hoist 9 (.hoist 12 (.free 13 (.free 14 (.free 15 (.hoist 16 (.one 10 (.free 11 (.one 17 (.one 18 (.free 19 (.free 20 .done))))))))))))))))))))) (HV _ _ [kc b #[.int .i64 c1.cells, .int .i64 c1.tides, .slice qa1 na1 ca1, .slice qa2 na2 ca2, .slice qa3 na3 ca3] 26] [⟨22, RwH.enc l_2.rs, l_2.v.sp, l_2.v.q, dbl 3 RI s.out5 l_2.rs⟩, vL 3 l_3 (RI.enc s_1.r0), vL 3 l_4 (RI.enc t27), vL 3 l_5 (RI.enc t31.r0)] _) Y (by decide +kernel) (fun w k hh => hh.draw k) (hsE [1] [0, 1, 2, 3] 0 Y Y Y Y) ?_
       refine za Y Y Y (za Y Y Y ?_)
       obtain ⟨t39, h42, hm⟩ := bindO hm
       refine jp Y Y Y Y (fun w _ => KC h42 (runUnderlying22 w) (sizeOf3 w) Y Y (vlen RI h28 Y) (vne h28)) (jz Y Y Y Y (fun w hh => zN RI 0 h42 (isAgg3 w) Y (hh.vseg 2 Y h28) Y (Nat.add_zero _).symm) (za Y Y Y (jz Y Y Y Y (fun w hh => jP (vs := [_, _, _, _, _]) (isAgg26 w) (sizeOf26 w) Y (hh.cells 0 Y Y)) (za Y Y Y (za Y Y Y ?_)))))
       obtain ⟨t45, h43, hm⟩ := bindO hm
       refine jp Y Y Y Y (fun w _ => KC h43 (runUnderlying22 w) (sizeOf3 w) Y Y (vlen RI h28 Y) (vne h28)) (jz Y Y Y Y (fun w hh => zN RI 0 h43 (isAgg3 w) Y (hh.vseg 2 Y h28) Y (Nat.add_zero _).symm) (jz Y Y Y Y (fun w hh => jP (vs := [_, _, _, _, _]) (isAgg26 w) (sizeOf26 w) Y (hh.cells 0 Y Y)) (za Y Y Y (za Y Y Y ?_))))
       obtain ⟨t52, h44, hm⟩ := bindO hm
       refine jp Y Y Y Y (fun w _ => KC h44 (runUnderlying22 w) (sizeOf3 w) Y Y (vlen RI h28 Y) (vne h28)) (jz Y Y Y Y (fun w hh => zN RI 0 h44 (isAgg3 w) Y (hh.vseg 2 Y h28) Y (Nat.add_zero _).symm) (jC Y ?_))
       obtain ⟨t47, h45, hm⟩ := bindO hm
       refine jd [] [] Y Y Y Y Y Y Y call63 (fun w hh => KQ c1 t45 qa1 na1 ca1 qa2 na2 ca2 qa3 na3 ca3 w (HV.callee (S0 := []) (vs0 := []) hh (roR hh 1 Y (roR hh 2 Y (roR hh 3 Y roN)))) hna1 hqa1 hla1 hna2 hqa2 hla2 hna3 hqa3 hla3 h45) (fun l_9 h46 => ?_)
       refine jm (hsE [1] [0, 1, 2, 3] 0 Y Y Y Y) ?_
       obtain ⟨t48, h47, hm⟩ := bindO hm
       refine jp Y Y Y Y (fun _ _ => jbs h47 Y) (jC Y ?_)
       obtain ⟨t54, h48, hm⟩ := bindO hm
       refine jd [] [] Y Y Y Y Y Y Y call63 (fun w hh => KQ c1 t52 qa1 na1 ca1 qa2 na2 ca2 qa3 na3 ca3 w (HV.callee (S0 := []) (vs0 := []) hh (roR hh 1 Y (roR hh 2 Y (roR hh 3 Y roN)))) hna1 hqa1 hla1 hna2 hqa2 hla2 hna3 hqa3 hla3 h48) (fun l_10 h49 => ?_)
       refine jm (hsE [1] [0, 1, 2, 3] 0 Y Y Y Y) (jC Y ?_)
       obtain ⟨t55, h50, hm⟩ := bindO hm
       refine jd [_] [] Y Y Y Y Y Y Y call145 (fun w hh => KP b00 s_1.b0_1 s_1.b0_2 t48 t54 pb qa0 na0 ca0 w (HV.callee (S0 := [_]) (vs0 := []) hh (roR hh 0 Y roN)) hna0 hqa0 hla0 h50) (fun l_11 h51 => ?_)
       refine ka (S' := [_, _]) (vs' := [_, _, _, _]) [0, 1] [0, 1, 2, 3] 0 Y Y Y Y (jm (hsE [1] [0, 1, 2, 3] 0 Y Y Y Y) ?_)
       obtain ⟨t56, h52, hm⟩ := bindO hm
       refine jp Y Y Y Y (fun _ _ => Kf h52 Y Y) (jp Y Y Y Y (fun _ _ => km Y) (jQ (ja (ji ?_))))
       obtain ⟨o_3, h53, h54⟩ := bindO hm
       refine jU (ι := Unit) (fun l_12 => True) (fun l_12 => [(0, ptr pb 0), (3, ptr b 0), (5, sL l_2.v), (6, sL l_3), (7, sL l_4), (9, .int .i64 t35), (10, .int .i64 t56), (16, .int .i64 c1.tides), (17, .int .i64 s.t17), (31, sL l_5), (32, .int .i64 (t31.r0.length : Int)), (33, .int .i64 s_1.t33), (93, .bool o_3)]) (fun l_12 => [kc pb #[.slice qa0 na0 ca0, .int .i64 t55.h0_1, .int .u32 t55.h0_2] 199, kc b #[.int .i64 c1.cells, .int .i64 c1.tides, .slice qa1 na1 ca1, .slice qa2 na2 ca2, .slice qa3 na3 ca3] 26]) (fun l_12 => [⟨22, RwH.enc l_2.rs, l_2.v.sp, l_2.v.q, dbl 3 RI s.out5 l_2.rs⟩, vL 3 l_3 (RI.enc s_1.r0), vL 3 l_4 (RI.enc t27), vL 3 l_5 (RI.enc t31.r0)]) ?_ ?_
       ·replace hm := h53
        refine jg (jh Y Y (jc Y Y Y (fun _ _ => YA Y Y) (jh Y Y ?_)))
        refine kf 59 Y (fun h55 => ?_) (fun h55 => ?_)
        ·replace hm := ifD h55 hm
         refine jb Y Y (jh Y Y (jb Y Y (yJ 0 runUnderlying26 Y sizeOf3 Y Y (jb Y Y (yl 1 isAgg3 Y Y Y Y (jb Y Y (Kk Y Y Y ?_)))))))
         refine zu Y Y Y (jh Y Y ?_)
         refine kf 65 Y (fun h56 => ?_) (fun h56 => ?_)
         ·replace hm := ifD h56 hm
          refine jb Y Y (jh Y Y (jb Y Y (jc Y Y Y (fun _ _ => zM Y Y) (jb Y Y (jh Y Y ?_)))))
          refine kf 68 Y (fun h57 => ?_) (fun h57 => ?_)
          ·replace hm := ifD h57 hm
           refine g_k Y Y Y Y (g_k Y Y Y Y (g_k Y Y Y Y (g_k Y Y Y Y (g_k Y Y Y Y (g_k Y Y Y Y (g_k Y Y Y Y (jb Y Y ?_)))))))
           refine zu Y Y Y (zu Y Y Y (jh Y Y (jb Y Y (jh Y Y (jb Y Y (jh Y Y (jb Y Y ?_)))))))
           refine jc Y Y Y (fun w _ => zW (vlen RI h35 Y) (runUnderlying22 w) Y) (jb Y Y ?_)
           obtain ⟨t82, h58, hm⟩ := bindO hm
           refine jc Y Y Y (fun _ _ => zH h58 Y Y) (jb Y Y (jc Y Y Y (fun _ _ => zM Y Y) (jb Y Y (jh Y Y ?_))))
           refine kf 84 Y (fun h59 => ?_) (fun h59 => ?_)
           ·replace hm := ifD h59 hm
            refine g_k Y Y Y Y (g_k Y Y Y Y (g_k Y Y Y Y (g_k Y Y Y Y (g_k Y Y Y Y (g_k Y Y Y Y (g_k Y Y Y Y (jb Y Y ?_)))))))
            refine zu Y Y Y (zu Y Y Y (jx ?_))
            obtain rfl := sj hm
            exact jl () (trivial) (sE Y) (fun w hh => hh)
           replace hm := ifE h59 hm
           refine jb Y Y (jh Y Y (jb Y Y (jh Y Y (jb Y Y (jh Y Y (jb Y Y ?_))))))
           obtain ⟨t88, h60, hm⟩ := bindO hm
           refine Ki h60 Y Y Y (jb Y Y ?_)
           obtain ⟨t89, h61, hm⟩ := bindO hm
           refine jc Y Y Y (fun w _ => KC h61 (runUnderlying22 w) (sizeOf3 w) Y Y (vlen RI h35 Y) (vne h35)) (jb Y Y (jc Y Y Y (fun w hh => zN RI 0 h61 (isAgg3 w) Y (hh.vseg 1 Y h35) Y (Nat.add_zero _).symm) (jb Y Y (Kk Y Y Y (jb Y Y (zx Y Y Y (zu Y Y Y ?_)))))))
           refine jx ?_
           obtain rfl := sj hm
           exact jl () (trivial) (sE Y) (fun w hh => hh)
          replace hm := ifE h57 hm
          refine jb Y Y (jh Y Y (jb Y Y (jh Y Y (jb Y Y (jh Y Y (jb Y Y ?_))))))
          obtain ⟨t72, h62, hm⟩ := bindO hm
          refine jc Y Y Y (fun _ _ => zH h62 Y Y) (jb Y Y ?_)
          obtain ⟨t73, h63, hm⟩ := bindO hm
          refine jc Y Y Y (fun w _ => KC h63 (runUnderlying22 w) (sizeOf3 w) Y Y (vlen RI h35 Y) (vne h35)) (jb Y Y (jc Y Y Y (fun w hh => zN RI 0 h63 (isAgg3 w) Y (hh.vseg 1 Y h35) Y (Nat.add_zero _).symm) (jb Y Y (jc Y Y Y (fun _ _ => Zh Y Y) (jb Y Y (zx Y Y Y (zu Y Y Y ?_)))))))
          refine jh Y Y ?_
          refine kf 78 Y (fun h64 => ?_) (fun h64 => ?_)
          ·replace hm := ifD h64 hm
           refine jb Y Y (jh Y Y (jb Y Y (jh Y Y (jb Y Y (jc Y Y Y (fun w _ => zW (vlen RI h35 Y) (runUnderlying22 w) Y) (jb Y Y ?_))))))
           obtain ⟨t82_1, h65, hm⟩ := bindO hm
           refine jc Y Y Y (fun _ _ => zH h65 Y Y) (jb Y Y (jc Y Y Y (fun _ _ => zM Y Y) (jb Y Y (jh Y Y ?_))))
           refine kf 84 Y (fun h66 => ?_) (fun h66 => ?_)
           ·replace hm := ifD h66 hm
            refine g_k Y Y Y Y (g_k Y Y Y Y (g_k Y Y Y Y (g_k Y Y Y Y (g_k Y Y Y Y (g_k Y Y Y Y (g_k Y Y Y Y (jb Y Y ?_)))))))
            refine zu Y Y Y (zu Y Y Y (jx ?_))
            obtain rfl := sj hm
            exact jl () (trivial) (sE Y) (fun w hh => hh)
           replace hm := ifE h66 hm
           refine jb Y Y (jh Y Y (jb Y Y (jh Y Y (jb Y Y (jh Y Y (jb Y Y ?_))))))
           obtain ⟨t88_1, h67, hm⟩ := bindO hm
           refine Ki h67 Y Y Y (jb Y Y ?_)
           obtain ⟨t89_1, h68, hm⟩ := bindO hm
           refine jc Y Y Y (fun w _ => KC h68 (runUnderlying22 w) (sizeOf3 w) Y Y (vlen RI h35 Y) (vne h35)) (jb Y Y (jc Y Y Y (fun w hh => zN RI 0 h68 (isAgg3 w) Y (hh.vseg 1 Y h35) Y (Nat.add_zero _).symm) (jb Y Y (Kk Y Y Y (jb Y Y (zx Y Y Y (zu Y Y Y ?_)))))))
           refine jx ?_
           obtain rfl := sj hm
           exact jl () (trivial) (sE Y) (fun w hh => hh)
          replace hm := ifE h64 hm
          refine g_k Y Y Y Y (g_k Y Y Y Y (g_k Y Y Y Y (g_k Y Y Y Y (g_k Y Y Y Y (g_k Y Y Y Y ?_)))))
          refine jA Y Y Y Y Y ?_
          refine jA Y Y Y Y Y ?_
          refine jA Y Y Y Y Y ?_
          refine jA Y Y Y Y Y ?_
          refine jA Y Y Y Y Y ?_
          refine jA Y Y Y Y Y ?_
          refine jA Y Y Y Y Y ?_
          refine g_k Y Y Y Y (zx Y Y Y (jx ?_))
          obtain rfl := sj hm
          exact jl () (trivial) (sE Y) (fun w hh => hh)
         replace hm := ifE h56 hm
         refine g_k Y Y Y Y (g_k Y Y Y Y (g_k Y Y Y Y ?_))
         refine jA Y Y Y Y Y ?_
         refine jA Y Y Y Y Y ?_
         refine jA Y Y Y Y Y ?_
         refine jA Y Y Y Y Y ?_
         refine jA Y Y Y Y Y ?_
         refine jA Y Y Y Y Y ?_
         refine jA Y Y Y Y Y ?_
         refine g_k Y Y Y Y (zx Y Y Y (jh Y Y (g_k Y Y Y Y (g_k Y Y Y Y (g_k Y Y Y Y (g_k Y Y Y Y (g_k Y Y Y Y ?_)))))))
         refine g_k Y Y Y Y ?_
         refine jA Y Y Y Y Y ?_
         refine jA Y Y Y Y Y ?_
         refine jA Y Y Y Y Y ?_
         refine jA Y Y Y Y Y ?_
         refine jA Y Y Y Y Y ?_
         refine jA Y Y Y Y Y ?_
         refine jA Y Y Y Y Y ?_
         refine g_k Y Y Y Y (zx Y Y Y (jx ?_))
         obtain rfl := sj hm
         exact jl () (trivial) (sE Y) (fun w hh => hh)
        replace hm := ifE h55 hm
        refine g_k Y Y Y Y (g_k Y Y Y Y (g_k Y Y Y Y (g_k Y Y Y Y (zx Y Y Y (jh Y Y (g_k Y Y Y Y (g_k Y Y Y Y ?_)))))))
        refine g_k Y Y Y Y ?_
        refine jA Y Y Y Y Y ?_
        refine jA Y Y Y Y Y ?_
        refine jA Y Y Y Y Y ?_
        refine jA Y Y Y Y Y ?_
        refine jA Y Y Y Y Y ?_
        refine jA Y Y Y Y Y ?_
        refine jA Y Y Y Y Y ?_
        refine g_k Y Y Y Y (zx Y Y Y (jh Y Y (g_k Y Y Y Y (g_k Y Y Y Y (g_k Y Y Y Y (g_k Y Y Y Y (g_k Y Y Y Y ?_)))))))
        refine g_k Y Y Y Y ?_
        refine jA Y Y Y Y Y ?_
        refine jA Y Y Y Y Y ?_
        refine jA Y Y Y Y Y ?_
        refine jA Y Y Y Y Y ?_
        refine jA Y Y Y Y Y ?_
        refine jA Y Y Y Y Y ?_
        refine jA Y Y Y Y Y ?_
        refine g_k Y Y Y Y (zx Y Y Y (jx ?_))
        obtain rfl := sj hm
        exact jl () (trivial) (sE Y) (fun w hh => hh)
       intro l_12 hj
       replace hm := h54
       refine ja ?_
       refine jt Y (fun h69 => ?_) (fun h69 => ?_)
       ·replace hm := ifT (h69) hm
        refine jg (jh Y Y (jh Y Y (jh Y Y ?_)))
        obtain ⟨t97, h70, hm⟩ := bindO hm
        refine jc Y Y Y (fun w _ => KC h70 (runUnderlying22 w) (sizeOf3 w) Y Y (vlen RI h35 Y) (vne h35)) ?_
        obtain ⟨r0, hr0, hm⟩ := bindO hm
        refine ja2 RI 1 0 t56 (fun w => sizeOf3 w) Y Y Y Y h35 Y (Nat.add_zero _).symm Y h70 Y Y (Option.some.inj hr0) (fun h71 => ?_)
        refine ka (S' := [_, _]) (vs' := [_, _, _, _]) [0, 1] [0, 1, 2, 3] 0 Y Y Y Y (jx (jw ?_))
        obtain rfl := sj hm
        exact jl () (h71) (sE Y) (fun w hh => hh)
       replace hm := ifN h69 hm
       refine js (jw ?_)
       obtain rfl := sj hm
       exact jl () (h35) (sE Y) (fun w hh => hh)
      intro l_8 hj
      have h40 := hj
      replace hm := h39
      refine ja (jg ?_)
      obtain ⟨t98, h72, hm⟩ := bindO hm
      refine Ki h72 Y Y Y (jh Y Y (jx ?_))
      obtain rfl := sj hm
      refine ja ?_
      exact jL _ () Y (h40) (sE Y) (fun w hh => hh)
     replace hm := ifE h37 hm
     refine ks (jk (jk (jM ?_)))
     obtain rfl := sj hm
     have hbo := h36 _ Y
     subst hbo
     exact jl () (h35) (sE Y) (hsE [0, 1] [0, 1] 0 Y Y Y Y)
    intro l_6 hj
    have h34 := hj
    replace hm := h33
    refine ja (jg (jh Y Y (jh Y Y ?_)))
    refine qw RwH [(⟨l_3.q, l_3.n, l_3.cap, l_3.sp⟩ : VL)] (ps := [(0, _)]) (cells := [_]) (fun w => runUnderlying41 w) (fun w => sizeOf22 w) (fun w => zeroValue22 w) Y Y Y Y Y Y Y Y (fun L_2 h73 => ?_)
    refine Zw (E2 := 3) RI 1 (Y : _ = ([[]] : List (List Int))) (fun h74 => ?_)
    refine ka (S' := [_, _]) (vs' := [_, _, _]) [0, 1] [0, 2, 1] 0 Y Y Y Y ?_
    refine Zy RI (l' := [o_1.r0]) 0 l_3.n l_3.cap h74 h34 Y Y (fun h75 => ?_)
    have h76 : DOK RI [o_1.r0] [(⟨l_3.q, l_3.n, l_3.cap, l_3.sp⟩ : VL)] := h75
    refine jai (S' := [_, _]) (vs' := [⟨22, RwH.enc [(⟨l_3.q, l_3.n, l_3.cap, l_3.sp⟩ : VL)], L_2.sp, L_2.q, dbl 3 RI [o_1.r0] [(⟨l_3.q, l_3.n, l_3.cap, l_3.sp⟩ : VL)]⟩, ⟨22, RwH.enc l_2.rs, l_2.v.sp, l_2.v.q, dbl 3 RI s.out5 l_2.rs⟩]) [0, 1] [0, 1] 0 (by decide) (by decide) Y Y Y ?_
    obtain ⟨t102, h77, hm⟩ := bindO hm
    refine zR RwH 1 (appcL h77 (h16).len (h76).len) underlying41 jaE Y Y Y Y Y h15 Y Y (vlen RwH h73 Y) (AOK.q (vne h73)) (fun w hh => (hh.vsegA 0 Y h73)) Y (fun L_3 h78 _ => ?_)
    refine ka (S' := [_, _]) (vs' := [_, _]) [0, 1] [0, 1] 0 Y Y Y Y (ka (S' := [_, _]) (vs' := [_, _]) [0, 1] [1, 0] 0 Y Y Y Y ?_)
    refine ZV RI h16 h76 (appcO h77).1.symm (fun h79 => ?_)
    refine jo Y Y (jx (jw (ja (jg ?_))))
    obtain ⟨t103, h80, hm⟩ := bindO hm
    refine Ki h80 Y Y Y (jh Y Y (jx ?_))
    obtain rfl := sj hm
    refine ja ?_
    exact jL _ (⟨⟨L_3.q, L_3.n, L_3.cap, L_3.sp⟩, (l_2.rs ++ [(⟨l_3.q, l_3.n, l_3.cap, l_3.sp⟩ : VL)])⟩) Y (⟨h78, h79⟩) (sE Y) (hsE [1, 0] [0] 0 Y Y Y Y)
   replace hm := ifE h18 hm
   refine ks (jk (jk (jM ?_)))
   obtain rfl := sj hm
   have hbo := h17 _ Y
   subst hbo
   exact jl l_2 (⟨h15, h16⟩) (sE Y) (fun w hh => hh)
  intro l_1 hj
  obtain ⟨h13, h14⟩ := hj
  replace hm := h12
  refine ja (jr (jh Y Y (jo Y Y (jq (ju ?_)))))
  obtain rfl := sj hm
  refine jj Y (fun w hh => (.tmp Y .nil)) (fun w hh => ⟨l_1, rfl, ⟨h13, h14⟩, hh.se [1] [0] 4 Y Y Y rfl⟩)
structure yj where
  r0 : Channel
  b0_1 : Int
  b0_2 : Int
  r1 : (List (List Int))
structure yK where
  b0_1 : Int
  b0_2 : Int
  c10_fords : (List Int)
structure kb where
  t22 : Int
  b0_1 : Int
  b0_2 : Int
  c10_fords : (List Int)
structure yQ where
  b0_1 : Int
  b0_2 : Int
  c10_fords : (List Int)
structure yP where
  t46 : Bool
  b0_1 : Int
  b0_2 : Int
def qM (t15 : ym) (fords2 : Int) (b00 : (List Int)) (s : kb) : Option (kb ⊕ yK) :=
 if s.t22 < t15.r0 then
 (((if (s.c10_fords.length : Int) < fords2 then
 ((zy b00 s.b0_1 s.b0_2 3).bind fun t32 =>
 if t32.r0 = true then
 (some (⟨true, t32.h0_1, t32.h0_2⟩ : yP)) else
 ((subc t15.r0 1).bind fun t37 =>
 if s.t22 = t37 then
 (some (⟨(decide ((s.c10_fords.length : Int) = 0)), t32.h0_1, t32.h0_2⟩ : yP)) else
 (some (⟨false, t32.h0_1, t32.h0_2⟩ : yP)))) else
 (some (⟨false, s.b0_1, s.b0_2⟩ : yP))).bind fun o_2 =>
 if o_2.t46 = true then
 ((appc 8 s.c10_fords [s.t22]).bind fun t51 =>
 some (⟨o_2.b0_1, o_2.b0_2, t51⟩ : yQ)) else
 (some (⟨o_2.b0_1, o_2.b0_2, s.c10_fords⟩ : yQ))).bind fun o_1 =>
 (addc s.t22 1).bind fun t53 =>
 some (.inl (⟨t53, o_1.b0_1, o_1.b0_2, o_1.c10_fords⟩ : kb))) else
 (some (.inr (⟨s.b0_1, s.b0_2, s.c10_fords⟩ : yK)))
structure J7 where
  b0_1 : Int
  b0_2 : Int
  c10_sands : (List Sand)
structure yN where
  t56 : Int
  b0_1 : Int
  b0_2 : Int
  c10_sands : (List Sand)
structure QL where
  b0_1 : Int
  b0_2 : Int
  c10_sands : (List Sand)
def qS (t55 : yT) (t15 : ym) (b00 : (List Int)) (s_1 : yN) : Option (yN ⊕ J7) :=
 if s_1.t56 < t55.r0 then
 ((subc t15.r0 1).bind fun t61 =>
 (jV b00 s_1.b0_1 s_1.b0_2 t61).bind fun t62 =>
 ((subc t15.r0 1).bind fun t68 =>
 (jV b00 t62.h0_1 t62.h0_2 4).bind fun t71 =>
 (addc t62.r0 t71.r0).bind fun t72 =>
 (yV b00 t71.h0_1 t71.h0_2 1 2).bind fun t76 =>
 (appc 24 s_1.c10_sands [(⟨(⟨t62.r0, (min t68 t72)⟩ : Span), t76.r0⟩ : Sand)]).bind fun t79 =>
 some (⟨t76.h0_1, t76.h0_2, t79⟩ : QL)).bind fun o_4 =>
 (addc s_1.t56 1).bind fun t81 =>
 some (.inl (⟨t81, o_4.b0_1, o_4.b0_2, o_4.c10_sands⟩ : yN))) else
 (some (.inr (⟨s_1.b0_1, s_1.b0_2, s_1.c10_sands⟩ : J7)))
def qY (b00 : (List Int)) (b01 : Int) (b02 : Int) (cells1 : Int) (fords2 : Int) (tides3 : Int) : Option yj :=
 (yV b00 b01 b02 3 cells1).bind fun t15 =>
 (jV b00 t15.h0_1 t15.h0_2 tides3).bind fun t18 =>
 (iterM FU (qM t15 fords2 b00) (⟨0, t18.h0_1, t18.h0_2, []⟩ : kb)).bind fun o =>
 (jV b00 o.b0_1 o.b0_2 4).bind fun t55 =>
 (iterM FU (qS t55 t15 b00) (⟨0, t55.h0_1, t55.h0_2, []⟩ : yN)).bind fun o_3 =>
 (yf b00 o_3.b0_1 o_3.b0_2 (⟨t15.r0, t18.r0, o.c10_fords, o_3.c10_sands, []⟩ : Channel)).bind fun t85 =>
 some (⟨(⟨t15.r0, t18.r0, o.c10_fords, o_3.c10_sands, []⟩ : Channel), t85.b0_1, t85.b0_2, t85.r0⟩ : yj)
theorem Yo (b00 : (List Int)) (b01 : Int) (b02 : Int) (cells1 : Int) (fords2 : Int) (tides3 : Int) (pb : Nat) (qa0 : Option Addr) (na0 ca0 : Nat) (w : World) (hw : HV w (keys [kc pb #[.slice qa0 na0 ca0, .int .i64 b01, .int .u32 b02] 199] []) [kc pb #[.slice qa0 na0 ca0, .int .i64 b01, .int .u32 b02] 199] [] [(aB qa0, aO qa0, RU8.enc b00)] w) (hna0 : b00.length = na0) (hqa0 : AOK na0 qa0) (hla0 : na0 ≤ ca0) {res : yj} (hm : qY b00 b01 b02 cells1 fords2 tides3 = some res) :
    Calls Tryz.prog 61 #[ptr pb 0, .int .i64 cells1, .int .i64 fords2, .int .i64 tides3] w (fun en w' => ∃ l : VL × VL × VL × DL, en = .returned (.tuple #[.agg #[.int .i64 res.r0.cells, .int .i64 res.r0.tides, sL l.1, sL l.2.1, sL l.2.2.1], sL l.2.2.2.v]) ∧ (VOK 1 l.1.n l.1.cap (RI.enc res.r0.fords) l.1.sp l.1.q ∧ VOK 3 l.2.1.n l.2.1.cap (RSa.enc res.r0.sands) l.2.1.sp l.2.1.q ∧ VOK 3 l.2.2.1.n l.2.2.1.cap (RSi.enc res.r0.sights) l.2.2.1.sp l.2.2.1.q ∧ VOK 1 l.2.2.2.v.n l.2.2.2.v.cap (RwH.enc l.2.2.2.rs) l.2.2.2.v.sp l.2.2.2.v.q ∧ DOK RI res.r1 l.2.2.2.rs) ∧ HV w (keys [kc pb #[.slice qa0 na0 ca0, .int .i64 b01, .int .u32 b02] 199] []) [kc pb #[.slice qa0 na0 ca0, .int .i64 res.b0_1, .int .u32 res.b0_2] 199] [vL 3 l.1 (RI.enc res.r0.fords), vL 98 l.2.1 (RSa.enc res.r0.sands), vL 55 l.2.2.1 (RSi.enc res.r0.sights), ⟨22, RwH.enc l.2.2.2.rs, l.2.2.2.v.sp, l.2.2.2.v.q, dbl 3 RI res.r1 l.2.2.2.rs⟩] [] w') := by
  unfold qY at hm
  refine q5 func61 Y ntmps61 Y (e := [(0, _), (1, _), (2, _), (3, _)]) Y hw (jr ?_)
  refine jv (fun w => zeroValue26 w) Y (fun b h6 => ?_)
  refine jc Y Y Y (fun _ _ => ye Y) (kY (jh Y Y (jh Y Y ?_)))
  obtain ⟨t15, h7, hm⟩ := bindO hm
  refine ka (S' := [_, _]) (vs' := []) [1, 0] [] 0 Y Y Y Y ?_
  refine jd [_] [] Y Y Y Y Y Y Y call145 (fun w hh => KP b00 b01 b02 3 cells1 pb qa0 na0 ca0 w (HV.callee (S0 := [_]) (vs0 := []) hh (roR hh 0 Y roN)) hna0 hqa0 hla0 h7) (fun l h8 => ?_)
  refine ka (S' := [_, _]) (vs' := []) [0, 1] [] 0 Y Y Y Y (jh Y Y (jh Y Y ?_))
  obtain ⟨t18, h9, hm⟩ := bindO hm
  refine jd [_] [] Y Y Y Y Y Y Y call146 (fun w hh => kd b00 t15.h0_1 t15.h0_2 tides3 pb qa0 na0 ca0 w (HV.callee (S0 := [_]) (vs0 := []) hh (roR hh 0 Y roN)) hna0 hqa0 hla0 h9) (fun l_1 h10 => ?_)
  refine ka (S' := [_, _]) (vs' := []) [0, 1] [] 0 Y Y Y Y (jc Y Y Y (fun _ _ => qe (vs := [(0, _), (1, _)]) (cells := [_, _, _, _, _]) Y Y) ?_)
  refine jv (fun w => zeroValue26 w) Y (fun b_1 h11 => ?_)
  refine kQ (us := #[_, _, _, _, _]) (cs' := [_, _, _, _, _]) (S' := [_, _, _]) 0 (fun w => sizeOf26 w) Y Y Y Y Y Y Y (jq (ji (jr (yJ 0 runUnderlying26 Y sizeOf3 Y Y (yl 0 isAgg3 Y Y Y Y (jh Y Y (jq ?_)))))))
  refine zS 3 ?_
  obtain ⟨o, h12, h13⟩ := bindO hm
  refine jU (ι := VL) (fun l_2 => VOK 1 l_2.n l_2.cap (RI.enc o.c10_fords) l_2.sp l_2.q) (fun l_2 => [(0, ptr pb 0), (8, ptr b 0), (10, ptr b_1 0)]) (fun l_2 => [kc b_1 #[.int .i64 t15.r0, .int .i64 t18.r0, sL l_2, slv none 0 0, slv none 0 0] 26, kc pb #[.slice qa0 na0 ca0, .int .i64 o.b0_1, .int .u32 o.b0_2] 199, kc b #[.int .i64 0, .int .i64 0, slv none 0 0, slv none 0 0, slv none 0 0] 26]) (fun l_2 => [vL 3 l_2 (RI.enc o.c10_fords)]) ?_ ?_
  ·replace hm := h12
   refine jn ?_
   refine j5 (ι := VL) hm (fun s l_3 => VOK 1 l_3.n l_3.cap (RI.enc s.c10_fords) l_3.sp l_3.q) (fun s l_3 => [(0, ptr pb 0), (2, .int .i64 fords2), (8, ptr b 0), (10, ptr b_1 0), (21, .int .i64 t15.r0), (22, .int .i64 s.t22)]) (fun s l_3 => [kc b_1 #[.int .i64 t15.r0, .int .i64 t18.r0, sL l_3, slv none 0 0, slv none 0 0] 26, kc pb #[.slice qa0 na0 ca0, .int .i64 s.b0_1, .int .u32 s.b0_2] 199, kc b #[.int .i64 0, .int .i64 0, slv none 0 0, slv none 0 0, slv none 0 0] 26]) (fun s l_3 => [vL 3 l_3 (RI.enc s.c10_fords)]) ⟨none, 0, 0, []⟩ (VOK.nil) (sE Y) (fun w hh => hh) (fun s l_3 r hpl hm h16 => ?_)
   have h15 := hpl
   unfold qM at hm
   refine jr (Kk Y Y Y (jq (ji ?_)))
   refine jt Y (fun h17 => ?_) (fun h17 => ?_)
   ·replace hm := ifD h17 hm
    refine js (ja (ji ?_))
    obtain ⟨o_1, h18, h19⟩ := bindO hm
    refine jU (ι := VL) (fun l_4 => VOK 1 l_4.n l_4.cap (RI.enc o_1.c10_fords) l_4.sp l_4.q) (fun l_4 => [(0, ptr pb 0), (2, .int .i64 fords2), (8, ptr b 0), (10, ptr b_1 0), (21, .int .i64 t15.r0), (22, .int .i64 s.t22)]) (fun l_4 => [kc b_1 #[.int .i64 t15.r0, .int .i64 t18.r0, sL l_4, slv none 0 0, slv none 0 0] 26, kc pb #[.slice qa0 na0 ca0, .int .i64 o_1.b0_1, .int .u32 o_1.b0_2] 199, kc b #[.int .i64 0, .int .i64 0, slv none 0 0, slv none 0 0, slv none 0 0] 26]) (fun l_4 => [vL 3 l_4 (RI.enc o_1.c10_fords)]) ?_ ?_
    ·replace hm := h18
     refine jn (jr (jh Y Y (jo Y Y (jq (ji ?_)))))
     obtain ⟨o_2, h21, h22⟩ := bindO hm
     refine jU (ι := Unit) (fun l_5 => True) (fun l_5 => [(0, ptr pb 0), (2, .int .i64 fords2), (8, ptr b 0), (10, ptr b_1 0), (11, .int .i64 s.t22), (21, .int .i64 t15.r0), (22, .int .i64 s.t22), (46, .bool o_2.t46)]) (fun l_5 => [kc b_1 #[.int .i64 t15.r0, .int .i64 t18.r0, sL l_3, slv none 0 0, slv none 0 0] 26, kc pb #[.slice qa0 na0 ca0, .int .i64 o_2.b0_1, .int .u32 o_2.b0_2] 199, kc b #[.int .i64 0, .int .i64 0, slv none 0 0, slv none 0 0, slv none 0 0] 26]) (fun l_5 => [vL 3 l_3 (RI.enc s.c10_fords)]) ?_ ?_
     ·replace hm := h21
      refine jg (yJ 2 runUnderlying26 Y sizeOf22 Y Y (yl 0 isAgg22 Y Y Y Y (jc Y Y Y (fun w _ => zW (vlen RI h15 Y) (runUnderlying22 w) Y) (jh Y Y (Kk Y Y Y (jh Y Y ?_))))))
      refine kf 30 Y (fun h23 => ?_) (fun h23 => ?_)
      ·replace hm := ifD h23 hm
       refine jb Y Y (jh Y Y (jb Y Y ?_))
       obtain ⟨t32, h24, hm⟩ := bindO hm
       refine ka (S' := [_, _, _]) (vs' := [_]) [1, 0, 2] [0] 0 Y Y Y Y ?_
       refine jd [_] [] Y Y Y Y Y Y Y call68 (fun w hh => Q7 b00 s.b0_1 s.b0_2 3 pb qa0 na0 ca0 w (HV.callee (S0 := [_]) (vs0 := []) hh (roR hh 0 Y roN)) hna0 hqa0 hla0 h24) (fun l_6 h25 => ?_)
       refine ka (S' := [_, _, _]) (vs' := [_]) [0, 1, 2] [0] 0 Y Y Y Y (jb Y Y (jh Y Y ?_))
       refine kf 33 Y (fun h26 => ?_) (fun h26 => ?_)
       ·replace hm := ifT (h26) hm
        refine g_k Y Y Y Y (g_k Y Y Y Y (g_k Y Y Y Y (g_k Y Y Y Y (g_k Y Y Y Y (g_k Y Y Y Y ?_)))))
        refine jA Y Y Y Y Y ?_
        refine jA Y Y Y Y Y ?_
        refine jA Y Y Y Y Y ?_
        refine jA Y Y Y Y Y ?_
        refine g_k Y Y Y Y (jb Y Y (zu Y Y Y (zu Y Y Y (jx ?_))))
        obtain rfl := sj hm
        exact jl () (trivial) (sE Y) (hsE [1, 0, 2] [0] 0 Y Y Y Y)
       replace hm := ifN h26 hm
       refine jb Y Y (jh Y Y (jb Y Y (yJ 0 runUnderlying26 Y sizeOf3 Y Y (jb Y Y (yl 1 isAgg3 Y Y Y Y (jb Y Y ?_))))))
       obtain ⟨t37, h27, hm⟩ := bindO hm
       refine jc Y Y Y (fun _ _ => zH h27 Y Y) (jb Y Y (jc Y Y Y (fun _ _ => zM Y Y) (jb Y Y (jh Y Y ?_))))
       refine kf 39 Y (fun h28 => ?_) (fun h28 => ?_)
       ·replace hm := ifD h28 hm
        refine jb Y Y (yJ 2 runUnderlying26 Y sizeOf22 Y Y (jb Y Y (yl 1 isAgg22 Y Y Y Y (jb Y Y (jc Y Y Y (fun w _ => zW (vlen RI h15 Y) (runUnderlying22 w) Y) (jb Y Y (jc Y Y Y (fun _ _ => zM Y Y) ?_)))))))
        refine jb Y Y (zu Y Y Y (jb Y Y (zx Y Y Y (zu Y Y Y (jx ?_)))))
        obtain rfl := sj hm
        exact jl () (trivial) (sE Y) (hsE [1, 0, 2] [0] 0 Y Y Y Y)
       replace hm := ifE h28 hm
       refine g_k Y Y Y Y (g_k Y Y Y Y (g_k Y Y Y Y (g_k Y Y Y Y (jb Y Y (zx Y Y Y (jb Y Y (zx Y Y Y ?_)))))))
       refine zu Y Y Y (jx ?_)
       obtain rfl := sj hm
       exact jl () (trivial) (sE Y) (hsE [1, 0, 2] [0] 0 Y Y Y Y)
      replace hm := ifE h23 hm
      refine g_k Y Y Y Y (g_k Y Y Y Y (g_k Y Y Y Y ?_))
      refine jA Y Y Y Y Y ?_
      refine jA Y Y Y Y Y ?_
      refine jA Y Y Y Y Y ?_
      refine jA Y Y Y Y Y ?_
      refine jA Y Y Y Y Y ?_
      refine jA Y Y Y Y Y ?_
      refine jA Y Y Y Y Y ?_
      refine jA Y Y Y Y Y ?_
      refine jA Y Y Y Y Y ?_
      refine jA Y Y Y Y Y ?_
      refine jA Y Y Y Y Y ?_
      refine g_k Y Y Y Y (zx Y Y Y (jx ?_))
      obtain rfl := sj hm
      exact jl () (trivial) (sE Y) (fun w hh => hh)
     intro l_5 hj
     replace hm := h22
     refine ja ?_
     refine jt Y (fun h29 => ?_) (fun h29 => ?_)
     ·replace hm := ifT (h29) hm
      refine jg (yJ 2 runUnderlying26 Y sizeOf22 Y Y (yl 0 isAgg22 Y Y Y Y (jh Y Y ?_)))
      refine qw RI [s.t22] (ps := [(0, _)]) (cells := [_]) (fun w => runUnderlying22 w) (fun w => sizeOf3 w) (fun w => zeroValue3 w) Y Y Y Y Y Y Y Y (fun L h30 => ?_)
      obtain ⟨t51, h31, hm⟩ := bindO hm
      refine zR RI 1 h31 underlying22 KO Y Y Y Y Y h15 Y Y (vlen RI h30 Y) (AOK.q (vne h30)) (fun w hh => (hh.vsegA 0 Y h30)) Y (fun L_1 h32 h32n => ?_)
      refine ka (S' := [_, _, _]) (vs' := [_, _]) [0, 1, 2] [0, 1] 0 Y Y Y Y (yJ 2 runUnderlying26 Y sizeOf22 Y Y (q6 (cs' := #[_, _, _, _, _]) (S' := [_, _, _]) 0 (fun w => sizeOf22 w) Y Y Y Y Y Y Y (jx (jw ?_))))
      obtain rfl := sj hm
      exact jl L_1 (h32) (sE Y) (hsE [0, 1, 2] [1] 0 Y Y Y Y)
     replace hm := ifN h29 hm
     refine js (jw ?_)
     obtain rfl := sj hm
     exact jl l_3 (h15) (sE Y) (fun w hh => hh)
    intro l_4 hj
    have h20 := hj
    replace hm := h19
    refine ja (jg ?_)
    obtain ⟨t53, h33, hm⟩ := bindO hm
    refine Ki h33 Y Y Y (jh Y Y (jx ?_))
    obtain rfl := sj hm
    refine ja ?_
    exact jL _ l_4 Y (h20) (sE Y) (fun w hh => hh)
   replace hm := ifE h17 hm
   refine ks (jk (jk (jM ?_)))
   obtain rfl := sj hm
   have hbo := h16 _ Y
   subst hbo
   exact jl l_3 (h15) (sE Y) (fun w hh => hh)
  intro l_2 hj
  have h14 := hj
  replace hm := h13
  refine ja (ji (jr (jh Y Y ?_)))
  obtain ⟨t55, h34, hm⟩ := bindO hm
  refine ka (S' := [_, _, _]) (vs' := [_]) [1, 0, 2] [0] 0 Y Y Y Y ?_
  refine jd [_] [] Y Y Y Y Y Y Y call146 (fun w hh => kd b00 o.b0_1 o.b0_2 4 pb qa0 na0 ca0 w (HV.callee (S0 := [_]) (vs0 := []) hh (roR hh 0 Y roN)) hna0 hqa0 hla0 h34) (fun l_7 h35 => ?_)
  refine ka (S' := [_, _, _]) (vs' := [_]) [0, 1, 2] [0] 0 Y Y Y Y (jh Y Y (jq (zS 98 ?_)))
  obtain ⟨o_3, h36, h37⟩ := bindO hm
  refine jU (ι := VL) (fun l_8 => VOK 3 l_8.n l_8.cap (RSa.enc o_3.c10_sands) l_8.sp l_8.q) (fun l_8 => [(0, ptr pb 0), (8, ptr b 0), (10, ptr b_1 0)]) (fun l_8 => [kc pb #[.slice qa0 na0 ca0, .int .i64 o_3.b0_1, .int .u32 o_3.b0_2] 199, kc b_1 #[.int .i64 t15.r0, .int .i64 t18.r0, sL l_2, sL l_8, slv none 0 0] 26, kc b #[.int .i64 0, .int .i64 0, slv none 0 0, slv none 0 0, slv none 0 0] 26]) (fun l_8 => [vL 3 l_2 (RI.enc o.c10_fords), vL 98 l_8 (RSa.enc o_3.c10_sands)]) ?_ ?_
  ·replace hm := h36
   refine jn ?_
   refine j5 (ι := VL) hm (fun s_1 l_9 => VOK 3 l_9.n l_9.cap (RSa.enc s_1.c10_sands) l_9.sp l_9.q) (fun s_1 l_9 => [(0, ptr pb 0), (8, ptr b 0), (10, ptr b_1 0), (55, .int .i64 t55.r0), (56, .int .i64 s_1.t56)]) (fun s_1 l_9 => [kc pb #[.slice qa0 na0 ca0, .int .i64 s_1.b0_1, .int .u32 s_1.b0_2] 199, kc b_1 #[.int .i64 t15.r0, .int .i64 t18.r0, sL l_2, sL l_9, slv none 0 0] 26, kc b #[.int .i64 0, .int .i64 0, slv none 0 0, slv none 0 0, slv none 0 0] 26]) (fun s_1 l_9 => [vL 3 l_2 (RI.enc o.c10_fords), vL 98 l_9 (RSa.enc s_1.c10_sands)]) ⟨none, 0, 0, []⟩ (VOK.nil) (sE Y) (hsE [0, 1, 2] [1, 0] 0 Y Y Y Y) (fun s_1 l_9 r_1 hpl hm h40 => ?_)
   have h39 := hpl
   unfold qS at hm
   refine jr (Kk Y Y Y (jq (ji ?_)))
   refine jt Y (fun h41 => ?_) (fun h41 => ?_)
   ·replace hm := ifD h41 hm
    refine js (ja (ji (jn (jr (jh Y Y (yJ 0 runUnderlying26 Y sizeOf3 Y Y (yl 1 isAgg3 Y Y Y Y ?_)))))))
    obtain ⟨t61, h42, hm⟩ := bindO hm
    refine jc Y Y Y (fun _ _ => zH h42 Y Y) ?_
    obtain ⟨t62, h43, hm⟩ := bindO hm
    refine jd [_] [] Y Y Y Y Y Y Y call146 (fun w hh => kd b00 s_1.b0_1 s_1.b0_2 t61 pb qa0 na0 ca0 w (HV.callee (S0 := [_]) (vs0 := []) hh (roR hh 0 Y roN)) hna0 hqa0 hla0 h43) (fun l_10 h44 => ?_)
    refine ka (S' := [_, _, _]) (vs' := [_, _]) [0, 1, 2] [0, 1] 0 Y Y Y Y (jo Y Y (jq ?_))
    obtain ⟨o_4, h45, h46⟩ := bindO hm
    refine jU (ι := VL) (fun l_11 => VOK 3 l_11.n l_11.cap (RSa.enc o_4.c10_sands) l_11.sp l_11.q) (fun l_11 => [(0, ptr pb 0), (8, ptr b 0), (10, ptr b_1 0), (55, .int .i64 t55.r0), (56, .int .i64 s_1.t56)]) (fun l_11 => [kc pb #[.slice qa0 na0 ca0, .int .i64 o_4.b0_1, .int .u32 o_4.b0_2] 199, kc b_1 #[.int .i64 t15.r0, .int .i64 t18.r0, sL l_2, sL l_11, slv none 0 0] 26, kc b #[.int .i64 0, .int .i64 0, slv none 0 0, slv none 0 0, slv none 0 0] 26]) (fun l_11 => [vL 3 l_2 (RI.enc o.c10_fords), vL 98 l_11 (RSa.enc o_4.c10_sands)]) ?_ ?_
    ·replace hm := h45
     refine kM (some 18) (.free 0 (.hoist 1 (.free 2 (.free 3 (.hoist 4 (.free 5 (.free 6 (.free 7 (.free 12 (.one 8 (.free 9 (.free 10 (.free 11 (.one 13 (.free 14 (.one 15 (.one 16 (.free 17 (.last 18 .done))))))))))))))))))) (HV _ _ [kc b_1 #[.int .i64 t15.r0, .int .i64 t18.r0, sL l_2, sL l_9, slv none 0 0] 26, kc b #[.int .i64 0, .int .i64 0, slv none 0 0, slv none 0 0, slv none 0 0] 26] [vL 3 l_2 (RI.enc o.c10_fords)] _) Y (by decide +kernel) (fun w k hh => hh.draw k) (hsE [1, 2] [0] 0 Y Y Y Y) ?_
     refine KH 3 runUnderlying26 sizeOf23 Y Y Y Y (K2 0 isAgg23 Y Y Y Y Y (za Y Y Y (KH 0 runUnderlying26 sizeOf3 Y Y Y Y (K2 0 isAgg3 Y Y Y Y Y ?_))))
     obtain ⟨t68, h48, hm⟩ := bindO hm
     refine jp Y Y Y Y (fun _ _ => zH h48 Y Y) (za Y Y Y (za Y Y Y (za Y Y Y (jC Y ?_))))
     obtain ⟨t71, h49, hm⟩ := bindO hm
     refine jd [_] [] Y Y Y Y Y Y Y call146 (fun w hh => kd b00 t62.h0_1 t62.h0_2 4 pb qa0 na0 ca0 w (HV.callee (S0 := [_]) (vs0 := []) hh (roR hh 0 Y roN)) hna0 hqa0 hla0 h49) (fun l_12 h50 => ?_)
     refine ka (S' := [_, _, _]) (vs' := [_, _]) [0, 1, 2] [0, 1] 0 Y Y Y Y (jm (hsE [1, 2] [0] 0 Y Y Y Y) ?_)
     obtain ⟨t72, h51, hm⟩ := bindO hm
     refine jp Y Y Y Y (fun _ _ => Kf h51 Y Y) (jp Y Y Y Y (fun _ _ => jbo Y Y) (jp Y Y Y Y (fun _ _ => qe (vs := [(0, _), (1, _)]) (cells := [_, _]) Y Y) (jC Y ?_)))
     obtain ⟨t76, h52, hm⟩ := bindO hm
     refine jd [_] [] Y Y Y Y Y Y Y call145 (fun w hh => KP b00 t71.h0_1 t71.h0_2 1 2 pb qa0 na0 ca0 w (HV.callee (S0 := [_]) (vs0 := []) hh (roR hh 0 Y roN)) hna0 hqa0 hla0 h52) (fun l_13 h53 => ?_)
     refine ka (S' := [_, _, _]) (vs' := [_, _]) [0, 1, 2] [0, 1] 0 Y Y Y Y (jm (hsE [1, 2] [0] 0 Y Y Y Y) (jp Y Y Y Y (fun _ _ => qe (vs := [(0, _), (1, _)]) (cells := [_, _, _]) Y Y) (jC Y ?_)))
     refine qw RSa [(⟨(⟨t62.r0, (min t68 t72)⟩ : Span), t76.r0⟩ : Sand)] (ps := [(0, _)]) (cells := [_, _, _]) (fun w => runUnderlying23 w) (fun w => sizeOf98 w) (fun w => zeroValue98 w) Y Y Y Y Y Y Y Y (fun L_2 h54 => ?_)
     refine jm (hsE [1, 2] [1] 0 Y Y Y Y) (jC Y ?_)
     obtain ⟨t79, h55, hm⟩ := bindO hm
     refine zR RSa 2 h55 underlying23 jau Y Y Y Y Y h39 Y Y (vlen RSa h54 Y) (AOK.q (vne h54)) (fun w hh => (hh.vsegA 0 Y h54)) Y (fun L_3 h56 h56n => ?_)
     refine ka (S' := [_, _, _]) (vs' := [_, _, _]) [0, 1, 2] [0, 1, 2] 0 Y Y Y Y (jm (hsE [1, 2] [1] 0 Y Y Y Y) (KH 3 runUnderlying26 sizeOf23 Y Y Y Y (Y1 Y (q6 (cs' := #[_, _, _, _, _]) (S' := [_, _, _]) 1 (fun w => sizeOf23 w) Y Y Y Y Y Y Y (Yi (jQ ?_))))))
     obtain rfl := sj hm
     exact jl L_3 (h56) (sE Y) (hsE [0, 1, 2] [1, 2] 0 Y Y Y Y)
    intro l_11 hj
    have h47 := hj
    replace hm := h46
    refine jw (ja (jg ?_))
    obtain ⟨t81, h57, hm⟩ := bindO hm
    refine Ki h57 Y Y Y (jh Y Y (jx ?_))
    obtain rfl := sj hm
    refine ja ?_
    exact jL _ l_11 Y (h47) (sE Y) (fun w hh => hh)
   replace hm := ifE h41 hm
   refine ks (jk (jk (jM ?_)))
   obtain rfl := sj hm
   have hbo := h40 _ Y
   subst hbo
   exact jl l_9 (h39) (sE Y) (fun w hh => hh)
  intro l_8 hj
  have h38 := hj
  replace hm := h37
  refine ja (ji ?_)
  refine kM none (.hoist 0 (.free 1 (.hoist 2 (.one 3 (.one 4 (.free 5 .done)))))) (HV _ _ [kc b_1 #[.int .i64 t15.r0, .int .i64 t18.r0, sL l_2, sL l_8, slv none 0 0] 26] [vL 3 l_2 (RI.enc o.c10_fords), vL 98 l_8 (RSa.enc o_3.c10_sands)] _) Y (by decide +kernel) (fun w k hh => hh.draw k) (hsE [1] [0, 1] 0 Y Y Y Y) ?_
  refine jz Y Y Y Y (fun w hh => jP (vs := [_, _, _, _, _]) (isAgg26 w) (sizeOf26 w) Y (hh.cells 0 Y Y)) (za Y Y Y (jz Y Y Y Y (fun w hh => jP (vs := [_, _, _, _, _]) (isAgg26 w) (sizeOf26 w) Y (hh.cells 0 Y Y)) (jC Y ?_)))
  obtain ⟨t85, h58, hm⟩ := bindO hm
  refine jd [_] [] Y Y Y Y Y Y Y call78 (fun w hh => Q1 b00 o_3.b0_1 o_3.b0_2 (⟨t15.r0, t18.r0, o.c10_fords, o_3.c10_sands, []⟩ : Channel) pb qa0 na0 ca0 (qA l_2.q) l_2.n l_2.cap (qA l_8.q) l_8.n l_8.cap none 0 0 w (HV.callee (S0 := [_]) (vs0 := []) hh (roR hh 0 Y (roC (hh.vsepA 0 Y h14) (roC (hh.vsepA 1 Y h38) (roC ⟨segOK.nil, fun hx => absurd Y hx⟩ roN))))) hna0 hqa0 hla0 (vlen RI h14 Y) (AOK.q (vne h14)) (h14).hle (vlen RSa h38 Y) (AOK.q (vne h38)) (h38).hle Y AOK.nil (Nat.le_refl 0) h58) (fun l_14 h59 => ?_)
  obtain ⟨h60, h61⟩ := h59
  refine ka (S' := [_, _, _]) (vs' := [_, _, _]) [0, 1, 2] [0, 1, 2] 0 Y Y Y Y (jm (hsE [1] [1, 2] 0 Y Y Y Y) (jC Y (kQ (us := #[_, _, _, _, _]) (cs' := [_, _, _, _, _]) (S' := [_, _, _]) 2 (fun w => sizeOf26 w) Y Y Y Y Y Y Y (jm (hsE [1] [1, 2] 0 Y Y Y Y) (jp Y Y Y Y (fun _ _ => km Y) (jQ (ja ?_)))))))
  refine ju (zS 55 ?_)
  obtain rfl := sj hm
  refine jj Y (fun w hh => (.cell Y (loadVar_agg (vs := [_, _, _, _, _]) (isAgg26 _) (sizeOf26 _) (hh.cells 2 Y Y)) (.tmp Y .nil))) (fun w hh => ⟨(l_2, l_8, ⟨none, 0, 0, []⟩, l_14), rfl, ⟨h14, h38, VOK.nil, h60, h61⟩, hh.se [0] [2, 3, 0, 1] 1 Y Y Y rfl⟩)
structure yk where
  b0_1 : Int
  b0_2 : Int
  r0 : (List Sight)
structure zK where
  b0_1 : Int
  b0_2 : Int
  out9 : (List Sight)
structure qc where
  t14 : Int
  b0_1 : Int
  b0_2 : Int
  out9 : (List Sight)
structure QK where
  s10 : Sight
  b0_1 : Int
  b0_2 : Int
structure J3 where
  b0_1 : Int
  b0_2 : Int
  s10_cell : Int
def qU (t13 : yT) (c1 : Channel) (b00 : (List Int)) (course2 : (List (List Int))) (s : qc) : Option (qc ⊕ zK) :=
 if s.t14 < t13.r0 then
 (((subc c1.cells 1).bind fun t23 =>
 (jV b00 s.b0_1 s.b0_2 c1.tides).bind fun t19 =>
 (jV b00 t19.h0_1 t19.h0_2 t23).bind fun t24 =>
 some (⟨(⟨t19.r0, t24.r0, false⟩ : Sight), t24.h0_1, t24.h0_2⟩ : QK)).bind fun o_1 =>
 ((zy b00 o_1.b0_1 o_1.b0_2 2).bind fun t27 =>
 if t27.r0 = true then
 ((ix course2 o_1.s10.after).bind fun t31 =>
 (subc (c1.fords.length : Int) 1).bind fun t37 =>
 (jV b00 t27.h0_1 t27.h0_2 t37).bind fun t38 =>
 (ix t31 t38.r0).bind fun t39 =>
 some (⟨t38.h0_1, t38.h0_2, t39⟩ : J3)) else
 (some (⟨t27.h0_1, t27.h0_2, o_1.s10.cell⟩ : J3))).bind fun o_2 =>
 (ix course2 o_1.s10.after).bind fun t45 =>
 (jE t45 o_2.s10_cell).bind fun t49 =>
 (appc 24 s.out9 [(⟨o_1.s10.after, o_2.s10_cell, t49⟩ : Sight)]).bind fun t54 =>
 (addc s.t14 1).bind fun t55 =>
 some (.inl (⟨t55, o_2.b0_1, o_2.b0_2, t54⟩ : qc))) else
 (some (.inr (⟨s.b0_1, s.b0_2, s.out9⟩ : zK)))
def qX (b00 : (List Int)) (b01 : Int) (b02 : Int) (c1 : Channel) (course2 : (List (List Int))) (most3 : Int) : Option yk :=
 (jV b00 b01 b02 most3).bind fun t13 =>
 (iterM FU (qU t13 c1 b00 course2) (⟨0, t13.h0_1, t13.h0_2, []⟩ : qc)).bind fun o =>
 some (⟨o.b0_1, o.b0_2, o.out9⟩ : yk)
theorem Ys (b00 : (List Int)) (b01 : Int) (b02 : Int) (c1 : Channel) (course2 : (List (List Int))) (most3 : Int) (pb : Nat) (qa0 : Option Addr) (na0 ca0 : Nat) (qa1 : Option Addr) (na1 ca1 : Nat) (qa2 : Option Addr) (na2 ca2 : Nat) (qa3 : Option Addr) (na3 ca3 : Nat) (qa4 : Option Addr) (na4 ca4 : Nat) (ar4 : List AL) (w : World) (hw : HV w (keys [kc pb #[.slice qa0 na0 ca0, .int .i64 b01, .int .u32 b02] 199] []) [kc pb #[.slice qa0 na0 ca0, .int .i64 b01, .int .u32 b02] 199] [] [(aB qa0, aO qa0, RU8.enc b00), (aB qa1, aO qa1, RI.enc c1.fords), (aB qa2, aO qa2, RSa.enc c1.sands), (aB qa3, aO qa3, RSi.enc c1.sights), (aB qa4, aO qa4, RwA.enc ar4)] w) (hna0 : b00.length = na0) (hqa0 : AOK na0 qa0) (hla0 : na0 ≤ ca0) (hna1 : c1.fords.length = na1) (hqa1 : AOK na1 qa1) (hla1 : na1 ≤ ca1) (hna2 : c1.sands.length = na2) (hqa2 : AOK na2 qa2) (hla2 : na2 ≤ ca2) (hna3 : c1.sights.length = na3) (hqa3 : AOK na3 qa3) (hla3 : na3 ≤ ca3) (hna4 : course2.length = na4) (hqa4 : AOK na4 qa4) (hla4 : na4 ≤ ca4) (hda4 : DRO course2 ar4) (hTa4 : ∀ t, t ∈ rsg RI course2 ar4 → segOK w t ∧ (t.2.2 ≠ [] → t.1 ∉ keys [kc pb #[.slice qa0 na0 ca0, .int .i64 b01, .int .u32 b02] 199] [])) {res : yk} (hm : qX b00 b01 b02 c1 course2 most3 = some res) :
    Calls Tryz.prog 67 #[ptr pb 0, .agg #[.int .i64 c1.cells, .int .i64 c1.tides, .slice qa1 na1 ca1, .slice qa2 na2 ca2, .slice qa3 na3 ca3], .slice qa4 na4 ca4, .int .i64 most3] w (fun en w' => ∃ l : VL, en = .returned (sL l) ∧ (VOK 3 l.n l.cap (RSi.enc res.r0) l.sp l.q) ∧ HV w (keys [kc pb #[.slice qa0 na0 ca0, .int .i64 b01, .int .u32 b02] 199] []) [kc pb #[.slice qa0 na0 ca0, .int .i64 res.b0_1, .int .u32 res.b0_2] 199] [vL 55 l (RSi.enc res.r0)] [] w') := by
  unfold qX at hm
  refine q5 func67 Y ntmps67 Y (e := [(0, _), (1, _), (2, _), (3, _)]) Y hw (jr ?_)
  refine jK Y Y (fun b h2 => ?_)
  refine jc Y Y Y (fun _ _ => ye Y) (kY (jc Y Y Y (fun _ _ => ye Y) (jq (ji (jr (jh Y Y (jh Y Y ?_)))))))
  obtain ⟨t13, h3, hm⟩ := bindO hm
  refine ka (S' := [_, _]) (vs' := []) [1, 0] [] 0 Y Y Y Y ?_
  refine jd [_] [] Y Y Y Y Y Y Y call146 (fun w hh => kd b00 b01 b02 most3 pb qa0 na0 ca0 w (HV.callee (S0 := [_]) (vs0 := []) hh (roR hh 0 Y roN)) hna0 hqa0 hla0 h3) (fun l h4 => ?_)
  refine ka (S' := [_, _]) (vs' := []) [0, 1] [] 0 Y Y Y Y (jh Y Y (jq (zS 55 ?_)))
  obtain ⟨o, h5, h6⟩ := bindO hm
  refine jU (ι := VL) (fun l_1 => VOK 3 l_1.n l_1.cap (RSi.enc o.out9) l_1.sp l_1.q) (fun l_1 => [(9, sL l_1)]) (fun l_1 => [kc pb #[.slice qa0 na0 ca0, .int .i64 o.b0_1, .int .u32 o.b0_2] 199, kc b #[.int .i64 c1.cells, .int .i64 c1.tides, .slice qa1 na1 ca1, .slice qa2 na2 ca2, .slice qa3 na3 ca3] 26]) (fun l_1 => [vL 55 l_1 (RSi.enc o.out9)]) ?_ ?_
  ·replace hm := h5
   refine jn ?_
   refine j5 (ι := VL) hm (fun s l_2 => VOK 3 l_2.n l_2.cap (RSi.enc s.out9) l_2.sp l_2.q) (fun s l_2 => [(0, ptr pb 0), (2, .slice qa4 na4 ca4), (5, ptr b 0), (9, sL l_2), (13, .int .i64 t13.r0), (14, .int .i64 s.t14)]) (fun s l_2 => [kc pb #[.slice qa0 na0 ca0, .int .i64 s.b0_1, .int .u32 s.b0_2] 199, kc b #[.int .i64 c1.cells, .int .i64 c1.tides, .slice qa1 na1 ca1, .slice qa2 na2 ca2, .slice qa3 na3 ca3] 26]) (fun s l_2 => [vL 55 l_2 (RSi.enc s.out9)]) ⟨none, 0, 0, []⟩ (VOK.nil) (sE Y) (fun w hh => hh) (fun s l_2 r hpl hm h9 => ?_)
   have h8 := hpl
   unfold qU at hm
   refine jr (Kk Y Y Y (jq (ji ?_)))
   refine jt Y (fun h10 => ?_) (fun h10 => ?_)
   ·replace hm := ifD h10 hm
    refine js (ja (ji (jn (ji ?_))))
    obtain ⟨o_1, h11, h12⟩ := bindO hm
    refine jU (ι := Nat) (fun l_3 => True) (fun l_3 => [(0, ptr pb 0), (2, .slice qa4 na4 ca4), (5, ptr b 0), (9, sL l_2), (10, ptr l_3 0), (13, .int .i64 t13.r0), (14, .int .i64 s.t14)]) (fun l_3 => [kc pb #[.slice qa0 na0 ca0, .int .i64 o_1.b0_1, .int .u32 o_1.b0_2] 199, kc b #[.int .i64 c1.cells, .int .i64 c1.tides, .slice qa1 na1 ca1, .slice qa2 na2 ca2, .slice qa3 na3 ca3] 26, kc l_3 #[.int .i64 o_1.s10.after, .int .i64 o_1.s10.cell, .bool o_1.s10.upright] 55]) (fun l_3 => [vL 55 l_2 (RSi.enc s.out9)]) ?_ ?_
    ·replace hm := h11
     obtain ⟨t23, h13, hm⟩ := bindO hm
     obtain ⟨t19, h14, hm⟩ := bindO hm
     obtain ⟨t24, h15, hm⟩ := bindO hm
     refine kM none (.free 0 (.free 1 (.hoist 2 (.free 4 (.free 5 (.hoist 6 (.free 7 (.br (.alt 3 (.br (.alt 8 (.free 9 (.one 10 (.one 11 .done))) (.alt 10 (.one 8 (.free 9 (.one 11 .done))) .nil))) (.alt 10 (.one 3 (.one 8 (.free 9 (.one 11 .done)))) .nil)))))))))) (HV _ _ [kc b #[.int .i64 c1.cells, .int .i64 c1.tides, .slice qa1 na1 ca1, .slice qa2 na2 ca2, .slice qa3 na3 ca3] 26] [vL 55 l_2 (RSi.enc s.out9)] _) Y (by decide +kernel) (fun w k hh => hh.draw k) (hsE [1] [0] 0 Y Y Y Y) ?_
     refine za Y Y Y (KH 1 runUnderlying26 sizeOf3 Y Y Y Y (K2 0 isAgg3 Y Y Y Y Y (za Y Y Y (KH 0 runUnderlying26 sizeOf3 Y Y Y Y (K2 0 isAgg3 Y Y Y Y Y (jp Y Y Y Y (fun _ _ => zH h13 Y Y) (ZH ?_)))))))
     refine zF Y ?_ ?_
     ·refine jd [_] [] Y Y Y Y Y Y Y call146 (fun w hh => kd b00 s.b0_1 s.b0_2 c1.tides pb qa0 na0 ca0 w (HV.callee (S0 := [_]) (vs0 := []) hh (roR hh 0 Y roN)) hna0 hqa0 hla0 h14) (fun l_4 h16 => ?_)
      refine ka (S' := [_, _]) (vs' := [_]) [0, 1] [0] 0 Y Y Y Y (jm (hsE [1] [0] 0 Y Y Y Y) (ZH ?_))
      refine zF Y ?_ ?_
      ·refine jd [_] [] Y Y Y Y Y Y Y call146 (fun w hh => kd b00 t19.h0_1 t19.h0_2 t23 pb qa0 na0 ca0 w (HV.callee (S0 := [_]) (vs0 := []) hh (roR hh 0 Y roN)) hna0 hqa0 hla0 h15) (fun l_5 h17 => ?_)
       refine ka (S' := [_, _]) (vs' := [_]) [0, 1] [0] 0 Y Y Y Y (jm (hsE [1] [0] 0 Y Y Y Y) (jp Y Y Y Y (fun _ _ => qe (vs := [(0, _), (1, _)]) (cells := [_, _, _]) Y Y) (jC Y ?_)))
       refine jv (fun w => zeroValue55 w) Y (fun b_1 h18 => ?_)
       refine jm (hsE [2] [0] 0 Y Y Y Y) (jC Y (kQ (us := #[_, _, _]) (cs' := [_, _, _]) (S' := [_, _, _]) 0 (fun w => sizeOf55 w) Y Y Y Y Y Y Y (jm (hsE [2] [0] 0 Y Y Y Y) (jQ ?_))))
       obtain rfl := sj hm
       exact jl b_1 (trivial) (sE Y) (hsE [1, 2, 0] [0] 0 Y Y Y Y)
      refine zF Y ?_ ?_
      refine jv (fun w => zeroValue55 w) Y (fun b_2 h19 => ?_)
      refine jm (hsE [2] [0] 0 Y Y Y Y) (jC Y (ka (S' := [_, _, _]) (vs' := [_]) [1, 0, 2] [0] 0 Y Y Y Y ?_))
      refine jd [_] [] Y Y Y Y Y Y Y call146 (fun w hh => kd b00 t19.h0_1 t19.h0_2 t23 pb qa0 na0 ca0 w (HV.callee (S0 := [_]) (vs0 := []) hh (roR hh 0 Y roN)) hna0 hqa0 hla0 h15) (fun l_6 h20 => ?_)
      refine ka (S' := [_, _, _]) (vs' := [_]) [0, 1, 2] [0] 0 Y Y Y Y (jm (hsE [2] [0] 0 Y Y Y Y) (jp Y Y Y Y (fun _ _ => qe (vs := [(0, _), (1, _)]) (cells := [_, _, _]) Y Y) (jC Y (kQ (us := #[_, _, _]) (cs' := [_, _, _]) (S' := [_, _, _]) 1 (fun w => sizeOf55 w) Y Y Y Y Y Y Y (jm (hsE [2] [0] 0 Y Y Y Y) (jQ ?_))))))
      obtain rfl := sj hm
      exact jl b_2 (trivial) (sE Y) (hsE [0, 2, 1] [0] 0 Y Y Y Y)
      exact QC
     refine zF Y ?_ ?_
     refine jv (fun w => zeroValue55 w) Y (fun b_3 h21 => ?_)
     refine jm (hsE [2] [0] 0 Y Y Y Y) (jC Y (ka (S' := [_, _, _]) (vs' := [_]) [1, 0, 2] [0] 0 Y Y Y Y ?_))
     refine jd [_] [] Y Y Y Y Y Y Y call146 (fun w hh => kd b00 s.b0_1 s.b0_2 c1.tides pb qa0 na0 ca0 w (HV.callee (S0 := [_]) (vs0 := []) hh (roR hh 0 Y roN)) hna0 hqa0 hla0 h14) (fun l_7 h22 => ?_)
     refine ka (S' := [_, _, _]) (vs' := [_]) [0, 1, 2] [0] 0 Y Y Y Y (jm (hsE [2] [0] 0 Y Y Y Y) (jC Y ?_))
     refine jd [_] [] Y Y Y Y Y Y Y call146 (fun w hh => kd b00 t19.h0_1 t19.h0_2 t23 pb qa0 na0 ca0 w (HV.callee (S0 := [_]) (vs0 := []) hh (roR hh 0 Y roN)) hna0 hqa0 hla0 h15) (fun l_8 h23 => ?_)
     refine ka (S' := [_, _, _]) (vs' := [_]) [0, 1, 2] [0] 0 Y Y Y Y (jm (hsE [2] [0] 0 Y Y Y Y) (jp Y Y Y Y (fun _ _ => qe (vs := [(0, _), (1, _)]) (cells := [_, _, _]) Y Y) (jC Y (kQ (us := #[_, _, _]) (cs' := [_, _, _]) (S' := [_, _, _]) 1 (fun w => sizeOf55 w) Y Y Y Y Y Y Y (jm (hsE [2] [0] 0 Y Y Y Y) (jQ ?_))))))
     obtain rfl := sj hm
     exact jl b_3 (trivial) (sE Y) (hsE [0, 2, 1] [0] 0 Y Y Y Y)
     exact QC
    intro l_3 hj
    replace hm := h12
    refine ja (ji ?_)
    obtain ⟨o_2, h24, h25⟩ := bindO hm
    refine jU (ι := Unit) (fun l_9 => True) (fun l_9 => [(0, ptr pb 0), (2, .slice qa4 na4 ca4), (5, ptr b 0), (9, sL l_2), (10, ptr l_3 0), (13, .int .i64 t13.r0), (14, .int .i64 s.t14)]) (fun l_9 => [kc pb #[.slice qa0 na0 ca0, .int .i64 o_2.b0_1, .int .u32 o_2.b0_2] 199, kc b #[.int .i64 c1.cells, .int .i64 c1.tides, .slice qa1 na1 ca1, .slice qa2 na2 ca2, .slice qa3 na3 ca3] 26, kc l_3 #[.int .i64 o_1.s10.after, .int .i64 o_2.s10_cell, .bool o_1.s10.upright] 55]) (fun l_9 => [vL 55 l_2 (RSi.enc s.out9)]) ?_ ?_
    ·replace hm := h24
     refine jr (jh Y Y ?_)
     obtain ⟨t27, h26, hm⟩ := bindO hm
     refine jd [_] [] Y Y Y Y Y Y Y call68 (fun w hh => Q7 b00 o_1.b0_1 o_1.b0_2 2 pb qa0 na0 ca0 w (HV.callee (S0 := [_]) (vs0 := []) hh (roR hh 0 Y roN)) hna0 hqa0 hla0 h26) (fun l_10 h27 => ?_)
     refine ka (S' := [_, _, _]) (vs' := [_]) [0, 1, 2] [0] 0 Y Y Y Y (jq ?_)
     refine jt Y (fun h28 => ?_) (fun h28 => ?_)
     ·replace hm := ifT (h28) hm
      refine kM (some 14) (.free 0 (.free 1 (.hoist 2 (.free 3 (.hoist 4 (.free 5 (.free 6 (.hoist 7 (.free 8 (.free 9 (.one 10 (.free 11 (.hoist 12 (.free 13 (.last 14 .done))))))))))))))) (HV _ _ [kc b #[.int .i64 c1.cells, .int .i64 c1.tides, .slice qa1 na1 ca1, .slice qa2 na2 ca2, .slice qa3 na3 ca3] 26, kc l_3 #[.int .i64 o_1.s10.after, .int .i64 o_1.s10.cell, .bool o_1.s10.upright] 55] [vL 55 l_2 (RSi.enc s.out9)] _) Y (by decide +kernel) (fun w k hh => hh.draw k) (hsE [1, 2] [0] 0 Y Y Y Y) ?_
      refine za Y Y Y (KH 0 runUnderlying55 sizeOf3 Y Y Y Y (K2 1 isAgg3 Y Y Y Y Y ?_))
      obtain ⟨t31, h29, hm⟩ := bindO hm
      obtain ⟨A, h30, h31, h32, h33⟩ := (hda4).row h29
      refine jp Y Y Y Y (fun w _ => Jf h30 (runUnderlying41 w) (sizeOf22 w) Y Y (Eq.trans (hda4).len.symm hna4) hqa4) (jz Y Y Y Y (fun w hh => zN RwA 0 h30 (isAgg22 w) Y (hh.seg 4 Y) Y (Nat.add_zero _).symm) (za Y Y Y (KH 2 runUnderlying26 sizeOf22 Y Y Y Y (K2 0 isAgg22 Y Y Y Y Y (jp Y Y Y Y (fun w _ => k6 hna1 (runUnderlying22 w) Y) ?_)))))
      obtain ⟨t37, h34, hm⟩ := bindO hm
      refine jp Y Y Y Y (fun _ _ => zH h34 Y Y) (jC Y ?_)
      obtain ⟨t38, h35, hm⟩ := bindO hm
      refine jd [_] [] Y Y Y Y Y Y Y call146 (fun w hh => kd b00 t27.h0_1 t27.h0_2 t37 pb qa0 na0 ca0 w (HV.callee (S0 := [_]) (vs0 := []) hh (roR hh 0 Y roN)) hna0 hqa0 hla0 h35) (fun l_11 h36 => ?_)
      refine ka (S' := [_, _, _]) (vs' := [_]) [0, 1, 2] [0] 0 Y Y Y Y (jm (hsE [1, 2] [0] 0 Y Y Y Y) ?_)
      obtain ⟨t39, h37, hm⟩ := bindO hm
      refine jp Y Y Y Y (fun w _ => Jf h37 (runUnderlying22 w) (sizeOf3 w) Y Y h31 h32) (jz Y Y Y Y (fun w hh => zN RI 0 h37 (isAgg3 w) Y (hh.oldseg (hTa4 _ (rsg_ix h29 h30))) Y (Nat.add_zero _).symm) (KH 1 runUnderlying55 sizeOf3 Y Y Y Y (Y1 Y (q6 (cs' := #[_, _, _]) (S' := [_, _, _]) 2 (fun w => sizeOf3 w) Y Y Y Y Y Y Y (Yi (jQ ?_))))))
      obtain rfl := sj hm
      exact jl () (trivial) (sE Y) (fun w hh => hh)
     replace hm := ifN h28 hm
     refine js ?_
     obtain rfl := sj hm
     exact jl () (trivial) (sE Y) (fun w hh => hh)
    intro l_9 hj
    replace hm := h25
    refine ja (ji ?_)
    refine kM (some 9) (.free 0 (.free 1 (.hoist 2 (.free 3 (.hoist 4 (.free 5 (.hoist 6 (.one 7 (.free 8 (.last 9 .done)))))))))) _ Y (by decide +kernel) (fun w k hh => hh.draw k) (fun w hh => hh) ?_
    refine za Y Y Y (KH 0 runUnderlying55 sizeOf3 Y Y Y Y (K2 2 isAgg3 Y Y Y Y Y ?_))
    obtain ⟨t45, h38, hm⟩ := bindO hm
    obtain ⟨A_1, h39, h40, h41, h42⟩ := (hda4).row h38
    refine jp Y Y Y Y (fun w _ => Jf h39 (runUnderlying41 w) (sizeOf22 w) Y Y (Eq.trans (hda4).len.symm hna4) hqa4) (jz Y Y Y Y (fun w hh => zN RwA 0 h39 (isAgg22 w) Y (hh.seg 4 Y) Y (Nat.add_zero _).symm) (KH 1 runUnderlying55 sizeOf3 Y Y Y Y (K2 2 isAgg3 Y Y Y Y Y (jC Y ?_))))
    obtain ⟨t49, h43, hm⟩ := bindO hm
    refine jd [] [] Y Y Y Y Y Y Y call64 (fun w hh => kr t45 o_2.s10_cell A_1.a A_1.n A_1.cap w (HV.callee (S0 := []) (vs0 := []) hh (roC (hh.oldsep (S0 := []) (vs0 := []) (hTa4 _ (rsg_ix h38 h39))) roN)) h40 h41 h42 h43) (fun l_12 h44 => ?_)
    refine jm (fun w hh => hh) (KH 2 runUnderlying55 sizeOf4 Y Y Y Y (Y1 Y (q6 (cs' := #[_, _, _]) (S' := [_, _, _]) 2 (fun w => sizeOf4 w) Y Y Y Y Y Y Y (Yi (jQ (ja (jg ?_)))))))
    refine jh Y Y (Jy [_, _, _] 2 isAgg55 sizeOf55 Y Y Y Y ?_)
    refine qw RSi [(⟨o_1.s10.after, o_2.s10_cell, t49⟩ : Sight)] (ps := [(0, _)]) (cells := [_, _, _]) (fun w => runUnderlying24 w) (fun w => sizeOf55 w) (fun w => zeroValue55 w) Y Y Y Y Y Y Y Y (fun L h45 => ?_)
    obtain ⟨t54, h46, hm⟩ := bindO hm
    refine zR RSi 1 h46 underlying24 ZW Y Y Y Y Y h8 Y Y (vlen RSi h45 Y) (AOK.q (vne h45)) (fun w hh => (hh.vsegA 0 Y h45)) Y (fun L_1 h47 h47n => ?_)
    refine ka (S' := [_, _, _]) (vs' := [_, _]) [0, 1, 2] [0, 1] 0 Y Y Y Y (jo Y Y (jx (jw (ja (jg ?_)))))
    obtain ⟨t55, h48, hm⟩ := bindO hm
    refine Ki h48 Y Y Y (jh Y Y (jx ?_))
    obtain rfl := sj hm
    refine ja ?_
    exact jL _ L_1 Y (h47) (sE Y) (hsE [0, 1] [1] 0 Y Y Y Y)
   replace hm := ifE h10 hm
   refine ks (jk (jk (jM ?_)))
   obtain rfl := sj hm
   have hbo := h9 _ Y
   subst hbo
   exact jl l_2 (h8) (sE Y) (fun w hh => hh)
  intro l_1 hj
  have h7 := hj
  replace hm := h6
  refine ja (jr (jh Y Y (jo Y Y (jq (ju ?_)))))
  obtain rfl := sj hm
  refine jj Y (fun w hh => (.tmp Y .nil)) (fun w hh => ⟨l_1, rfl, h7, hh.se [0] [0] 5 Y Y Y rfl⟩)
end Go.Proofs.Wb

namespace Go.Proofs.Wb
set_option maxHeartbeats 4000000
set_option maxRecDepth 100000
open Go Go.Fw Go.Gx Go.Sb
open Tryz
set_option linter.unusedVariables false

def yh (d00 : Int) (d01 : Int) (d02 : (List Int)) (d03 : (List Sand)) (d04 : (List Sight)) (d05 : (List Int)) : Option Bool :=
 (qH d00 d01 d02 d03 d04 d05).bind fun t7 =>
 (jD d00 d01 d02 d03 d04 d05).bind fun t9 =>
 some (decide (0 < ((aget t7 t9).getD 0)))
theorem QX (d00 : Int) (d01 : Int) (d02 : (List Int)) (d03 : (List Sand)) (d04 : (List Sight)) (d05 : (List Int)) (rb : Nat) (qa1 : Option Addr) (na1 ca1 : Nat) (qa2 : Option Addr) (na2 ca2 : Nat) (qa3 : Option Addr) (na3 ca3 : Nat) (qa4 : Option Addr) (na4 ca4 : Nat) (w : World) (hw : HV w (keys [] []) [] [] [(rb, 0, [.int .i64 d00, .int .i64 d01, .slice qa1 na1 ca1, .slice qa2 na2 ca2, .slice qa3 na3 ca3, .slice qa4 na4 ca4]), (aB qa1, aO qa1, RI.enc d02), (aB qa2, aO qa2, RSa.enc d03), (aB qa3, aO qa3, RSi.enc d04), (aB qa4, aO qa4, RI.enc d05)] w)  (hna1 : d02.length = na1) (hqa1 : AOK na1 qa1) (hla1 : na1 ≤ ca1) (hna2 : d03.length = na2) (hqa2 : AOK na2 qa2) (hla2 : na2 ≤ ca2) (hna3 : d04.length = na3) (hqa3 : AOK na3 qa3) (hla3 : na3 ≤ ca3) (hna4 : d05.length = na4) (hqa4 : AOK na4 qa4) (hla4 : na4 ≤ ca4) {res : Bool} (hm : yh d00 d01 d02 d03 d04 d05 = some res) :
    Calls Tryz.prog 121 #[ptr rb 0, .agg #[.func (.func 172) #[] #[]]] w (fun en w' => ∃ l : Unit, en = .returned (.bool res) ∧ (True) ∧ HV w (keys [] []) [] [] [] w') := by
  unfold yh at hm
  refine q5 func121 Y ntmps121 Y (e := [(0, _), (1, _)]) Y hw (jr ?_)
  refine jK Y Y (fun b h1 => ?_)
  refine jo Y Y (kY (jh Y Y (Jy [_] 0 isAgg181 sizeOf181 Y Y Y Y ?_)))
  obtain ⟨t7, h2, hm⟩ := bindO hm
  refine jd [] [] Y Y Y Y Y Y Y call159 (fun w hh => JV d00 d01 d02 d03 d04 d05 rb qa1 na1 ca1 qa2 na2 ca2 qa3 na3 ca3 qa4 na4 ca4 w (HV.callee (S0 := []) (vs0 := []) hh (roR hh 0 Y (roR hh 1 Y (roR hh 2 Y (roR hh 3 Y (roR hh 4 Y roN)))))) hna1 hqa1 hla1 hna2 hqa2 hla2 hna3 hqa3 hla3 hna4 hqa4 hla4 h2) (fun l h3 => ?_)
  refine ka (S' := [_, _]) (vs' := []) [0, 1] [] 0 Y Y Y Y (jh Y Y ?_)
  obtain ⟨t9, h4, hm⟩ := bindO hm
  refine jd [] [] Y Y Y Y Y Y Y call99 (fun w hh => jW d00 d01 d02 d03 d04 d05 rb qa1 na1 ca1 qa2 na2 ca2 qa3 na3 ca3 qa4 na4 ca4 w (HV.callee (S0 := []) (vs0 := []) hh (roR hh 0 Y (roR hh 1 Y (roR hh 2 Y (roR hh 3 Y (roR hh 4 Y roN)))))) hna1 hqa1 hla1 hna2 hqa2 hla2 hna3 hqa3 hla3 hna4 hqa4 hla4 h4) (fun l_1 h5 => ?_)
  refine jc Y Y Y (fun w hh => Qm (k := t9) (z := 0) (runUnderlying153 w) yx (zeroValue3 w) Y Y (hh.mget 0 Y)) (jc Y Y Y (fun _ _ => Zh Y Y) (jo Y Y (jq (ju ?_))))
  obtain rfl := sj hm
  refine jj Y (fun w hh => (.tmp Y .nil)) (fun w hh => ⟨(), rfl, trivial, hh.se [] [] 5 Y Y Y rfl⟩)
def zn (sights0 : (List Int)) : Option Unit :=
 some ()
theorem QN (sights0 : (List Int)) (qa0 : Option Addr) (na0 ca0 : Nat) (w : World) (hw : HV w (keys [] []) [] [] [(aB qa0, aO qa0, RI.enc sights0)] w) (hna0 : sights0.length = na0) (hqa0 : AOK na0 qa0) (hla0 : na0 ≤ ca0) {res : Unit} (hm : zn sights0 = some res) :
    Calls Tryz.prog 122 #[.slice qa0 na0 ca0] w (fun en w' => ∃ l : Nat, en = .returned (.agg #[.func (.func 171) #[] #[ptr l 0]]) ∧ (True) ∧ HV w (keys [] []) [kc l #[.slice qa0 na0 ca0] 22] [] [] w') := by
  unfold zn at hm
  refine q5 func122 Y ntmps122 Y (e := [(0, _)]) Y hw (jr ?_)
  refine jK Y Y (fun b h1 => ?_)
  refine jv (fun w => zeroValue181 w) Y (fun b_1 h2 => ?_)
  refine kY (jc Y Y Y (fun _ _ => jX (u := #[]) (u' := #[_]) Y Y) (jc Y Y Y (fun _ _ => qe (vs := [(0, _)]) (cells := [_]) Y Y) (kQ (us := #[_]) (cs' := [_]) (S' := [_, _]) 0 (fun w => sizeOf181 w) Y Y Y Y Y Y Y (jq (ju ?_)))))
  obtain rfl := sj hm
  refine jj Y (fun w hh => (.cell Y (loadVar_agg (vs := [_]) (isAgg181 _) (sizeOf181 _) (hh.cells 0 Y Y)) .nil)) (fun w hh => ⟨b, rfl, trivial, hh.se [1] [] 1 Y Y Y rfl⟩)
def Jb (i0 : Int) (a11 : (List Int)) : Option Bool :=
 (jE a11 i0).bind fun t6 =>
 some t6
theorem Zi (i0 : Int) (a11 : (List Int)) (rb : Nat) (qa1 : Option Addr) (na1 ca1 : Nat) (w : World) (hw : HV w (keys [] []) [] [] [(rb, 0, [.slice qa1 na1 ca1]), (aB qa1, aO qa1, RI.enc a11)] w)  (hna1 : a11.length = na1) (hqa1 : AOK na1 qa1) (hla1 : na1 ≤ ca1) {res : Bool} (hm : Jb i0 a11 = some res) :
    Calls Tryz.prog 171 #[.int .i64 i0, ptr rb 0] w (fun en w' => ∃ l : Unit, en = .returned (.bool res) ∧ (True) ∧ HV w (keys [] []) [] [] [] w') := by
  unfold Jb at hm
  refine q5 func171 Y ntmps171 Y (e := [(0, _), (1, _)]) Y hw (jr (jo Y Y (kY (jc Y Y Y (fun w hh => jy (isAgg22 w) Y (segCell (hh.seg 0 Y) 0 Y)) (jh Y Y ?_)))))
  obtain ⟨t6, h1, hm⟩ := bindO hm
  refine jd [] [] Y Y Y Y Y Y Y call64 (fun w hh => kr a11 i0 qa1 na1 ca1 w (HV.callee (S0 := []) (vs0 := []) hh (roR hh 1 Y roN)) hna1 hqa1 hla1 h1) (fun l h2 => ?_)
  refine jo Y Y (jq (ju ?_))
  obtain rfl := sj hm
  refine jj Y (fun w hh => (.tmp Y .nil)) (fun w hh => ⟨(), rfl, trivial, hh.se [] [] 2 Y Y Y rfl⟩)
def qv (d04 : (List Sight)) (s2 : State) (f1_0_c0 : (List Int)) (d00 : Int) (d01 : Int) (d02 : (List Int)) (d03 : (List Sand)) (d05 : (List Int)) (s : Int) : Option (Int ⊕ (Unit ⊕ Bool)) :=
 if s < (d04.length : Int) then
 ((ix d04 s).bind fun t18 =>
 (if t18.after = s2.after then
 ((Jb s f1_0_c0).bind fun t29 =>
 if t29 = true then
 ((kV d00 d01 d02 d03 d04 d05 s2).bind fun t34 =>
 (jE t34 t18.cell).bind fun t37 =>
 some (!(t37 == t18.upright))) else
 (some false)) else
 (some false)).bind fun o_1 =>
 if o_1 = true then
 (some (.inr (.inr false))) else
 ((addc s 1).bind fun t42 =>
 some (.inl t42))) else
 (some (.inr (.inl ())))
def yd (d00 : Int) (d01 : Int) (d02 : (List Int)) (d03 : (List Sand)) (d04 : (List Sight)) (d05 : (List Int)) (f1_0_c0 : (List Int)) (s2 : State) : Option Bool :=
 (iterM FU (qv d04 s2 f1_0_c0 d00 d01 d02 d03 d05) 0).bind fun o =>
 oc o (fun j => some true) (fun r_1 => some r_1)
theorem QY (d00 : Int) (d01 : Int) (d02 : (List Int)) (d03 : (List Sand)) (d04 : (List Sight)) (d05 : (List Int)) (f1_0_c0 : (List Int)) (s2 : State) (rb : Nat) (qa1 : Option Addr) (na1 ca1 : Nat) (qa2 : Option Addr) (na2 ca2 : Nat) (qa3 : Option Addr) (na3 ca3 : Nat) (qa4 : Option Addr) (na4 ca4 : Nat) (rb_1 : Nat) (qa6 : Option Addr) (na6 ca6 : Nat) (w : World) (hw : HV w (keys [] []) [] [] [(rb, 0, [.int .i64 d00, .int .i64 d01, .slice qa1 na1 ca1, .slice qa2 na2 ca2, .slice qa3 na3 ca3, .slice qa4 na4 ca4]), (aB qa1, aO qa1, RI.enc d02), (aB qa2, aO qa2, RSa.enc d03), (aB qa3, aO qa3, RSi.enc d04), (aB qa4, aO qa4, RI.enc d05), (rb_1, 0, [.slice qa6 na6 ca6]), (aB qa6, aO qa6, RI.enc f1_0_c0)] w)  (hna1 : d02.length = na1) (hqa1 : AOK na1 qa1) (hla1 : na1 ≤ ca1) (hna2 : d03.length = na2) (hqa2 : AOK na2 qa2) (hla2 : na2 ≤ ca2) (hna3 : d04.length = na3) (hqa3 : AOK na3 qa3) (hla3 : na3 ≤ ca3) (hna4 : d05.length = na4) (hqa4 : AOK na4 qa4) (hla4 : na4 ≤ ca4)  (hna6 : f1_0_c0.length = na6) (hqa6 : AOK na6 qa6) (hla6 : na6 ≤ ca6) {res : Bool} (hm : yd d00 d01 d02 d03 d04 d05 f1_0_c0 s2 = some res) :
    Calls Tryz.prog 143 #[ptr rb 0, .agg #[.func (.func 171) #[] #[ptr rb_1 0]], .agg #[.int .i64 s2.after, .int .i64 s2.at_.c0, .int .i64 s2.at_.c1, .int .i64 s2.at_.c2]] w (fun en w' => ∃ l : Unit, en = .returned (.bool res) ∧ (True) ∧ HV w (keys [] []) [] [] [] w') := by
  unfold yd at hm
  refine q5 func143 Y ntmps143 Y (e := [(0, _), (1, _), (2, _)]) Y hw (jr ?_)
  refine jK Y Y (fun b h1 => ?_)
  refine jK Y Y (fun b_1 h2 => ?_)
  refine jo Y Y (jq (ji (jr (jh Y Y (jc Y Y Y (fun _ _ => jR Y) (yJ 0 runUnderlying175 Y sizeOf26 Y Y (yJ 4 runUnderlying26 Y sizeOf24 Y Y ?_)))))))
  refine jc Y Y Y (fun w hh => jy (isAgg24 w) Y (segCell (hh.seg 0 Y) 4 Y)) (jc Y Y Y (fun w _ => k6 hna3 (runUnderlying24 w) Y) (jh Y Y (jq ?_)))
  obtain ⟨o, h3, h4⟩ := bindO hm
  refine jU (ι := Unit) (fun j => o = .inl j) (fun j => []) (fun j => [kc b_1 #[.int .i64 s2.after, .int .i64 s2.at_.c0, .int .i64 s2.at_.c1, .int .i64 s2.at_.c2] 159, kc b #[.func (.func 171) #[] #[ptr rb_1 0]] 181]) (fun j => []) ?_ ?_
  ·replace hm := h3
   refine jn ?_
   refine j5 (ι := Unit) hm (fun s l => True) (fun s l => [(0, ptr rb 0), (4, ptr b 0), (5, ptr b_1 0), (13, .slice qa3 na3 ca3), (14, .int .i64 (d04.length : Int)), (15, .int .i64 s)]) (fun s l => [kc b_1 #[.int .i64 s2.after, .int .i64 s2.at_.c0, .int .i64 s2.at_.c1, .int .i64 s2.at_.c2] 159, kc b #[.func (.func 171) #[] #[ptr rb_1 0]] 181]) (fun s l => []) () (trivial) (sE Y) (fun w hh => hh) (fun s l r hpl hm h5 => ?_)
   unfold qv at hm
   refine jr (Kk Y Y Y (jq (ji ?_)))
   refine jt Y (fun h6 => ?_) (fun h6 => ?_)
   ·replace hm := ifD h6 hm
    refine js (ja (ji (jn (jr (jh Y Y ?_)))))
    obtain ⟨t18, h7, hm⟩ := bindO hm
    refine jc Y Y Y (fun w _ => Jf h7 (runUnderlying24 w) (sizeOf55 w) Y Y hna3 hqa3) ?_
    refine jc Y Y Y (fun w hh => Kj RSi 0 [.int .i64 t18.after, .int .i64 t18.cell, .bool t18.upright] h7 (isAgg55 w) (sizeOf55 w) Y (hh.seg 3 Y) Y (Nat.add_zero _).symm) ?_
    refine jv (fun w => zeroValue55 w) Y (fun b_2 h8 => ?_)
    refine jo Y Y (kQ (us := #[_, _, _]) (cs' := [_, _, _]) (S' := [_, _, _]) 0 (fun w => sizeOf55 w) Y Y Y Y Y Y Y (jq (ji ?_)))
    obtain ⟨o_1, h9, h10⟩ := bindO hm
    refine jU (ι := Unit) (fun l_1 => True) (fun l_1 => [(0, ptr rb 0), (4, ptr b 0), (5, ptr b_1 0), (13, .slice qa3 na3 ca3), (14, .int .i64 (d04.length : Int)), (15, .int .i64 s), (41, .bool o_1)]) (fun l_1 => [kc b_2 #[.int .i64 t18.after, .int .i64 t18.cell, .bool t18.upright] 55, kc b_1 #[.int .i64 s2.after, .int .i64 s2.at_.c0, .int .i64 s2.at_.c1, .int .i64 s2.at_.c2] 159, kc b #[.func (.func 171) #[] #[ptr rb_1 0]] 181]) (fun l_1 => []) ?_ ?_
    ·replace hm := h9
     refine kM none (.free 0 (.hoist 1 (.free 2 (.hoist 3 (.free 4 (.free 5 (.free 6 (.hoist 7 (.free 8 (.one 9 (.free 10 (.free 11 (.free 12 (.hoist 13 (.free 15 (.hoist 16 (.free 18 (.hoist 19 (.one 14 (.one 17 (.free 20 (.free 21 .done)))))))))))))))))))))) _ Y (by decide +kernel) (fun w k hh => hh.draw k) (fun w hh => hh) ?_
     refine KH 0 runUnderlying55 sizeOf3 Y Y Y Y (K2 0 isAgg3 Y Y Y Y Y (KH 0 runUnderlying159 sizeOf3 Y Y Y Y (K2 1 isAgg3 Y Y Y Y Y (jp Y Y Y Y (fun _ _ => zM Y Y) (za Y Y Y ?_)))))
     refine kf 25 Y (fun h11 => ?_) (fun h11 => ?_)
     ·replace hm := ifD h11 hm
      refine qJ Y Y Y Y Y Y (fun w _ => jS 0 (runUnderlying181 w) Y (sizeOf102 w) Y) (Jo Y Y Y Y Y Y (fun w hh => jy (isAgg102 w) Y (hh.cell 2 Y Y)) (qJ Y Y Y Y Y Y (fun _ _ => k9 Y) (jC Y (jb Y Y ?_))))
      obtain ⟨t29, h12, hm⟩ := bindO hm
      refine jd [] [] Y Y Y Y Y Y Y call171 (fun w hh => Zi s f1_0_c0 rb_1 qa6 na6 ca6 w (HV.callee (S0 := []) (vs0 := []) hh (roR hh 5 Y (roR hh 6 Y roN))) hna6 hqa6 hla6 h12) (fun l_2 h13 => ?_)
      refine jm (fun w hh => hh) (jp Y Y Y Y (fun _ _ => Qi Y Y) (za Y Y Y ?_))
      refine kf 31 Y (fun h14 => ?_) (fun h14 => ?_)
      ·replace hm := ifT (h14) hm
       refine qJ Y Y Y Y Y Y (fun _ _ => k9 Y) (Jo Y Y Y Y Y Y (fun w hh => jP (vs := [_, _, _, _]) (isAgg159 w) (sizeOf159 w) Y (hh.cells 1 Y Y)) (qJ Y Y Y Y Y Y (fun w _ => jS 1 (runUnderlying55 w) Y (sizeOf3 w) Y) (Jo Y Y Y Y Y Y (fun w hh => jy (isAgg3 w) Y (hh.cell 0 Y Y)) (qJ Y Y Y Y Y Y (fun w _ => jS 2 (runUnderlying55 w) Y (sizeOf4 w) Y) (Jo Y Y Y Y Y Y (fun w hh => jy (isAgg4 w) Y (hh.cell 0 Y Y)) (jC Y (jb Y Y ?_)))))))
       obtain ⟨t34, h15, hm⟩ := bindO hm
       refine jd [] [] Y Y Y Y Y Y Y call100 (fun w hh => zm d00 d01 d02 d03 d04 d05 s2 rb qa1 na1 ca1 qa2 na2 ca2 qa3 na3 ca3 qa4 na4 ca4 w (HV.callee (S0 := []) (vs0 := []) hh (roR hh 0 Y (roR hh 1 Y (roR hh 2 Y (roR hh 3 Y (roR hh 4 Y roN)))))) hna1 hqa1 hla1 hna2 hqa2 hla2 hna3 hqa3 hla3 hna4 hqa4 hla4 h15) (fun l_3 h16 => ?_)
       have h17 := h16
       refine ka (S' := [_, _, _]) (vs' := [_]) [0, 1, 2] [0] 0 Y Y Y Y (jm (hsE [0, 1, 2] [] 0 Y Y Y Y) (jC Y (jb Y Y ?_)))
       obtain ⟨t37, h18, hm⟩ := bindO hm
       refine jd [] [] Y Y Y Y Y Y Y call64 (fun w hh => kr t34 t18.cell (qA l_3.q) l_3.n l_3.cap w (HV.callee (S0 := []) (vs0 := []) hh (roC (hh.vsepA 0 Y h17) roN)) (vlen RI h17 Y) (AOK.q (vne h17)) (h17).hle h18) (fun l_4 h19 => ?_)
       refine jm (hsE [0, 1, 2] [] 0 Y Y Y Y) (qJ Y Y Y Y Y Y (fun w _ => Qq (runUnderlying4 w) Y Y) (jp Y Y Y Y (fun _ _ => Qi Y Y) (jQ ?_)))
       obtain rfl := sj hm
       exact jl () (trivial) (sE Y) (hsE [0, 1, 2] [] 0 Y Y Y Y)
      replace hm := ifN h14 hm
      refine kx Y Y Y Y Y Y Y (Js Y Y Y Y Y Y Y (kx Y Y Y Y Y Y Y (Js Y Y Y Y Y Y Y (kx Y Y Y Y Y Y Y (Js Y Y Y Y Y Y Y (jC Y (g_k Y Y Y Y ?_)))))))
      refine jm (fun w hh => hh) (jC Y (g_k Y Y Y Y (jm (fun w hh => hh) (kx Y Y Y Y Y Y Y (jp Y Y Y Y (fun _ _ => J9 Y Y) (jQ ?_))))))
      obtain rfl := sj hm
      exact jl () (trivial) (sE Y) (fun w hh => hh)
     replace hm := ifE h11 hm
     refine kx Y Y Y Y Y Y Y (Js Y Y Y Y Y Y Y (kx Y Y Y Y Y Y Y (jC Y (g_k Y Y Y Y (jm (fun w hh => hh) (jp Y Y Y Y (fun _ _ => J9 Y Y) (za Y Y Y ?_)))))))
     refine kx Y Y Y Y Y Y Y (Js Y Y Y Y Y Y Y (kx Y Y Y Y Y Y Y (Js Y Y Y Y Y Y Y (kx Y Y Y Y Y Y Y (Js Y Y Y Y Y Y Y (jC Y (g_k Y Y Y Y ?_)))))))
     refine jm (fun w hh => hh) (jC Y (g_k Y Y Y Y (jm (fun w hh => hh) (kx Y Y Y Y Y Y Y (jp Y Y Y Y (fun _ _ => J9 Y Y) (jQ ?_))))))
     obtain rfl := sj hm
     exact jl () (trivial) (sE Y) (fun w hh => hh)
    intro l_1 hj
    replace hm := h10
    refine ja ?_
    refine jt Y (fun h20 => ?_) (fun h20 => ?_)
    ·replace hm := ifT (h20) hm
     refine jr (jo Y Y (jq (ju (jB (je (je (jB ?_)))))))
     obtain rfl := sj hm
     have hbo := h5 _ Y
     subst hbo
     refine je ?_
     replace hm := ocR h4
     refine je ?_
     obtain rfl := sj hm
     refine jj Y (fun w hh => (.tmp Y .nil)) (fun w hh => ⟨(), rfl, trivial, hh.se [] [] 7 Y Y Y rfl⟩)
    replace hm := ifN h20 hm
    refine js (jw (ja (jg ?_)))
    obtain ⟨t42, h21, hm⟩ := bindO hm
    refine Ki h21 Y Y Y (jh Y Y (jx ?_))
    obtain rfl := sj hm
    refine ja ?_
    exact jL _ () Y (trivial) (sE Y) (hsE [1, 2] [] 0 Y Y Y Y)
   replace hm := ifE h6 hm
   refine ks (jk (jk (jM ?_)))
   obtain rfl := sj hm
   have hbo := h5 _ Y
   subst hbo
   exact jl () (Y) (.nil) (fun w hh => hh)
  intro j hj
  have h22 := hj
  subst h22
  replace hm := ocL h4
  refine ja (jr (jo Y Y (jq (ju ?_))))
  obtain rfl := sj hm
  refine jj Y (fun w hh => (.tmp Y .nil)) (fun w hh => ⟨(), rfl, trivial, hh.se [] [] 7 Y Y Y rfl⟩)
structure ki where
  r0 : Int
  a11 : (List (State × Int))
structure y6 where
  n9 : Int
  a11 : (List (State × Int))
structure kF where
  n9 : Int
  a11 : (List (State × Int))
structure KX where
  n9 : Int
  a11 : (List (State × Int))
def qm (rec_ : State → (List (State × Int)) → Int → Int → (List Int) → (List Sand) → (List Sight) → (List Int) → (List Int) → Option ki) (a220 : Int) (a221 : Int) (a222 : (List Int)) (a223 : (List Sand)) (a224 : (List Sight)) (a225 : (List Int)) (a330_c0 : (List Int)) (x : State) (s : kF) : Option kF :=
 ((rec_ x s.a11 a220 a221 a222 a223 a224 a225 a330_c0).bind fun t26 =>
 (addc s.n9 t26.r0).bind fun t27 =>
 some (⟨t27, t26.a11⟩ : KX)).bind fun o_2 =>
 some (⟨o_2.n9, o_2.a11⟩ : kF)
def yr (rec_ : State → (List (State × Int)) → Int → Int → (List Int) → (List Sand) → (List Sight) → (List Int) → (List Int) → Option ki) (s0 : State) (a11 : (List (State × Int))) (a220 : Int) (a221 : Int) (a222 : (List Int)) (a223 : (List Sand)) (a224 : (List Sight)) (a225 : (List Int)) (a330_c0 : (List Int)) : Option ki :=
 if ((aget a11 s0).isSome) = true then
 (some (⟨((aget a11 s0).getD 0), a11⟩ : ki)) else
 (((yd a220 a221 a222 a223 a224 a225 a330_c0 s0).bind fun t32 =>
 if (!t32) = true then
 (some (⟨0, a11⟩ : y6)) else
 (if s0.after = a221 then
 (some (⟨1, a11⟩ : y6)) else
 ((kw a220 a221 a222 a223 a224 a225 s0).bind fun t21 =>
 if nextOK a220 a225 (a222.length : Int) t21 then ((iterL (qm rec_ a220 a221 a222 a223 a224 a225 a330_c0) (nextL a220 a225 (a222.length : Int) t21) (⟨0, a11⟩ : kF)).bind fun o_1 =>
 some (⟨o_1.n9, o_1.a11⟩ : y6)) else none))).bind fun o =>
 (some (aset o.a11 s0 o.n9)).bind fun a11_1 =>
 some (⟨o.n9, a11_1⟩ : ki))
def jH : Nat → State → (List (State × Int)) → Int → Int → (List Int) → (List Sand) → (List Sight) → (List Int) → (List Int) → Option ki
  | 0, _, _, _, _, _, _, _, _, _ => none
  | fu + 1, s0, a11, a220, a221, a222, a223, a224, a225, a330_c0 => yr (jH fu) s0 a11 a220 a221 a222 a223 a224 a225 a330_c0
theorem QI (fu_ : Nat) : ∀ (s0 : State) (a11 : (List (State × Int))) (a220 : Int) (a221 : Int) (a222 : (List Int)) (a223 : (List Sand)) (a224 : (List Sight)) (a225 : (List Int)) (a330_c0 : (List Int)) (rb : Nat) (pb : Nat) (rb_1 : Nat) (rb_2 : Nat) (qa3 : Option Addr) (na3 ca3 : Nat) (qa4 : Option Addr) (na4 ca4 : Nat) (qa5 : Option Addr) (na5 ca5 : Nat) (qa6 : Option Addr) (na6 ca6 : Nat) (rb_3 : Nat) (rb_4 : Nat) (qa9 : Option Addr) (na9 ca9 : Nat) (rb_5 : Nat) (w : World) (hw : HV w (keys [(pb, gobj (kR RSta) kI a11)] []) [(pb, gobj (kR RSta) kI a11)] [] [(rb, 0, [.map (some pb)]), (rb_1, 0, [ptr rb_2 0]), (rb_2, 0, [.int .i64 a220, .int .i64 a221, .slice qa3 na3 ca3, .slice qa4 na4 ca4, .slice qa5 na5 ca5, .slice qa6 na6 ca6]), (aB qa3, aO qa3, RI.enc a222), (aB qa4, aO qa4, RSa.enc a223), (aB qa5, aO qa5, RSi.enc a224), (aB qa6, aO qa6, RI.enc a225), (rb_3, 0, [.func (.func 171) #[] #[ptr rb_4 0]]), (rb_4, 0, [.slice qa9 na9 ca9]), (aB qa9, aO qa9, RI.enc a330_c0), (rb_5, 0, [.func (.func 190) #[] #[ptr rb 0, ptr rb_1 0, ptr rb_3 0, ptr rb_5 0]])] w)    (hna3 : a222.length = na3) (hqa3 : AOK na3 qa3) (hla3 : na3 ≤ ca3) (hna4 : a223.length = na4) (hqa4 : AOK na4 qa4) (hla4 : na4 ≤ ca4) (hna5 : a224.length = na5) (hqa5 : AOK na5 qa5) (hla5 : na5 ≤ ca5) (hna6 : a225.length = na6) (hqa6 : AOK na6 qa6) (hla6 : na6 ≤ ca6)   (hna9 : a330_c0.length = na9) (hqa9 : AOK na9 qa9) (hla9 : na9 ≤ ca9)  {res : ki} (hm : jH fu_ s0 a11 a220 a221 a222 a223 a224 a225 a330_c0 = some res),
    Calls Tryz.prog 190 #[.agg #[.int .i64 s0.after, .int .i64 s0.at_.c0, .int .i64 s0.at_.c1, .int .i64 s0.at_.c2], ptr rb 0, ptr rb_1 0, ptr rb_3 0, ptr rb_5 0] w (fun en w' => ∃ l : Unit, en = .returned (.int .i64 res.r0) ∧ (True) ∧ HV w (keys [(pb, gobj (kR RSta) kI a11)] []) [(pb, gobj (kR RSta) kI res.a11)] [] [] w') := by
  induction fu_ with
  | zero =>
    intros
    rename_i hm
    exact absurd hm (by simp [jH])
  | succ fu_ ih =>
  intro s0 a11 a220 a221 a222 a223 a224 a225 a330_c0 rb pb rb_1 rb_2 qa3 na3 ca3 qa4 na4 ca4 qa5 na5 ca5 qa6 na6 ca6 rb_3 rb_4 qa9 na9 ca9 rb_5 w hw    hna3 hqa3 hla3 hna4 hqa4 hla4 hna5 hqa5 hla5 hna6 hqa6 hla6   hna9 hqa9 hla9  res hm
  replace hm : yr (jH fu_) s0 a11 a220 a221 a222 a223 a224 a225 a330_c0 = some res := hm
  unfold yr at hm
  refine YL (args := [.agg #[.int .i64 s0.after, .int .i64 s0.at_.c0, .int .i64 s0.at_.c1, .int .i64 s0.at_.c2], ptr rb 0, ptr rb_1 0, ptr rb_3 0, ptr rb_5 0]) func190 Y ntmps190 Y (e := [(0, _), (1, _), (2, _), (3, _), (4, _)]) Y (H := HV w (keys [(pb, gobj (kR RSta) kI a11)] []) [(pb, gobj (kR RSta) kI a11)] [] [(rb, 0, [.map (some pb)]), (rb_1, 0, [ptr rb_2 0]), (rb_2, 0, [.int .i64 a220, .int .i64 a221, .slice qa3 na3 ca3, .slice qa4 na4 ca4, .slice qa5 na5 ca5, .slice qa6 na6 ca6]), (aB qa3, aO qa3, RI.enc a222), (aB qa4, aO qa4, RSa.enc a223), (aB qa5, aO qa5, RSi.enc a224), (aB qa6, aO qa6, RI.enc a225), (rb_3, 0, [.func (.func 171) #[] #[ptr rb_4 0]]), (rb_4, 0, [.slice qa9 na9 ca9]), (aB qa9, aO qa9, RI.enc a330_c0), (rb_5, 0, [.func (.func 190) #[] #[ptr rb 0, ptr rb_1 0, ptr rb_3 0, ptr rb_5 0]])]) hw ?_
  refine Q6 (jr ?_)
  refine jK Y Y (fun b h1 => ?_)
  refine jo Y Y (jq (ji (jr (jc Y Y Y (fun w hh => jy (isAgg153 w) Y (segCell (hh.seg 0 Y) 0 Y)) (Jy [_, _, _, _] 0 isAgg159 sizeOf159 Y Y Y Y (jc Y Y Y (fun w hh => ZG (k := s0) (z := 0) (runUnderlying153 w) yx (zeroValue3 w) Y Y (hh.mget 1 Y)) (jh Y Y ?_)))))))
  refine zG Y Y Y (zG Y Y Y (jo Y Y (jo Y Y (kY (jh Y Y (jq ?_))))))
  refine jt Y (fun h2 => ?_) (fun h2 => ?_)
  ·replace hm := ifT (h2) hm
   refine jr (jh Y Y (jo Y Y (jq (ju (je ?_)))))
   obtain rfl := sj hm
   refine Ky Y Y Y (fun w hh => (.tmp Y .nil)) (fun w hh => ⟨(), rfl, trivial, hh.se [1] [] 11 Y Y Y rfl⟩)
  replace hm := ifN h2 hm
  refine js (ja (jr ?_))
  refine jv (fun w => zeroValue3 w) Y (fun b_1 h3 => ?_)
  refine q6 (cs' := #[_]) (S' := [_, _, _]) 0 (fun w => sizeOf3 w) Y Y Y Y Y Y Y (jq (ji ?_))
  obtain ⟨o, h4, h5⟩ := bindO hm
  refine Y0 (ι := List Nat) (fun l => mks l) (fun l => True) (fun l => [(1, ptr rb 0), (5, ptr b 0), (9, ptr b_1 0)]) (fun l => [kc b_1 #[.int .i64 o.n9] 3, kc b #[.int .i64 s0.after, .int .i64 s0.at_.c0, .int .i64 s0.at_.c1, .int .i64 s0.at_.c2] 159, (pb, gobj (kR RSta) kI o.a11)]) (fun l => [mkV l]) ?_ ?_
  ·replace hm := h4
   refine jn (jr (jc Y Y Y (fun w hh => jy (isAgg146 w) Y (segCell (hh.seg 1 Y) 0 Y)) (jc Y Y Y (fun w hh => jP (vs := [_]) (isAgg181 w) (sizeOf181 w) Y (segCells (hh.seg 7 Y) 0 Y)) (Jy [_, _, _, _] 1 isAgg159 sizeOf159 Y Y Y Y ?_))))
   obtain ⟨t32, h6, hm⟩ := bindO hm
   refine jd [] [] Y Y Y Y Y Y Y call143 (fun w hh => QY a220 a221 a222 a223 a224 a225 a330_c0 s0 rb_2 qa3 na3 ca3 qa4 na4 ca4 qa5 na5 ca5 qa6 na6 ca6 rb_4 qa9 na9 ca9 w (HV.callee (S0 := []) (vs0 := []) hh (roR hh 2 Y (roR hh 3 Y (roR hh 4 Y (roR hh 5 Y (roR hh 6 Y (roR hh 8 Y (roR hh 9 Y roN)))))))) hna3 hqa3 hla3 hna4 hqa4 hla4 hna5 hqa5 hla5 hna6 hqa6 hla6 hna9 hqa9 hla9 h6) (fun l_1 h7 => ?_)
   refine jc Y Y Y (fun _ _ => yZ Y) (jo Y Y (jq ?_))
   refine jt Y (fun h8 => ?_) (fun h8 => ?_)
   ·replace hm := ifT (h8) hm
    refine js (jw ?_)
    obtain rfl := sj hm
    exact Ka [] Y (trivial) (sE Y) (fun w hh => hh)
   replace hm := ifN h8 hm
   refine ji ?_
   refine kM none (.free 0 (.hoist 1 (.hoist 2 (.free 3 (.free 4 (.free 5 (.hoist 6 (.free 7 (.free 8 .done))))))))) _ Y (by decide +kernel) (fun w k hh => hh.draw k) (fun w hh => hh) ?_
   refine KH 0 runUnderlying159 sizeOf3 Y Y Y Y (K2 1 isAgg3 Y Y Y Y Y (jz Y Y Y Y (fun w hh => jy (isAgg146 w) Y (segCell (hh.seg 1 Y) 0 Y)) (jp Y Y Y Y (fun _ _ => jR Y) (KH 0 runUnderlying175 sizeOf26 Y Y Y Y (KH 1 runUnderlying26 sizeOf3 Y Y Y Y (jz Y Y Y Y (fun w hh => jy (isAgg3 w) Y (segCell (hh.seg 2 Y) 1 Y)) (jp Y Y Y Y (fun _ _ => zM Y Y) ?_)))))))
   refine jp Y Y Y Y (fun _ _ => km Y) (jQ (ja ?_))
   refine jt Y (fun h9 => ?_) (fun h9 => ?_)
   ·replace hm := ifD h9 hm
    refine jg (q6 (cs' := #[_]) (S' := [_, _, _]) 0 (fun w => sizeOf3 w) Y Y Y Y Y Y Y (jx (jw ?_)))
    obtain rfl := sj hm
    exact Ka [] Y (trivial) (sE Y) (fun w hh => hh)
   replace hm := ifE h9 hm
   refine jr (jc Y Y Y (fun w hh => jy (isAgg146 w) Y (segCell (hh.seg 1 Y) 0 Y)) (Jy [_, _, _, _] 1 isAgg159 sizeOf159 Y Y Y Y ?_))
   obtain ⟨t21, h10, hm⟩ := bindO hm
   refine jd [] [] Y Y Y Y Y Y Y call96 (fun w hh => zo a220 a221 a222 a223 a224 a225 s0 rb_2 qa3 na3 ca3 qa4 na4 ca4 qa5 na5 ca5 qa6 na6 ca6 w (HV.callee (S0 := []) (vs0 := []) hh (roR hh 2 Y (roR hh 3 Y (roR hh 4 Y (roR hh 5 Y (roR hh 6 Y roN)))))) hna3 hqa3 hla3 hna4 hqa4 hla4 hna5 hqa5 hla5 hna6 hqa6 hla6 h10) (fun l_2 h11 => ?_)
   refine ka (S' := [_, _, _, _, _]) (vs' := [_]) [0, 1, 2, 3, 4] [0] 0 Y Y Y Y (jq (jn ?_))
   obtain ⟨h12, hm⟩ := ifO hm
   refine ZC (e' := [(1, ptr rb 0), (4, ptr rb_5 0), (5, ptr b 0), (9, ptr b_1 0), (21, .func (.func 161) #[] #[ptr l_2.1 0, ptr l_2.2 0])]) (sE Y) ?_
   obtain ⟨o_1, h13, hm⟩ := bindO hm
   refine Qs (ι := Unit) (nextL a220 a225 (a222.length : Int) t21) (fun x => .agg #[.int .i64 x.after, .int .i64 x.at_.c0, .int .i64 x.at_.c1, .int .i64 x.at_.c2]) h13 (fun s l_3 => True) (fun s l_3 => [kc l_2.1 #[.int .i64 t21.after, .int .i64 t21.at_.c0, .int .i64 t21.at_.c1, .int .i64 t21.at_.c2] 159, kc l_2.2 #[ptr rb_2 0] 146, kc b_1 #[.int .i64 s.n9] 3, kc b #[.int .i64 s0.after, .int .i64 s0.at_.c0, .int .i64 s0.at_.c1, .int .i64 s0.at_.c2] 159, (pb, gobj (kR RSta) kI s.a11)]) (fun s l_3 => [mkV []]) () (trivial) (fun w hh => hh) (RdN l_2.2 rb_2 l_2.1 a220 (.int .i64 a221) (.slice qa4 na4 ca4) (.slice qa5 na5 ca5) qa3 qa6 na3 ca3 na6 ca6 a225 t21) (fun s l_3 w h14 hh => ⟨hh.bseg 1 rfl, hh.seg 2 rfl, hh.bseg 0 rfl, hh.seg 6 rfl⟩) (fun x => (.cells #[.int .i64 x.after, .int .i64 x.at_.c0, .int .i64 x.at_.c1, .int .i64 x.at_.c2] 159 (0, 0))) (it_next _ _ _ l_2.2 rb_2 l_2.1 a220 (.int .i64 a221) (.slice qa4 na4 ca4) (.slice qa5 na5 ca5) qa3 qa6 na3 ca3 na6 ca6 a222 a225 t21 hna3 hna6 hqa6 h12) Y call161 Y (e1 := fun x bx => (10, ptr bx 0) :: (22, .agg #[.int .i64 x.after, .int .i64 x.at_.c0, .int .i64 x.at_.c1, .int .i64 x.at_.c2]) :: [(1, ptr rb 0), (4, ptr rb_5 0), (5, ptr b 0), (9, ptr b_1 0), (21, .func (.func 161) #[] #[ptr l_2.1 0, ptr l_2.2 0])]) (fun x lr L X hX => ?_) (fun x s r l_3 lr w1 bx h14 hm => ?_) (fun l_3 D h14 => ?_)
   ·refine jg ?_
    refine jv (fun w => zeroValue159 w) Y (fun b_2 h17 => ?_)
    refine kQ (us := #[_, _, _, _]) (cs' := [_, _, _, _]) (S' := [_]) 0 (fun w => sizeOf159 w) Y Y Y Y Y Y Y (jq ?_)
    exact hX _
   ·unfold qm at hm
    refine jn ?_
    obtain ⟨o_2, h18, h19⟩ := bindO hm
    refine jU (ι := Unit) (fun l_4 => True) (fun l_4 => []) (fun l_4 => [kc bx #[.int .i64 x.after, .int .i64 x.at_.c0, .int .i64 x.at_.c1, .int .i64 x.at_.c2] 159, kc l_2.1 #[.int .i64 t21.after, .int .i64 t21.at_.c0, .int .i64 t21.at_.c1, .int .i64 t21.at_.c2] 159, kc l_2.2 #[ptr rb_2 0] 146, kc b_1 #[.int .i64 o_2.n9] 3, kc b #[.int .i64 s0.after, .int .i64 s0.at_.c0, .int .i64 s0.at_.c1, .int .i64 s0.at_.c2] 159, (pb, gobj (kR RSta) kI o_2.a11)]) (fun l_4 => [mkV []]) ?_ ?_
    ·replace hm := h18
     refine kM (some 5) (.hoist 0 (.hoist 1 (.hoist 2 (.one 3 (.free 4 (.last 5 .done)))))) (HV _ _ [kc bx #[.int .i64 x.after, .int .i64 x.at_.c0, .int .i64 x.at_.c1, .int .i64 x.at_.c2] 159, kc l_2.1 #[.int .i64 t21.after, .int .i64 t21.at_.c0, .int .i64 t21.at_.c1, .int .i64 t21.at_.c2] 159, kc l_2.2 #[ptr rb_2 0] 146, kc b_1 #[.int .i64 s.n9] 3, kc b #[.int .i64 s0.after, .int .i64 s0.at_.c0, .int .i64 s0.at_.c1, .int .i64 s0.at_.c2] 159] [mkV []] _) Y (by decide +kernel) (fun w k hh => hh.draw k) (hsE [0, 1, 2, 3, 4] [0] 0 Y Y Y Y) ?_
     refine K2 3 isAgg3 Y Y Y Y Y (jz Y Y Y Y (fun w hh => jy (isAgg171 w) Y (segCell (hh.seg 10 Y) 0 Y)) (jz Y Y Y Y (fun w hh => jP (vs := [_, _, _, _]) (isAgg159 w) (sizeOf159 w) Y (hh.cells 0 Y Y)) (jC Y ?_)))
     obtain ⟨t26, h20, hm⟩ := bindO hm
     refine ka (S' := [_, _, _, _, _, _]) (vs' := [_]) [5, 0, 1, 2, 3, 4] [0] 0 Y Y Y Y ?_
     refine jd [_] [] Y Y Y Y Y Y Y call190 (fun w hh => ih x s.a11 a220 a221 a222 a223 a224 a225 a330_c0 rb pb rb_1 rb_2 qa3 na3 ca3 qa4 na4 ca4 qa5 na5 ca5 qa6 na6 ca6 rb_3 rb_4 qa9 na9 ca9 rb_5 w (HV.callee (S0 := [_]) (vs0 := []) hh (roR hh 0 Y (roR hh 1 Y (roR hh 2 Y (roR hh 3 Y (roR hh 4 Y (roR hh 5 Y (roR hh 6 Y (roR hh 7 Y (roR hh 8 Y (roR hh 9 Y (roR hh 10 Y roN)))))))))))) hna3 hqa3 hla3 hna4 hqa4 hla4 hna5 hqa5 hla5 hna6 hqa6 hla6 hna9 hqa9 hla9 h20) (fun l_5 h21 => ?_)
     refine ka (S' := [_, _, _, _, _, _]) (vs' := [_]) [0, 1, 2, 3, 4, 5] [0] 0 Y Y Y Y (jm (hsE [1, 2, 3, 4, 5] [0] 0 Y Y Y Y) ?_)
     obtain ⟨t27, h22, hm⟩ := bindO hm
     refine jp Y Y Y Y (fun _ _ => Kf h22 Y Y) (Y1 Y (q6 (cs' := #[_]) (S' := [_, _, _, _, _, _]) 4 (fun w => sizeOf3 w) Y Y Y Y Y Y Y (Yi (jQ ?_))))
     obtain rfl := sj hm
     exact jl () (trivial) (.nil) (hsE [1, 2, 3, 4, 5, 0] [0] 0 Y Y Y Y)
    intro l_4 hj
    replace hm := h19
    refine jw ?_
    obtain rfl := sj hm
    exact Q3 (⟨o_2.n9, o_2.a11⟩ : kF) () Y (trivial) (hsE [1, 2, 3, 4, 5] [0] 11 Y Y Y Y)
   refine YQ 0 Y Y (jw (jw ?_))
   obtain rfl := sj hm
   exact Ka (D :: []) Y (trivial) (sE Y) (hsE [2, 3, 4] [0] 0 Y Y Y Y)
  intro l hj
  replace hm := h5
  refine ja (jr (jc Y Y Y (fun w hh => jy (isAgg153 w) Y (segCell (hh.seg 0 Y) 0 Y)) (Jy [_, _, _, _] 1 isAgg159 sizeOf159 Y Y Y Y (yl 0 isAgg3 Y Y Y Y ?_))))
  obtain ⟨a11_1, h23, hm⟩ := bindO hm
  refine QP (k := s0) (v := o.n9) 2 (fun w => runUnderlying153 w) yx Y Y Y Y (Option.some.inj h23) Y (kY (yl 0 isAgg3 Y Y Y Y (jo Y Y (jq (ju ?_)))))
  obtain rfl := sj hm
  refine Ky Y Y Y (fun w hh => (.tmp Y .nil)) (fun w hh => ⟨(), rfl, trivial, hh.se [2] [] 11 Y Y Y rfl⟩)
def zf (d00 : Int) (d01 : Int) (d02 : (List Int)) (d03 : (List Sand)) (d04 : (List Sight)) (d05 : (List Int)) (f1_0_c0 : (List Int)) : Option (List (State × Int)) :=
 (jD d00 d01 d02 d03 d04 d05).bind fun t11 =>
 (jH FU t11 [] d00 d01 d02 d03 d04 d05 f1_0_c0).bind fun t12 =>
 some t12.a11
theorem Yc (d00 : Int) (d01 : Int) (d02 : (List Int)) (d03 : (List Sand)) (d04 : (List Sight)) (d05 : (List Int)) (f1_0_c0 : (List Int)) (rb : Nat) (qa1 : Option Addr) (na1 ca1 : Nat) (qa2 : Option Addr) (na2 ca2 : Nat) (qa3 : Option Addr) (na3 ca3 : Nat) (qa4 : Option Addr) (na4 ca4 : Nat) (rb_1 : Nat) (qa6 : Option Addr) (na6 ca6 : Nat) (w : World) (hw : HV w (keys [] []) [] [] [(rb, 0, [.int .i64 d00, .int .i64 d01, .slice qa1 na1 ca1, .slice qa2 na2 ca2, .slice qa3 na3 ca3, .slice qa4 na4 ca4]), (aB qa1, aO qa1, RI.enc d02), (aB qa2, aO qa2, RSa.enc d03), (aB qa3, aO qa3, RSi.enc d04), (aB qa4, aO qa4, RI.enc d05), (rb_1, 0, [.slice qa6 na6 ca6]), (aB qa6, aO qa6, RI.enc f1_0_c0)] w)  (hna1 : d02.length = na1) (hqa1 : AOK na1 qa1) (hla1 : na1 ≤ ca1) (hna2 : d03.length = na2) (hqa2 : AOK na2 qa2) (hla2 : na2 ≤ ca2) (hna3 : d04.length = na3) (hqa3 : AOK na3 qa3) (hla3 : na3 ≤ ca3) (hna4 : d05.length = na4) (hqa4 : AOK na4 qa4) (hla4 : na4 ≤ ca4)  (hna6 : f1_0_c0.length = na6) (hqa6 : AOK na6 qa6) (hla6 : na6 ≤ ca6) {res : (List (State × Int))} (hm : zf d00 d01 d02 d03 d04 d05 f1_0_c0 = some res) :
    Calls Tryz.prog 159 #[ptr rb 0, .agg #[.func (.func 171) #[] #[ptr rb_1 0]]] w (fun en w' => ∃ l : Nat, en = .returned (.map (some l)) ∧ (True) ∧ HV w (keys [] []) [(l, gobj (kR RSta) kI res)] [] [] w') := by
  unfold zf at hm
  refine q5 func159 Y ntmps159 Y (e := [(0, _), (1, _)]) Y hw (jr ?_)
  refine jK Y Y (fun b h1 => ?_)
  refine jK Y Y (fun b_1 h2 => ?_)
  refine jo Y Y (kY ?_)
  refine Yk (kR RSta) kI Y (fun b_2 h3 => ?_)
  refine jv (fun w => zeroValue153 w) Y (fun b_3 h4 => ?_)
  refine q6 (cs' := #[_]) (S' := [_, _, _, _]) 0 (fun w => sizeOf153 w) Y Y Y Y Y Y Y (kY ?_)
  refine jv (fun w => zeroValue171 w) Y (fun b_4 h5 => ?_)
  refine kY (jc Y Y Y (fun _ _ => jX (u := #[]) (u' := #[_, _, _, _]) Y Y) (q6 (cs' := #[_]) (S' := [_, _, _, _, _]) 0 (fun w => sizeOf171 w) Y Y Y Y Y Y Y (jq (ji ?_))))
  refine kM none (.hoist 0 (.hoist 1 (.one 2 (.one 3 .done)))) (HV _ _ [kc b_4 #[.func (.func 190) #[] #[ptr b_3 0, ptr b 0, ptr b_1 0, ptr b_4 0]] 171, kc b_3 #[.map (some b_2)] 153, kc b_1 #[.func (.func 171) #[] #[ptr rb_1 0]] 181, kc b #[ptr rb 0] 146] [] _) Y (by decide +kernel) (fun w k hh => hh.draw k) (hsE [0, 1, 3, 4] [] 0 Y Y Y Y) ?_
  refine K2 0 isAgg171 Y Y Y Y Y (K2 3 isAgg146 Y Y Y Y Y (jC Y ?_))
  obtain ⟨t11, h6, hm⟩ := bindO hm
  refine jd [] [] Y Y Y Y Y Y Y call99 (fun w hh => jW d00 d01 d02 d03 d04 d05 rb qa1 na1 ca1 qa2 na2 ca2 qa3 na3 ca3 qa4 na4 ca4 w (HV.callee (S0 := []) (vs0 := []) hh (roR hh 0 Y (roR hh 1 Y (roR hh 2 Y (roR hh 3 Y (roR hh 4 Y roN)))))) hna1 hqa1 hla1 hna2 hqa2 hla2 hna3 hqa3 hla3 hna4 hqa4 hla4 h6) (fun l h7 => ?_)
  refine jm (hsE [0, 1, 3, 4] [] 0 Y Y Y Y) (jC Y ?_)
  obtain ⟨t12, h8, hm⟩ := bindO hm
  refine ka (S' := [_, _, _, _, _]) (vs' := []) [2, 0, 1, 3, 4] [] 0 Y Y Y Y ?_
  refine jd [_] [] Y Y Y Y Y Y Y call190 (fun w hh => QI FU t11 [] d00 d01 d02 d03 d04 d05 f1_0_c0 b_3 b_2 b rb qa1 na1 ca1 qa2 na2 ca2 qa3 na3 ca3 qa4 na4 ca4 b_1 rb_1 qa6 na6 ca6 b_4 w (HV.callee (S0 := [_]) (vs0 := []) hh (roC (hh.bsepH 1 Y) (roC (hh.bsepH 3 Y) (roR hh 0 Y (roR hh 1 Y (roR hh 2 Y (roR hh 3 Y (roR hh 4 Y (roC (hh.bsepH 2 Y) (roR hh 5 Y (roR hh 6 Y (roC (hh.bsepH 0 Y) roN)))))))))))) hna1 hqa1 hla1 hna2 hqa2 hla2 hna3 hqa3 hla3 hna4 hqa4 hla4 hna6 hqa6 hla6 h8) (fun l_1 h9 => ?_)
  refine ka (S' := [_, _, _, _, _]) (vs' := []) [0, 1, 2, 3, 4] [] 0 Y Y Y Y (jm (hsE [1, 2, 3, 4] [] 0 Y Y Y Y) (jQ (ja (jr (yl 2 isAgg153 Y Y Y Y (jo Y Y (jq ?_)))))))
  refine ju ?_
  obtain rfl := sj hm
  refine jj Y (fun w hh => (.tmp Y .nil)) (fun w hh => ⟨b_2, rfl, trivial, hh.se [0] [] 7 Y Y Y rfl⟩)
def kU (d00 : Int) (d01 : Int) (d02 : (List Int)) (d03 : (List Sand)) (d04 : (List Sight)) (d05 : (List Int)) (f1_0_c0 : (List Int)) : Option Bool :=
 (zf d00 d01 d02 d03 d04 d05 f1_0_c0).bind fun t7 =>
 (jD d00 d01 d02 d03 d04 d05).bind fun t9 =>
 some (decide (0 < ((aget t7 t9).getD 0)))
theorem z1 (d00 : Int) (d01 : Int) (d02 : (List Int)) (d03 : (List Sand)) (d04 : (List Sight)) (d05 : (List Int)) (f1_0_c0 : (List Int)) (rb : Nat) (qa1 : Option Addr) (na1 ca1 : Nat) (qa2 : Option Addr) (na2 ca2 : Nat) (qa3 : Option Addr) (na3 ca3 : Nat) (qa4 : Option Addr) (na4 ca4 : Nat) (rb_1 : Nat) (qa6 : Option Addr) (na6 ca6 : Nat) (w : World) (hw : HV w (keys [] []) [] [] [(rb, 0, [.int .i64 d00, .int .i64 d01, .slice qa1 na1 ca1, .slice qa2 na2 ca2, .slice qa3 na3 ca3, .slice qa4 na4 ca4]), (aB qa1, aO qa1, RI.enc d02), (aB qa2, aO qa2, RSa.enc d03), (aB qa3, aO qa3, RSi.enc d04), (aB qa4, aO qa4, RI.enc d05), (rb_1, 0, [.slice qa6 na6 ca6]), (aB qa6, aO qa6, RI.enc f1_0_c0)] w)  (hna1 : d02.length = na1) (hqa1 : AOK na1 qa1) (hla1 : na1 ≤ ca1) (hna2 : d03.length = na2) (hqa2 : AOK na2 qa2) (hla2 : na2 ≤ ca2) (hna3 : d04.length = na3) (hqa3 : AOK na3 qa3) (hla3 : na3 ≤ ca3) (hna4 : d05.length = na4) (hqa4 : AOK na4 qa4) (hla4 : na4 ≤ ca4)  (hna6 : f1_0_c0.length = na6) (hqa6 : AOK na6 qa6) (hla6 : na6 ≤ ca6) {res : Bool} (hm : kU d00 d01 d02 d03 d04 d05 f1_0_c0 = some res) :
    Calls Tryz.prog 121 #[ptr rb 0, .agg #[.func (.func 171) #[] #[ptr rb_1 0]]] w (fun en w' => ∃ l : Unit, en = .returned (.bool res) ∧ (True) ∧ HV w (keys [] []) [] [] [] w') := by
  unfold kU at hm
  refine q5 func121 Y ntmps121 Y (e := [(0, _), (1, _)]) Y hw (jr ?_)
  refine jK Y Y (fun b h1 => ?_)
  refine jo Y Y (kY (jh Y Y (Jy [_] 0 isAgg181 sizeOf181 Y Y Y Y ?_)))
  obtain ⟨t7, h2, hm⟩ := bindO hm
  refine jd [] [] Y Y Y Y Y Y Y call159 (fun w hh => Yc d00 d01 d02 d03 d04 d05 f1_0_c0 rb qa1 na1 ca1 qa2 na2 ca2 qa3 na3 ca3 qa4 na4 ca4 rb_1 qa6 na6 ca6 w (HV.callee (S0 := []) (vs0 := []) hh (roR hh 0 Y (roR hh 1 Y (roR hh 2 Y (roR hh 3 Y (roR hh 4 Y (roR hh 5 Y (roR hh 6 Y roN)))))))) hna1 hqa1 hla1 hna2 hqa2 hla2 hna3 hqa3 hla3 hna4 hqa4 hla4 hna6 hqa6 hla6 h2) (fun l h3 => ?_)
  refine ka (S' := [_, _]) (vs' := []) [0, 1] [] 0 Y Y Y Y (jh Y Y ?_)
  obtain ⟨t9, h4, hm⟩ := bindO hm
  refine jd [] [] Y Y Y Y Y Y Y call99 (fun w hh => jW d00 d01 d02 d03 d04 d05 rb qa1 na1 ca1 qa2 na2 ca2 qa3 na3 ca3 qa4 na4 ca4 w (HV.callee (S0 := []) (vs0 := []) hh (roR hh 0 Y (roR hh 1 Y (roR hh 2 Y (roR hh 3 Y (roR hh 4 Y roN)))))) hna1 hqa1 hla1 hna2 hqa2 hla2 hna3 hqa3 hla3 hna4 hqa4 hla4 h4) (fun l_1 h5 => ?_)
  refine jc Y Y Y (fun w hh => Qm (k := t9) (z := 0) (runUnderlying153 w) yx (zeroValue3 w) Y Y (hh.mget 0 Y)) (jc Y Y Y (fun _ _ => Zh Y Y) (jo Y Y (jq (ju ?_))))
  obtain rfl := sj hm
  refine jj Y (fun w hh => (.tmp Y .nil)) (fun w hh => ⟨(), rfl, trivial, hh.se [] [] 7 Y Y Y rfl⟩)
def zp (a11 : (List Int)) (a220 : Int) (a221 : Int) (a222 : (List Int)) (a223 : (List Sand)) (a224 : (List Sight)) (a225 : (List Int)) : Option Bool :=
 (zn []).bind fun t8 =>
 (kU a220 a221 a222 a223 a224 a225 []).bind fun t9 =>
 some (!t9)
theorem YS (a11 : (List Int)) (a220 : Int) (a221 : Int) (a222 : (List Int)) (a223 : (List Sand)) (a224 : (List Sight)) (a225 : (List Int)) (pb : Nat) (qa0 : Option Addr) (na0 ca0 : Nat) (rb : Nat) (rb_1 : Nat) (qa3 : Option Addr) (na3 ca3 : Nat) (qa4 : Option Addr) (na4 ca4 : Nat) (qa5 : Option Addr) (na5 ca5 : Nat) (qa6 : Option Addr) (na6 ca6 : Nat) (w : World) (hw : HV w (keys [kc pb #[.slice qa0 na0 ca0] 22] []) [kc pb #[.slice qa0 na0 ca0] 22] [] [(aB qa0, aO qa0, RI.enc a11), (rb, 0, [ptr rb_1 0]), (rb_1, 0, [.int .i64 a220, .int .i64 a221, .slice qa3 na3 ca3, .slice qa4 na4 ca4, .slice qa5 na5 ca5, .slice qa6 na6 ca6]), (aB qa3, aO qa3, RI.enc a222), (aB qa4, aO qa4, RSa.enc a223), (aB qa5, aO qa5, RSi.enc a224), (aB qa6, aO qa6, RI.enc a225)] w) (hna0 : a11.length = na0) (hqa0 : AOK na0 qa0) (hla0 : na0 ≤ ca0)   (hna3 : a222.length = na3) (hqa3 : AOK na3 qa3) (hla3 : na3 ≤ ca3) (hna4 : a223.length = na4) (hqa4 : AOK na4 qa4) (hla4 : na4 ≤ ca4) (hna5 : a224.length = na5) (hqa5 : AOK na5 qa5) (hla5 : na5 ≤ ca5) (hna6 : a225.length = na6) (hqa6 : AOK na6 qa6) (hla6 : na6 ≤ ca6) {res : Bool} (hm : zp a11 a220 a221 a222 a223 a224 a225 = some res) :
    Calls Tryz.prog 128 #[slv none 0 0, ptr pb 0, ptr rb 0] w (fun en w' => ∃ l : Unit, en = .returned (.bool res) ∧ (True) ∧ HV w (keys [kc pb #[.slice qa0 na0 ca0] 22] []) [kc pb #[slv none 0 0] 22] [] [] w') := by
  unfold zp at hm
  refine q5 func128 Y ntmps128 Y (e := [(0, _), (1, _), (2, _)]) Y hw (jr (jo Y Y (kY (jh Y Y (q6 (cs' := #[_]) (S' := [_]) 0 (fun w => sizeOf22 w) Y Y Y Y Y Y Y (jq (ji ?_)))))))
  refine kM none (.hoist 0 (.free 1 (.one 2 (.one 3 (.free 4 (.free 5 .done)))))) _ Y (by decide +kernel) (fun w k hh => hh.draw k) (fun w hh => hh) (jz Y Y Y Y (fun w hh => jy (isAgg146 w) Y (segCell (hh.seg 1 Y) 0 Y)) (za Y Y Y (jC Y ?_)))
  obtain ⟨t8, h1, hm⟩ := bindO hm
  refine jd [] [] Y Y Y Y Y Y Y call122 (fun w hh => QN [] none 0 0 w (HV.callee (S0 := []) (vs0 := []) hh (roC ⟨segOK.nil, fun hx => absurd Y hx⟩ roN)) Y AOK.nil (Nat.le_refl 0) h1) (fun l h2 => ?_)
  refine ka (S' := [_, _]) (vs' := []) [0, 1] [] 0 Y Y Y Y (jm (hsE [1] [] 0 Y Y Y Y) (jC Y ?_))
  obtain ⟨t9, h3, hm⟩ := bindO hm
  refine jd [] [] Y Y Y Y Y Y Y call121 (fun w hh => z1 a220 a221 a222 a223 a224 a225 [] rb_1 qa3 na3 ca3 qa4 na4 ca4 qa5 na5 ca5 qa6 na6 ca6 l none 0 0 w (HV.callee (S0 := []) (vs0 := []) hh (roR hh 2 Y (roR hh 3 Y (roR hh 4 Y (roR hh 5 Y (roR hh 6 Y (roC (bsep (hh.bseg 0 Y)) (roC ⟨segOK.nil, fun hx => absurd Y hx⟩ roN)))))))) hna3 hqa3 hla3 hna4 hqa4 hla4 hna5 hqa5 hla5 hna6 hqa6 hla6 Y AOK.nil (Nat.le_refl 0) h3) (fun l_1 h4 => ?_)
  refine jm (hsE [1] [] 0 Y Y Y Y) (jp Y Y Y Y (fun _ _ => yZ Y) (jp Y Y Y Y (fun _ _ => km Y) (jQ (ja (ju ?_)))))
  obtain rfl := sj hm
  refine jj Y (fun w hh => (.tmp Y .nil)) (fun w hh => ⟨(), rfl, trivial, hh.se [1] [] 7 Y Y Y rfl⟩)
structure Ju where
  r0 : Bool
  a11 : (List Int)
def zk (l0 : (List Int)) (a11 : (List Int)) (a220 : Int) (a221 : Int) (a222 : (List Int)) (a223 : (List Sand)) (a224 : (List Sight)) (a225 : (List Int)) : Option Ju :=
 (zn l0).bind fun t8 =>
 (kU a220 a221 a222 a223 a224 a225 l0).bind fun t9 =>
 some (⟨(!t9), l0⟩ : Ju)
theorem YO (l0 : (List Int)) (a11 : (List Int)) (a220 : Int) (a221 : Int) (a222 : (List Int)) (a223 : (List Sand)) (a224 : (List Sight)) (a225 : (List Int)) (V_l0 : VL) (pb : Nat) (qa0 : Option Addr) (na0 ca0 : Nat) (rb : Nat) (rb_1 : Nat) (qa3 : Option Addr) (na3 ca3 : Nat) (qa4 : Option Addr) (na4 ca4 : Nat) (qa5 : Option Addr) (na5 ca5 : Nat) (qa6 : Option Addr) (na6 ca6 : Nat) (w : World) (hw : HV w (keys [kc pb #[.slice qa0 na0 ca0] 22] [vL 3 V_l0 (RI.enc l0)]) [kc pb #[.slice qa0 na0 ca0] 22] [vL 3 V_l0 (RI.enc l0)] [(aB qa0, aO qa0, RI.enc a11), (rb, 0, [ptr rb_1 0]), (rb_1, 0, [.int .i64 a220, .int .i64 a221, .slice qa3 na3 ca3, .slice qa4 na4 ca4, .slice qa5 na5 ca5, .slice qa6 na6 ca6]), (aB qa3, aO qa3, RI.enc a222), (aB qa4, aO qa4, RSa.enc a223), (aB qa5, aO qa5, RSi.enc a224), (aB qa6, aO qa6, RI.enc a225)] w) (hv_l0 : VOK 1 V_l0.n V_l0.cap (RI.enc l0) V_l0.sp V_l0.q) (hna0 : a11.length = na0) (hqa0 : AOK na0 qa0) (hla0 : na0 ≤ ca0)   (hna3 : a222.length = na3) (hqa3 : AOK na3 qa3) (hla3 : na3 ≤ ca3) (hna4 : a223.length = na4) (hqa4 : AOK na4 qa4) (hla4 : na4 ≤ ca4) (hna5 : a224.length = na5) (hqa5 : AOK na5 qa5) (hla5 : na5 ≤ ca5) (hna6 : a225.length = na6) (hqa6 : AOK na6 qa6) (hla6 : na6 ≤ ca6) {res : Ju} (hm : zk l0 a11 a220 a221 a222 a223 a224 a225 = some res) :
    Calls Tryz.prog 128 #[sL V_l0, ptr pb 0, ptr rb 0] w (fun en w' => ∃ l : VL, en = .returned (.bool res.r0) ∧ (VOK 1 l.n l.cap (RI.enc res.a11) l.sp l.q) ∧ HV w (keys [kc pb #[.slice qa0 na0 ca0] 22] [vL 3 V_l0 (RI.enc l0)]) [kc pb #[sL l] 22] [vL 3 l (RI.enc res.a11)] [] w') := by
  unfold zk at hm
  refine q5 func128 Y ntmps128 Y (e := [(0, _), (1, _), (2, _)]) Y hw (jr (jo Y Y (kY (jh Y Y (q6 (cs' := #[_]) (S' := [_]) 0 (fun w => sizeOf22 w) Y Y Y Y Y Y Y (jq (ji ?_)))))))
  refine kM none (.hoist 0 (.free 1 (.one 2 (.one 3 (.free 4 (.free 5 .done)))))) _ Y (by decide +kernel) (fun w k hh => hh.draw k) (fun w hh => hh) (jz Y Y Y Y (fun w hh => jy (isAgg146 w) Y (segCell (hh.seg 1 Y) 0 Y)) (za Y Y Y (jC Y ?_)))
  obtain ⟨t8, h2, hm⟩ := bindO hm
  refine jd [] [] Y Y Y Y Y Y Y call122 (fun w hh => QN l0 (qA V_l0.q) V_l0.n V_l0.cap w (HV.callee (S0 := []) (vs0 := []) hh (roC (hh.vsepA 0 Y hv_l0) roN)) (vlen RI hv_l0 Y) (AOK.q (vne hv_l0)) (hv_l0).hle h2) (fun l h3 => ?_)
  refine ka (S' := [_, _]) (vs' := [_]) [0, 1] [0] 0 Y Y Y Y (jm (hsE [1] [0] 0 Y Y Y Y) (jC Y ?_))
  obtain ⟨t9, h4, hm⟩ := bindO hm
  refine jd [] [] Y Y Y Y Y Y Y call121 (fun w hh => z1 a220 a221 a222 a223 a224 a225 l0 rb_1 qa3 na3 ca3 qa4 na4 ca4 qa5 na5 ca5 qa6 na6 ca6 l (qA V_l0.q) V_l0.n V_l0.cap w (HV.callee (S0 := []) (vs0 := []) hh (roR hh 2 Y (roR hh 3 Y (roR hh 4 Y (roR hh 5 Y (roR hh 6 Y (roC (bsep (hh.bseg 0 Y)) (roC (hh.vsepA 0 Y hv_l0) roN)))))))) hna3 hqa3 hla3 hna4 hqa4 hla4 hna5 hqa5 hla5 hna6 hqa6 hla6 (vlen RI hv_l0 Y) (AOK.q (vne hv_l0)) (hv_l0).hle h4) (fun l_1 h5 => ?_)
  refine jm (hsE [1] [0] 0 Y Y Y Y) (jp Y Y Y Y (fun _ _ => yZ Y) (jp Y Y Y Y (fun _ _ => km Y) (jQ (ja (ju ?_)))))
  obtain rfl := sj hm
  refine jj Y (fun w hh => (.tmp Y .nil)) (fun w hh => ⟨V_l0, rfl, hv_l0, hh.se [1] [0] 7 Y Y Y rfl⟩)
structure jG where
  r0 : Bool
  a33_c0 : (List Int)
structure ya where
  i9 : Int
  a33_c0 : (List Int)
structure KY where
  t36 : Bool
  a33_c0 : (List Int)
def ql (a33_c14 : (List Sight)) (l0 : (List Int)) (rec_ : (List Int) → Int → Int → (List Int) → Int → Int → (List Int) → (List Sand) → (List Sight) → (List Int) → Option jG) (a22 : Int) (a33_c10 : Int) (a33_c11 : Int) (a33_c12 : (List Int)) (a33_c13 : (List Sand)) (a33_c15 : (List Int)) (s : ya) : Option (ya ⊕ ((List Int) ⊕ jG)) :=
 if s.i9 < (a33_c14.length : Int) then
 (((addc s.i9 1).bind fun t35 =>
 (j7 l0).bind fun t30 =>
 (appc 8 t30 [s.i9]).bind fun t33 =>
 (rec_ t33 t35 a22 s.a33_c0 a33_c10 a33_c11 a33_c12 a33_c13 a33_c14 a33_c15).bind fun t36 =>
 some (⟨t36.r0, t36.a33_c0⟩ : KY)).bind fun o_1 =>
 if o_1.t36 = true then
 (some (.inr (.inr (⟨true, o_1.a33_c0⟩ : jG)))) else
 ((addc s.i9 1).bind fun t27 =>
 some (.inl (⟨t27, o_1.a33_c0⟩ : ya)))) else
 (some (.inr (.inl s.a33_c0)))
def qx (rec_ : (List Int) → Int → Int → (List Int) → Int → Int → (List Int) → (List Sand) → (List Sight) → (List Int) → Option jG) (l0 : (List Int)) (from1 : Int) (a22 : Int) (a33_c0 : (List Int)) (a33_c10 : Int) (a33_c11 : Int) (a33_c12 : (List Int)) (a33_c13 : (List Sand)) (a33_c14 : (List Sight)) (a33_c15 : (List Int)) : Option jG :=
 if (l0.length : Int) = a22 then
 ((zk l0 a33_c0 a33_c10 a33_c11 a33_c12 a33_c13 a33_c14 a33_c15).bind fun t16 =>
 some (⟨t16.r0, t16.a11⟩ : jG)) else
 ((iterM FU (ql a33_c14 l0 rec_ a22 a33_c10 a33_c11 a33_c12 a33_c13 a33_c15) (⟨from1, a33_c0⟩ : ya)).bind fun o =>
 oc o (fun j_1 => some (⟨false, j_1⟩ : jG)) (fun r_1 => some r_1))
def jN : Nat → (List Int) → Int → Int → (List Int) → Int → Int → (List Int) → (List Sand) → (List Sight) → (List Int) → Option jG
  | 0, _, _, _, _, _, _, _, _, _, _ => none
  | fu + 1, l0, from1, a22, a33_c0, a33_c10, a33_c11, a33_c12, a33_c13, a33_c14, a33_c15 => qx (jN fu) l0 from1 a22 a33_c0 a33_c10 a33_c11 a33_c12 a33_c13 a33_c14 a33_c15
theorem J4 (fu_ : Nat) : ∀ (l0 : (List Int)) (from1 : Int) (a22 : Int) (a33_c0 : (List Int)) (a33_c10 : Int) (a33_c11 : Int) (a33_c12 : (List Int)) (a33_c13 : (List Sand)) (a33_c14 : (List Sight)) (a33_c15 : (List Int)) (V_l0 : VL) (rb : Nat) (rb_1 : Nat) (pb : Nat) (V_a33_c0 : VL) (rb_2 : Nat) (rb_3 : Nat) (qa4 : Option Addr) (na4 ca4 : Nat) (qa5 : Option Addr) (na5 ca5 : Nat) (qa6 : Option Addr) (na6 ca6 : Nat) (qa7 : Option Addr) (na7 ca7 : Nat) (rb_4 : Nat) (rb_5 : Nat) (w : World) (hw : HV w (keys [kc pb #[sL V_a33_c0] 22] [vL 3 V_l0 (RI.enc l0), vL 3 V_a33_c0 (RI.enc a33_c0)]) [kc pb #[sL V_a33_c0] 22] [vL 3 V_l0 (RI.enc l0), vL 3 V_a33_c0 (RI.enc a33_c0)] [(rb, 0, [.int .i64 a22]), (rb_1, 0, [.func (.func 128) #[] #[ptr pb 0, ptr rb_2 0]]), (rb_2, 0, [ptr rb_3 0]), (rb_3, 0, [.int .i64 a33_c10, .int .i64 a33_c11, .slice qa4 na4 ca4, .slice qa5 na5 ca5, .slice qa6 na6 ca6, .slice qa7 na7 ca7]), (aB qa4, aO qa4, RI.enc a33_c12), (aB qa5, aO qa5, RSa.enc a33_c13), (aB qa6, aO qa6, RSi.enc a33_c14), (aB qa7, aO qa7, RI.enc a33_c15), (rb_4, 0, [ptr rb_3 0]), (rb_5, 0, [.func (.func 173) #[] #[ptr rb 0, ptr rb_1 0, ptr rb_4 0, ptr rb_5 0]])] w) (hv_l0 : VOK 1 V_l0.n V_l0.cap (RI.enc l0) V_l0.sp V_l0.q)   (hv_a33_c0 : VOK 1 V_a33_c0.n V_a33_c0.cap (RI.enc a33_c0) V_a33_c0.sp V_a33_c0.q)   (hna4 : a33_c12.length = na4) (hqa4 : AOK na4 qa4) (hla4 : na4 ≤ ca4) (hna5 : a33_c13.length = na5) (hqa5 : AOK na5 qa5) (hla5 : na5 ≤ ca5) (hna6 : a33_c14.length = na6) (hqa6 : AOK na6 qa6) (hla6 : na6 ≤ ca6) (hna7 : a33_c15.length = na7) (hqa7 : AOK na7 qa7) (hla7 : na7 ≤ ca7)   {res : jG} (hm : jN fu_ l0 from1 a22 a33_c0 a33_c10 a33_c11 a33_c12 a33_c13 a33_c14 a33_c15 = some res),
    Calls Tryz.prog 173 #[sL V_l0, .int .i64 from1, ptr rb 0, ptr rb_1 0, ptr rb_4 0, ptr rb_5 0] w (fun en w' => ∃ l : VL, en = .returned (.bool res.r0) ∧ (VOK 1 l.n l.cap (RI.enc res.a33_c0) l.sp l.q) ∧ HV w (keys [kc pb #[sL V_a33_c0] 22] [vL 3 V_l0 (RI.enc l0), vL 3 V_a33_c0 (RI.enc a33_c0)]) [kc pb #[sL l] 22] [vL 3 l (RI.enc res.a33_c0)] [] w') := by
  induction fu_ with
  | zero =>
    intros
    rename_i hm
    exact absurd hm (by simp [jN])
  | succ fu_ ih =>
  intro l0 from1 a22 a33_c0 a33_c10 a33_c11 a33_c12 a33_c13 a33_c14 a33_c15 V_l0 rb rb_1 pb V_a33_c0 rb_2 rb_3 qa4 na4 ca4 qa5 na5 ca5 qa6 na6 ca6 qa7 na7 ca7 rb_4 rb_5 w hw hv_l0   hv_a33_c0   hna4 hqa4 hla4 hna5 hqa5 hla5 hna6 hqa6 hla6 hna7 hqa7 hla7   res hm
  replace hm : qx (jN fu_) l0 from1 a22 a33_c0 a33_c10 a33_c11 a33_c12 a33_c13 a33_c14 a33_c15 = some res := hm
  unfold qx at hm
  refine q5 func173 Y ntmps173 Y (e := [(0, _), (1, _), (2, _), (3, _), (4, _), (5, _)]) Y hw (jr (jo Y Y (jq (ji (jr (jh Y Y (jc Y Y Y (fun w _ => zW (vlen RI hv_l0 Y) (runUnderlying22 w) Y) ?_)))))))
  refine jc Y Y Y (fun w hh => jy (isAgg3 w) Y (segCell (hh.seg 0 Y) 0 Y)) (jc Y Y Y (fun _ _ => zM Y Y) (jq ?_))
  refine jt Y (fun h2 => ?_) (fun h2 => ?_)
  ·replace hm := ifD h2 hm
   refine jr (jc Y Y Y (fun w hh => jy (isAgg186 w) Y (segCell (hh.seg 1 Y) 0 Y)) (jh Y Y ?_))
   obtain ⟨t16, h3, hm⟩ := bindO hm
   refine jd [_] [_] Y Y Y Y Y Y Y call128 (fun w hh => YO l0 a33_c0 a33_c10 a33_c11 a33_c12 a33_c13 a33_c14 a33_c15 ⟨V_l0.q, V_l0.n, V_l0.cap, V_l0.sp⟩ pb (qA V_a33_c0.q) V_a33_c0.n V_a33_c0.cap rb_2 rb_3 qa4 na4 ca4 qa5 na5 ca5 qa6 na6 ca6 qa7 na7 ca7 w (HV.callee (S0 := [_]) (vs0 := [_]) hh (roC (hh.vsepA 0 Y hv_a33_c0) (roR hh 2 Y (roR hh 3 Y (roR hh 4 Y (roR hh 5 Y (roR hh 6 Y (roR hh 7 Y roN)))))))) hv_l0 (vlen RI hv_a33_c0 Y) (AOK.q (vne hv_a33_c0)) (hv_a33_c0).hle hna4 hqa4 hla4 hna5 hqa5 hla5 hna6 hqa6 hla6 hna7 hqa7 hla7 h3) (fun l h4 => ?_)
   have h5 := h4
   refine ka (S' := [_]) (vs' := [_, _]) [0] [0, 1] 0 Y Y Y Y (jo Y Y (jq (ju (je ?_))))
   obtain rfl := sj hm
   refine jj Y (fun w hh => (.tmp Y .nil)) (fun w hh => ⟨l, rfl, h5, hh.se [0] [0] 10 Y Y Y rfl⟩)
  replace hm := ifE h2 hm
  refine js (ja (ji (jr (jh Y Y (jo Y Y (jq ?_))))))
  obtain ⟨o, h6, h7⟩ := bindO hm
  refine jU (ι := (List Int) × VL) (fun j => o = .inl j.1 ∧ VOK 1 j.2.n j.2.cap (RI.enc j.1) j.2.sp j.2.q) (fun j => []) (fun j => [kc pb #[sL j.2] 22]) (fun j => [vL 3 j.2 (RI.enc j.1)]) ?_ ?_
  ·replace hm := h6
   refine jn ?_
   refine j5 (ι := VL) hm (fun s l_1 => VOK 1 l_1.n l_1.cap (RI.enc s.a33_c0) l_1.sp l_1.q) (fun s l_1 => [(0, sL V_l0), (4, ptr rb_4 0), (5, ptr rb_5 0), (9, .int .i64 s.i9)]) (fun s l_1 => [kc pb #[sL l_1] 22]) (fun s l_1 => [vL 3 V_l0 (RI.enc l0), vL 3 l_1 (RI.enc s.a33_c0)]) V_a33_c0 (hv_a33_c0) (sE Y) (fun w hh => hh) (fun s l_1 r hpl hm h10 => ?_)
   have h9 := hpl
   unfold ql at hm
   refine ji (jr (jh Y Y (jc Y Y Y (fun w hh => jy (isAgg146 w) Y (segCell (hh.seg 8 Y) 0 Y)) (jc Y Y Y (fun _ _ => jR Y) (yJ 0 runUnderlying175 Y sizeOf26 Y Y (yJ 4 runUnderlying26 Y sizeOf24 Y Y (jc Y Y Y (fun w hh => jy (isAgg24 w) Y (segCell (hh.seg 3 Y) 4 Y)) ?_)))))))
   refine jc Y Y Y (fun w _ => k6 hna6 (runUnderlying24 w) Y) (Kk Y Y Y (jq ?_))
   refine jt Y (fun h11 => ?_) (fun h11 => ?_)
   ·replace hm := ifD h11 hm
    refine js (ja (ji (jn (ji ?_))))
    obtain ⟨o_1, h12, h13⟩ := bindO hm
    refine jU (ι := VL) (fun l_2 => VOK 1 l_2.n l_2.cap (RI.enc o_1.a33_c0) l_2.sp l_2.q) (fun l_2 => [(0, sL V_l0), (4, ptr rb_4 0), (5, ptr rb_5 0), (9, .int .i64 s.i9), (36, .bool o_1.t36)]) (fun l_2 => [kc pb #[sL l_2] 22]) (fun l_2 => [vL 3 V_l0 (RI.enc l0), vL 3 l_2 (RI.enc o_1.a33_c0)]) ?_ ?_
    ·replace hm := h12
     obtain ⟨t35, h15, hm⟩ := bindO hm
     obtain ⟨t30, h16, hm⟩ := bindO hm
     obtain ⟨t33, h17, hm⟩ := bindO hm
     obtain ⟨t36, h18, hm⟩ := bindO hm
     refine kM none (.hoist 0 (.free 1 (.free 3 (.free 6 (.free 7 (.br (.alt 2 (.one 4 (.one 5 (.one 8 .done))) (.alt 4 (.one 2 (.one 5 (.one 8 .done))) .nil)))))))) (HV _ _ [] [vL 3 V_l0 (RI.enc l0)] _) Y (by decide +kernel) (fun w k hh => hh.draw k) (hsE [] [0] 0 Y Y Y Y) ?_
     refine jz Y Y Y Y (fun w hh => jy (isAgg100 w) Y (segCell (hh.seg 9 Y) 0 Y)) (za Y Y Y (za Y Y Y (za Y Y Y (jp Y Y Y Y (fun _ _ => Kf h15 Y Y) (ZH ?_)))))
     refine zF Y ?_ ?_
     ·refine jd [] [] Y Y Y Y Y Y Y call74 (fun w hh => j6 l0 (qA V_l0.q) V_l0.n V_l0.cap w (HV.callee (S0 := []) (vs0 := []) hh (roC (hh.vsepA 0 Y hv_l0) roN)) (vlen RI hv_l0 Y) (AOK.q (vne hv_l0)) (hv_l0).hle h16) (fun l_3 h19 => ?_)
      have h20 := h19
      refine ka (S' := [_]) (vs' := [_, _, _]) [0] [0, 1, 2] 0 Y Y Y Y (jm (hsE [] [1] 0 Y Y Y Y) (jC Y ?_))
      refine qw RI [s.i9] (ps := [(0, _)]) (cells := [_]) (fun w => runUnderlying22 w) (fun w => sizeOf3 w) (fun w => zeroValue3 w) Y Y Y Y Y Y Y Y (fun L h21 => ?_)
      refine jm (hsE [] [2] 0 Y Y Y Y) (jC Y ?_)
      refine zR RI 1 h17 underlying22 KO Y Y Y Y Y h20 Y Y (vlen RI h21 Y) (AOK.q (vne h21)) (fun w hh => (hh.vsegA 0 Y h21)) Y (fun L_1 h22 h22n => ?_)
      refine ka (S' := [_]) (vs' := [_, _, _, _]) [0] [0, 1, 2, 3] 0 Y Y Y Y (jm (hsE [] [2] 0 Y Y Y Y) (jC Y (ka (S' := [_]) (vs' := [_, _, _, _]) [0] [1, 3, 0, 2] 0 Y Y Y Y ?_)))
      refine jd [_] [_, _] Y Y Y Y Y Y Y call173 (fun w hh => ih t33 t35 a22 s.a33_c0 a33_c10 a33_c11 a33_c12 a33_c13 a33_c14 a33_c15 ⟨L_1.q, L_1.n, L_1.cap, L_1.sp⟩ rb rb_1 pb ⟨l_1.q, l_1.n, l_1.cap, l_1.sp⟩ rb_2 rb_3 qa4 na4 ca4 qa5 na5 ca5 qa6 na6 ca6 qa7 na7 ca7 rb_4 rb_5 w (HV.callee (S0 := [_]) (vs0 := [_, _]) hh (roR hh 0 Y (roR hh 1 Y (roR hh 2 Y (roR hh 3 Y (roR hh 4 Y (roR hh 5 Y (roR hh 6 Y (roR hh 7 Y (roR hh 8 Y (roR hh 9 Y roN))))))))))) h22 h9 hna4 hqa4 hla4 hna5 hqa5 hla5 hna6 hqa6 hla6 hna7 hqa7 hla7 h18) (fun l_4 h23 => ?_)
      have h24 := h23
      refine ka (S' := [_]) (vs' := [_, _, _]) [0] [0, 1, 2] 0 Y Y Y Y (jm (hsE [] [2] 0 Y Y Y Y) (jQ ?_))
      obtain rfl := sj hm
      exact jl l_4 (h24) (sE Y) (hsE [0] [2, 0] 0 Y Y Y Y)
     refine zF Y ?_ ?_
     refine qw RI [s.i9] (ps := [(0, _)]) (cells := [_]) (fun w => runUnderlying22 w) (fun w => sizeOf3 w) (fun w => zeroValue3 w) Y Y Y Y Y Y Y Y (fun L_2 h25 => ?_)
     refine jm (hsE [] [1] 0 Y Y Y Y) (jC Y ?_)
     refine jd [] [] Y Y Y Y Y Y Y call74 (fun w hh => j6 l0 (qA V_l0.q) V_l0.n V_l0.cap w (HV.callee (S0 := []) (vs0 := []) hh (roC (hh.vsepA 1 Y hv_l0) roN)) (vlen RI hv_l0 Y) (AOK.q (vne hv_l0)) (hv_l0).hle h16) (fun l_5 h26 => ?_)
     have h27 := h26
     refine ka (S' := [_]) (vs' := [_, _, _, _]) [0] [0, 1, 2, 3] 0 Y Y Y Y (jm (hsE [] [2] 0 Y Y Y Y) (jC Y ?_))
     refine zR RI 0 h17 underlying22 KO Y Y Y Y Y h27 Y Y (vlen RI h25 Y) (AOK.q (vne h25)) (fun w hh => (hh.vsegA 1 Y h25)) Y (fun L_3 h28 h28n => ?_)
     refine ka (S' := [_]) (vs' := [_, _, _, _]) [0] [0, 1, 2, 3] 0 Y Y Y Y (jm (hsE [] [2] 0 Y Y Y Y) (jC Y (ka (S' := [_]) (vs' := [_, _, _, _]) [0] [0, 3, 1, 2] 0 Y Y Y Y ?_)))
     refine jd [_] [_, _] Y Y Y Y Y Y Y call173 (fun w hh => ih t33 t35 a22 s.a33_c0 a33_c10 a33_c11 a33_c12 a33_c13 a33_c14 a33_c15 ⟨L_3.q, L_3.n, L_3.cap, L_3.sp⟩ rb rb_1 pb ⟨l_1.q, l_1.n, l_1.cap, l_1.sp⟩ rb_2 rb_3 qa4 na4 ca4 qa5 na5 ca5 qa6 na6 ca6 qa7 na7 ca7 rb_4 rb_5 w (HV.callee (S0 := [_]) (vs0 := [_, _]) hh (roR hh 0 Y (roR hh 1 Y (roR hh 2 Y (roR hh 3 Y (roR hh 4 Y (roR hh 5 Y (roR hh 6 Y (roR hh 7 Y (roR hh 8 Y (roR hh 9 Y roN))))))))))) h28 h9 hna4 hqa4 hla4 hna5 hqa5 hla5 hna6 hqa6 hla6 hna7 hqa7 hla7 h18) (fun l_6 h29 => ?_)
     have h30 := h29
     refine ka (S' := [_]) (vs' := [_, _, _]) [0] [0, 1, 2] 0 Y Y Y Y (jm (hsE [] [2] 0 Y Y Y Y) (jQ ?_))
     obtain rfl := sj hm
     exact jl l_6 (h30) (sE Y) (hsE [0] [2, 0] 0 Y Y Y Y)
     exact QC
    intro l_2 hj
    have h14 := hj
    replace hm := h13
    refine ja ?_
    refine jt Y (fun h31 => ?_) (fun h31 => ?_)
    ·replace hm := ifT (h31) hm
     refine jr (jo Y Y (jq (ju (jB (je (je (jB ?_)))))))
     obtain rfl := sj hm
     have hbo := h10 _ Y
     subst hbo
     refine je ?_
     replace hm := ocR h7
     refine je ?_
     obtain rfl := sj hm
     refine jj Y (fun w hh => (.tmp Y .nil)) (fun w hh => ⟨l_2, rfl, h14, hh.se [0] [1] 10 Y Y Y rfl⟩)
    replace hm := ifN h31 hm
    refine js (jw (ja (jg (jh Y Y ?_))))
    obtain ⟨t27, h32, hm⟩ := bindO hm
    refine Ki h32 Y Y Y (jo Y Y (jx ?_))
    obtain rfl := sj hm
    refine ja ?_
    exact jL _ l_2 Y (h14) (sE Y) (fun w hh => hh)
   replace hm := ifE h11 hm
   refine ks (jk (jk (jM ?_)))
   obtain rfl := sj hm
   have hbo := h10 _ Y
   subst hbo
   exact jl (s.a33_c0, l_1) (⟨rfl, h9⟩) (.nil) (hsE [0] [1] 0 Y Y Y Y)
  rintro ⟨j_1, l_7⟩ hj
  obtain ⟨h34, h33⟩ := hj
  subst h34
  replace hm := ocL h7
  refine ja (jr (jo Y Y (jq (ju ?_))))
  obtain rfl := sj hm
  refine jj Y (fun w hh => (.tmp Y .nil)) (fun w hh => ⟨l_7, rfl, h33, hh.se [0] [0] 10 Y Y Y rfl⟩)
structure kh where
  r0 : Bool
  a33_c0 : (List Int)
structure yb where
  i9 : Int
  a33_c0 : (List Int)
structure K4 where
  t36 : Bool
  a33_c0 : (List Int)
def kH (a33_c14 : (List Sight)) (a22 : Int) (a33_c10 : Int) (a33_c11 : Int) (a33_c12 : (List Int)) (a33_c13 : (List Sand)) (a33_c15 : (List Int)) (s : yb) : Option (yb ⊕ ((List Int) ⊕ kh)) :=
 if s.i9 < (a33_c14.length : Int) then
 (((addc s.i9 1).bind fun t35 =>
 (j7 []).bind fun t30 =>
 (appc 8 t30 [s.i9]).bind fun t33 =>
 (jN FU t33 t35 a22 s.a33_c0 a33_c10 a33_c11 a33_c12 a33_c13 a33_c14 a33_c15).bind fun t36 =>
 some (⟨t36.r0, t36.a33_c0⟩ : K4)).bind fun o_1 =>
 if o_1.t36 = true then
 (some (.inr (.inr (⟨true, o_1.a33_c0⟩ : kh)))) else
 ((addc s.i9 1).bind fun t27 =>
 some (.inl (⟨t27, o_1.a33_c0⟩ : yb)))) else
 (some (.inr (.inl s.a33_c0)))
def qV (from1 : Int) (a22 : Int) (a33_c0 : (List Int)) (a33_c10 : Int) (a33_c11 : Int) (a33_c12 : (List Int)) (a33_c13 : (List Sand)) (a33_c14 : (List Sight)) (a33_c15 : (List Int)) : Option kh :=
 if 0 = a22 then
 ((zp a33_c0 a33_c10 a33_c11 a33_c12 a33_c13 a33_c14 a33_c15).bind fun t16 =>
 some (⟨t16, []⟩ : kh)) else
 ((iterM FU (kH a33_c14 a22 a33_c10 a33_c11 a33_c12 a33_c13 a33_c15) (⟨from1, a33_c0⟩ : yb)).bind fun o =>
 oc o (fun j_1 => some (⟨false, j_1⟩ : kh)) (fun r_1 => some r_1))
theorem QE (from1 : Int) (a22 : Int) (a33_c0 : (List Int)) (a33_c10 : Int) (a33_c11 : Int) (a33_c12 : (List Int)) (a33_c13 : (List Sand)) (a33_c14 : (List Sight)) (a33_c15 : (List Int)) (rb : Nat) (rb_1 : Nat) (pb : Nat) (V_a33_c0 : VL) (rb_2 : Nat) (rb_3 : Nat) (qa4 : Option Addr) (na4 ca4 : Nat) (qa5 : Option Addr) (na5 ca5 : Nat) (qa6 : Option Addr) (na6 ca6 : Nat) (qa7 : Option Addr) (na7 ca7 : Nat) (rb_4 : Nat) (rb_5 : Nat) (w : World) (hw : HV w (keys [kc pb #[sL V_a33_c0] 22] [vL 3 V_a33_c0 (RI.enc a33_c0)]) [kc pb #[sL V_a33_c0] 22] [vL 3 V_a33_c0 (RI.enc a33_c0)] [(rb, 0, [.int .i64 a22]), (rb_1, 0, [.func (.func 128) #[] #[ptr pb 0, ptr rb_2 0]]), (rb_2, 0, [ptr rb_3 0]), (rb_3, 0, [.int .i64 a33_c10, .int .i64 a33_c11, .slice qa4 na4 ca4, .slice qa5 na5 ca5, .slice qa6 na6 ca6, .slice qa7 na7 ca7]), (aB qa4, aO qa4, RI.enc a33_c12), (aB qa5, aO qa5, RSa.enc a33_c13), (aB qa6, aO qa6, RSi.enc a33_c14), (aB qa7, aO qa7, RI.enc a33_c15), (rb_4, 0, [ptr rb_3 0]), (rb_5, 0, [.func (.func 173) #[] #[ptr rb 0, ptr rb_1 0, ptr rb_4 0, ptr rb_5 0]])] w)   (hv_a33_c0 : VOK 1 V_a33_c0.n V_a33_c0.cap (RI.enc a33_c0) V_a33_c0.sp V_a33_c0.q)   (hna4 : a33_c12.length = na4) (hqa4 : AOK na4 qa4) (hla4 : na4 ≤ ca4) (hna5 : a33_c13.length = na5) (hqa5 : AOK na5 qa5) (hla5 : na5 ≤ ca5) (hna6 : a33_c14.length = na6) (hqa6 : AOK na6 qa6) (hla6 : na6 ≤ ca6) (hna7 : a33_c15.length = na7) (hqa7 : AOK na7 qa7) (hla7 : na7 ≤ ca7)   {res : kh} (hm : qV from1 a22 a33_c0 a33_c10 a33_c11 a33_c12 a33_c13 a33_c14 a33_c15 = some res) :
    Calls Tryz.prog 173 #[slv none 0 0, .int .i64 from1, ptr rb 0, ptr rb_1 0, ptr rb_4 0, ptr rb_5 0] w (fun en w' => ∃ l : VL, en = .returned (.bool res.r0) ∧ (VOK 1 l.n l.cap (RI.enc res.a33_c0) l.sp l.q) ∧ HV w (keys [kc pb #[sL V_a33_c0] 22] [vL 3 V_a33_c0 (RI.enc a33_c0)]) [kc pb #[sL l] 22] [vL 3 l (RI.enc res.a33_c0)] [] w') := by
  unfold qV at hm
  refine q5 func173 Y ntmps173 Y (e := [(0, _), (1, _), (2, _), (3, _), (4, _), (5, _)]) Y hw (jr (jo Y Y (jq (ji (jr (jh Y Y (jc Y Y Y (fun w _ => jah (runUnderlying22 w) Y) ?_)))))))
  refine jc Y Y Y (fun w hh => jy (isAgg3 w) Y (segCell (hh.seg 0 Y) 0 Y)) (jc Y Y Y (fun _ _ => zM Y Y) (jq ?_))
  refine jt Y (fun h2 => ?_) (fun h2 => ?_)
  ·replace hm := ifD h2 hm
   refine jr (jc Y Y Y (fun w hh => jy (isAgg186 w) Y (segCell (hh.seg 1 Y) 0 Y)) (jh Y Y ?_))
   obtain ⟨t16, h3, hm⟩ := bindO hm
   refine jd [_] [] Y Y Y Y Y Y Y call128 (fun w hh => YS a33_c0 a33_c10 a33_c11 a33_c12 a33_c13 a33_c14 a33_c15 pb (qA V_a33_c0.q) V_a33_c0.n V_a33_c0.cap rb_2 rb_3 qa4 na4 ca4 qa5 na5 ca5 qa6 na6 ca6 qa7 na7 ca7 w (HV.callee (S0 := [_]) (vs0 := []) hh (roC (hh.vsepA 0 Y hv_a33_c0) (roR hh 2 Y (roR hh 3 Y (roR hh 4 Y (roR hh 5 Y (roR hh 6 Y (roR hh 7 Y roN)))))))) (vlen RI hv_a33_c0 Y) (AOK.q (vne hv_a33_c0)) (hv_a33_c0).hle hna4 hqa4 hla4 hna5 hqa5 hla5 hna6 hqa6 hla6 hna7 hqa7 hla7 h3) (fun l h4 => ?_)
   refine ka (S' := [_]) (vs' := [_]) [0] [0] 0 Y Y Y Y (jo Y Y (jq (ju (je (zS 3 ?_)))))
   obtain rfl := sj hm
   refine jj Y (fun w hh => (.tmp Y .nil)) (fun w hh => ⟨⟨none, 0, 0, []⟩, rfl, VOK.nil, hh.se [0] [0] 10 Y Y Y rfl⟩)
  replace hm := ifE h2 hm
  refine js (ja (ji (jr (jh Y Y (jo Y Y (jq ?_))))))
  obtain ⟨o, h5, h6⟩ := bindO hm
  refine jU (ι := (List Int) × VL) (fun j => o = .inl j.1 ∧ VOK 1 j.2.n j.2.cap (RI.enc j.1) j.2.sp j.2.q) (fun j => []) (fun j => [kc pb #[sL j.2] 22]) (fun j => [vL 3 j.2 (RI.enc j.1)]) ?_ ?_
  ·replace hm := h5
   refine jn ?_
   refine j5 (ι := VL) hm (fun s l_1 => VOK 1 l_1.n l_1.cap (RI.enc s.a33_c0) l_1.sp l_1.q) (fun s l_1 => [(0, slv none 0 0), (4, ptr rb_4 0), (5, ptr rb_5 0), (9, .int .i64 s.i9)]) (fun s l_1 => [kc pb #[sL l_1] 22]) (fun s l_1 => [vL 3 l_1 (RI.enc s.a33_c0)]) V_a33_c0 (hv_a33_c0) (sE Y) (fun w hh => hh) (fun s l_1 r hpl hm h9 => ?_)
   have h8 := hpl
   unfold kH at hm
   refine ji (jr (jh Y Y (jc Y Y Y (fun w hh => jy (isAgg146 w) Y (segCell (hh.seg 8 Y) 0 Y)) (jc Y Y Y (fun _ _ => jR Y) (yJ 0 runUnderlying175 Y sizeOf26 Y Y (yJ 4 runUnderlying26 Y sizeOf24 Y Y (jc Y Y Y (fun w hh => jy (isAgg24 w) Y (segCell (hh.seg 3 Y) 4 Y)) ?_)))))))
   refine jc Y Y Y (fun w _ => k6 hna6 (runUnderlying24 w) Y) (Kk Y Y Y (jq ?_))
   refine jt Y (fun h10 => ?_) (fun h10 => ?_)
   ·replace hm := ifD h10 hm
    refine js (ja (ji (jn (ji ?_))))
    obtain ⟨o_1, h11, h12⟩ := bindO hm
    refine jU (ι := VL) (fun l_2 => VOK 1 l_2.n l_2.cap (RI.enc o_1.a33_c0) l_2.sp l_2.q) (fun l_2 => [(0, slv none 0 0), (4, ptr rb_4 0), (5, ptr rb_5 0), (9, .int .i64 s.i9), (36, .bool o_1.t36)]) (fun l_2 => [kc pb #[sL l_2] 22]) (fun l_2 => [vL 3 l_2 (RI.enc o_1.a33_c0)]) ?_ ?_
    ·replace hm := h11
     obtain ⟨t35, h14, hm⟩ := bindO hm
     obtain ⟨t30, h15, hm⟩ := bindO hm
     obtain ⟨t33, h16, hm⟩ := bindO hm
     obtain ⟨t36, h17, hm⟩ := bindO hm
     refine kM none (.hoist 0 (.free 1 (.free 3 (.free 6 (.free 7 (.br (.alt 2 (.one 4 (.one 5 (.one 8 .done))) (.alt 4 (.one 2 (.one 5 (.one 8 .done))) .nil)))))))) (HV _ _ [] [] _) Y (by decide +kernel) (fun w k hh => hh.draw k) (hsE [] [] 0 Y Y Y Y) ?_
     refine jz Y Y Y Y (fun w hh => jy (isAgg100 w) Y (segCell (hh.seg 9 Y) 0 Y)) (za Y Y Y (za Y Y Y (za Y Y Y (jp Y Y Y Y (fun _ _ => Kf h14 Y Y) (ZH ?_)))))
     refine zF Y ?_ ?_
     ·refine jd [] [] Y Y Y Y Y Y Y call74 (fun w hh => j6 [] none 0 0 w (HV.callee (S0 := []) (vs0 := []) hh (roC ⟨segOK.nil, fun hx => absurd Y hx⟩ roN)) Y AOK.nil (Nat.le_refl 0) h15) (fun l_3 h18 => ?_)
      have h19 := h18
      refine ka (S' := [_]) (vs' := [_, _]) [0] [0, 1] 0 Y Y Y Y (jm (hsE [] [] 0 Y Y Y Y) (jC Y ?_))
      refine qw RI [s.i9] (ps := [(0, _)]) (cells := [_]) (fun w => runUnderlying22 w) (fun w => sizeOf3 w) (fun w => zeroValue3 w) Y Y Y Y Y Y Y Y (fun L h20 => ?_)
      refine jm (hsE [] [] 0 Y Y Y Y) (jC Y ?_)
      refine zR RI 1 h16 underlying22 KO Y Y Y Y Y h19 Y Y (vlen RI h20 Y) (AOK.q (vne h20)) (fun w hh => (hh.vsegA 0 Y h20)) Y (fun L_1 h21 h21n => ?_)
      refine ka (S' := [_]) (vs' := [_, _, _]) [0] [0, 1, 2] 0 Y Y Y Y (jm (hsE [] [] 0 Y Y Y Y) (jC Y (ka (S' := [_]) (vs' := [_, _, _]) [0] [1, 2, 0] 0 Y Y Y Y ?_)))
      refine jd [_] [_, _] Y Y Y Y Y Y Y call173 (fun w hh => J4 FU t33 t35 a22 s.a33_c0 a33_c10 a33_c11 a33_c12 a33_c13 a33_c14 a33_c15 ⟨L_1.q, L_1.n, L_1.cap, L_1.sp⟩ rb rb_1 pb ⟨l_1.q, l_1.n, l_1.cap, l_1.sp⟩ rb_2 rb_3 qa4 na4 ca4 qa5 na5 ca5 qa6 na6 ca6 qa7 na7 ca7 rb_4 rb_5 w (HV.callee (S0 := [_]) (vs0 := [_, _]) hh (roR hh 0 Y (roR hh 1 Y (roR hh 2 Y (roR hh 3 Y (roR hh 4 Y (roR hh 5 Y (roR hh 6 Y (roR hh 7 Y (roR hh 8 Y (roR hh 9 Y roN))))))))))) h21 h8 hna4 hqa4 hla4 hna5 hqa5 hla5 hna6 hqa6 hla6 hna7 hqa7 hla7 h17) (fun l_4 h22 => ?_)
      have h23 := h22
      refine ka (S' := [_]) (vs' := [_, _]) [0] [0, 1] 0 Y Y Y Y (jm (hsE [] [] 0 Y Y Y Y) (jQ ?_))
      obtain rfl := sj hm
      exact jl l_4 (h23) (sE Y) (hsE [0] [0] 0 Y Y Y Y)
     refine zF Y ?_ ?_
     refine qw RI [s.i9] (ps := [(0, _)]) (cells := [_]) (fun w => runUnderlying22 w) (fun w => sizeOf3 w) (fun w => zeroValue3 w) Y Y Y Y Y Y Y Y (fun L_2 h24 => ?_)
     refine jm (hsE [] [] 0 Y Y Y Y) (jC Y ?_)
     refine jd [] [] Y Y Y Y Y Y Y call74 (fun w hh => j6 [] none 0 0 w (HV.callee (S0 := []) (vs0 := []) hh (roC ⟨segOK.nil, fun hx => absurd Y hx⟩ roN)) Y AOK.nil (Nat.le_refl 0) h15) (fun l_5 h25 => ?_)
     have h26 := h25
     refine ka (S' := [_]) (vs' := [_, _, _]) [0] [0, 1, 2] 0 Y Y Y Y (jm (hsE [] [] 0 Y Y Y Y) (jC Y ?_))
     refine zR RI 0 h16 underlying22 KO Y Y Y Y Y h26 Y Y (vlen RI h24 Y) (AOK.q (vne h24)) (fun w hh => (hh.vsegA 1 Y h24)) Y (fun L_3 h27 h27n => ?_)
     refine ka (S' := [_]) (vs' := [_, _, _]) [0] [0, 1, 2] 0 Y Y Y Y (jm (hsE [] [] 0 Y Y Y Y) (jC Y (ka (S' := [_]) (vs' := [_, _, _]) [0] [0, 2, 1] 0 Y Y Y Y ?_)))
     refine jd [_] [_, _] Y Y Y Y Y Y Y call173 (fun w hh => J4 FU t33 t35 a22 s.a33_c0 a33_c10 a33_c11 a33_c12 a33_c13 a33_c14 a33_c15 ⟨L_3.q, L_3.n, L_3.cap, L_3.sp⟩ rb rb_1 pb ⟨l_1.q, l_1.n, l_1.cap, l_1.sp⟩ rb_2 rb_3 qa4 na4 ca4 qa5 na5 ca5 qa6 na6 ca6 qa7 na7 ca7 rb_4 rb_5 w (HV.callee (S0 := [_]) (vs0 := [_, _]) hh (roR hh 0 Y (roR hh 1 Y (roR hh 2 Y (roR hh 3 Y (roR hh 4 Y (roR hh 5 Y (roR hh 6 Y (roR hh 7 Y (roR hh 8 Y (roR hh 9 Y roN))))))))))) h27 h8 hna4 hqa4 hla4 hna5 hqa5 hla5 hna6 hqa6 hla6 hna7 hqa7 hla7 h17) (fun l_6 h28 => ?_)
     have h29 := h28
     refine ka (S' := [_]) (vs' := [_, _]) [0] [0, 1] 0 Y Y Y Y (jm (hsE [] [] 0 Y Y Y Y) (jQ ?_))
     obtain rfl := sj hm
     exact jl l_6 (h29) (sE Y) (hsE [0] [0] 0 Y Y Y Y)
     exact QC
    intro l_2 hj
    have h13 := hj
    replace hm := h12
    refine ja ?_
    refine jt Y (fun h30 => ?_) (fun h30 => ?_)
    ·replace hm := ifT (h30) hm
     refine jr (jo Y Y (jq (ju (jB (je (je (jB ?_)))))))
     obtain rfl := sj hm
     have hbo := h9 _ Y
     subst hbo
     refine je ?_
     replace hm := ocR h6
     refine je ?_
     obtain rfl := sj hm
     refine jj Y (fun w hh => (.tmp Y .nil)) (fun w hh => ⟨l_2, rfl, h13, hh.se [0] [0] 10 Y Y Y rfl⟩)
    replace hm := ifN h30 hm
    refine js (jw (ja (jg (jh Y Y ?_))))
    obtain ⟨t27, h31, hm⟩ := bindO hm
    refine Ki h31 Y Y Y (jo Y Y (jx ?_))
    obtain rfl := sj hm
    refine ja ?_
    exact jL _ l_2 Y (h13) (sE Y) (fun w hh => hh)
   replace hm := ifE h10 hm
   refine ks (jk (jk (jM ?_)))
   obtain rfl := sj hm
   have hbo := h9 _ Y
   subst hbo
   exact jl (s.a33_c0, l_1) (⟨rfl, h8⟩) (.nil) (fun w hh => hh)
  rintro ⟨j_1, l_7⟩ hj
  obtain ⟨h33, h32⟩ := hj
  subst h33
  replace hm := ocL h6
  refine ja (jr (jo Y Y (jq (ju ?_))))
  obtain rfl := sj hm
  refine jj Y (fun w hh => (.tmp Y .nil)) (fun w hh => ⟨l_7, rfl, h32, hh.se [0] [0] 10 Y Y Y rfl⟩)
structure zP where
  r0 : Bool
  is2_c0 : (List Int)
def ze (d00 : Int) (d01 : Int) (d02 : (List Int)) (d03 : (List Sand)) (d04 : (List Sight)) (d05 : (List Int)) (many1 : Int) (is2_c0 : (List Int)) : Option zP :=
 (qV 0 many1 is2_c0 d00 d01 d02 d03 d04 d05).bind fun t10 =>
 some (⟨t10.r0, t10.a33_c0⟩ : zP)
theorem Q8 (d00 : Int) (d01 : Int) (d02 : (List Int)) (d03 : (List Sand)) (d04 : (List Sight)) (d05 : (List Int)) (many1 : Int) (is2_c0 : (List Int)) (rb : Nat) (qa1 : Option Addr) (na1 ca1 : Nat) (qa2 : Option Addr) (na2 ca2 : Nat) (qa3 : Option Addr) (na3 ca3 : Nat) (qa4 : Option Addr) (na4 ca4 : Nat) (pb : Nat) (V_is2_c0 : VL) (rb_1 : Nat) (w : World) (hw : HV w (keys [kc pb #[sL V_is2_c0] 22] [vL 3 V_is2_c0 (RI.enc is2_c0)]) [kc pb #[sL V_is2_c0] 22] [vL 3 V_is2_c0 (RI.enc is2_c0)] [(rb, 0, [.int .i64 d00, .int .i64 d01, .slice qa1 na1 ca1, .slice qa2 na2 ca2, .slice qa3 na3 ca3, .slice qa4 na4 ca4]), (aB qa1, aO qa1, RI.enc d02), (aB qa2, aO qa2, RSa.enc d03), (aB qa3, aO qa3, RSi.enc d04), (aB qa4, aO qa4, RI.enc d05), (rb_1, 0, [ptr rb 0])] w)  (hna1 : d02.length = na1) (hqa1 : AOK na1 qa1) (hla1 : na1 ≤ ca1) (hna2 : d03.length = na2) (hqa2 : AOK na2 qa2) (hla2 : na2 ≤ ca2) (hna3 : d04.length = na3) (hqa3 : AOK na3 qa3) (hla3 : na3 ≤ ca3) (hna4 : d05.length = na4) (hqa4 : AOK na4 qa4) (hla4 : na4 ≤ ca4) (hv_is2_c0 : VOK 1 V_is2_c0.n V_is2_c0.cap (RI.enc is2_c0) V_is2_c0.sp V_is2_c0.q)  {res : zP} (hm : ze d00 d01 d02 d03 d04 d05 many1 is2_c0 = some res) :
    Calls Tryz.prog 127 #[ptr rb 0, .int .i64 many1, .func (.func 128) #[] #[ptr pb 0, ptr rb_1 0]] w (fun en w' => ∃ l : VL, en = .returned (.bool res.r0) ∧ (VOK 1 l.n l.cap (RI.enc res.is2_c0) l.sp l.q) ∧ HV w (keys [kc pb #[sL V_is2_c0] 22] [vL 3 V_is2_c0 (RI.enc is2_c0)]) [kc pb #[sL l] 22] [vL 3 l (RI.enc res.is2_c0)] [] w') := by
  unfold ze at hm
  refine q5 func127 Y ntmps127 Y (e := [(0, _), (1, _), (2, _)]) Y hw (jr ?_)
  refine jK Y Y (fun b h2 => ?_)
  refine jK Y Y (fun b_1 h3 => ?_)
  refine jK Y Y (fun b_2 h4 => ?_)
  refine jo Y Y (kY ?_)
  refine jv (fun w => zeroValue100 w) Y (fun b_3 h5 => ?_)
  refine kY (jc Y Y Y (fun _ _ => jX (u := #[]) (u' := #[_, _, _, _]) Y Y) (q6 (cs' := #[_]) (S' := [_, _, _, _, _]) 0 (fun w => sizeOf100 w) Y Y Y Y Y Y Y (kY (yl 0 isAgg100 Y Y Y Y ?_))))
  obtain ⟨t10, h6, hm⟩ := bindO hm
  refine ka (S' := [_, _, _, _, _]) (vs' := [_]) [4, 0, 1, 2, 3] [0] 0 Y Y Y Y ?_
  refine jd [_] [_] Y Y Y Y Y Y Y call173 (fun w hh => QE 0 many1 is2_c0 d00 d01 d02 d03 d04 d05 b_1 b_2 pb ⟨V_is2_c0.q, V_is2_c0.n, V_is2_c0.cap, V_is2_c0.sp⟩ rb_1 rb qa1 na1 ca1 qa2 na2 ca2 qa3 na3 ca3 qa4 na4 ca4 b b_3 w (HV.callee (S0 := [_]) (vs0 := [_]) hh (roC (hh.bsepH 2 Y) (roC (hh.bsepH 1 Y) (roR hh 5 Y (roR hh 0 Y (roR hh 1 Y (roR hh 2 Y (roR hh 3 Y (roR hh 4 Y (roC (hh.bsepH 3 Y) (roC (hh.bsepH 0 Y) roN))))))))))) hv_is2_c0 hna1 hqa1 hla1 hna2 hqa2 hla2 hna3 hqa3 hla3 hna4 hqa4 hla4 h6) (fun l h7 => ?_)
  have h8 := h7
  refine ka (S' := [_, _, _, _, _]) (vs' := [_]) [0, 1, 2, 3, 4] [0] 0 Y Y Y Y (jo Y Y (jq (ju ?_)))
  obtain rfl := sj hm
  refine jj Y (fun w hh => (.tmp Y .nil)) (fun w hh => ⟨l, rfl, h8, hh.se [0] [0] 6 Y Y Y rfl⟩)
structure y9 where
  r1 : Int
  r0 : (List Int)
structure Jj where
  t22 : Int
  out6 : (List Int)
def yU (c0 : Channel) (t10b : zg) (s : Jj) : Option (Jj ⊕ (List Int)) :=
 if s.t22 < (c0.sights.length : Int) then
 ((addc s.t22 1).bind fun t27 =>
 (ze t10b.t14_0 t10b.t14_1 c0.fords c0.sands c0.sights t10b.t14_5 t27 s.out6).bind fun t29 =>
 if t29.r0 = true then
 (some (.inr t29.is2_c0)) else
 ((addc s.t22 1).bind fun t30 =>
 some (.inl (⟨t30, t29.is2_c0⟩ : Jj)))) else
 (some (.inr s.out6))
def JD (c0 : Channel) : Option y9 :=
 (qT c0).bind fun t10 =>
 oc t10 (fun t10a => some (⟨t10a, []⟩ : y9)) (fun t10b => (JX).bind fun t17 =>
 (yh t10b.t14_0 t10b.t14_1 c0.fords c0.sands c0.sights t10b.t14_5).bind fun t18 =>
 if t18 = true then
 (some (⟨6, []⟩ : y9)) else
 ((iterM FU (yU c0 t10b) (⟨0, []⟩ : Jj)).bind fun o =>
 some (⟨0, o⟩ : y9)))
theorem Zv (c0 : Channel) (qa0 : Option Addr) (na0 ca0 : Nat) (qa1 : Option Addr) (na1 ca1 : Nat) (qa2 : Option Addr) (na2 ca2 : Nat) (w : World) (hw : HV w (keys [] []) [] [] [(aB qa0, aO qa0, RI.enc c0.fords), (aB qa1, aO qa1, RSa.enc c0.sands), (aB qa2, aO qa2, RSi.enc c0.sights)] w) (hna0 : c0.fords.length = na0) (hqa0 : AOK na0 qa0) (hla0 : na0 ≤ ca0) (hna1 : c0.sands.length = na1) (hqa1 : AOK na1 qa1) (hla1 : na1 ≤ ca1) (hna2 : c0.sights.length = na2) (hqa2 : AOK na2 qa2) (hla2 : na2 ≤ ca2) {res : y9} (hm : JD c0 = some res) :
    Calls Tryz.prog 51 #[.agg #[.int .i64 c0.cells, .int .i64 c0.tides, .slice qa0 na0 ca0, .slice qa1 na1 ca1, .slice qa2 na2 ca2]] w (fun en w' => ∃ l : VL, en = .returned (.tuple #[sL l, .int .i64 res.r1]) ∧ (VOK 1 l.n l.cap (RI.enc res.r0) l.sp l.q) ∧ HV w (keys [] []) [] [vL 3 l (RI.enc res.r0)] [] w') := by
  unfold JD at hm
  refine q5 func51 Y ntmps51 Y (e := [(0, _)]) Y hw (jr ?_)
  refine jK Y Y (fun b h2 => ?_)
  refine jc Y Y Y (fun _ _ => ye Y) (jo Y Y (jq (ja0 (jr (Jy [_, _, _, _, _] 0 isAgg26 sizeOf26 Y Y Y Y ?_)))))
  obtain ⟨t10, h3, hm⟩ := bindO hm
  rcases t10 with t10a | t10b
  ·replace hm := ocL hm
   refine jd [] [] Y Y Y Y Y Y Y call93 (fun w hh => qB c0 qa0 na0 ca0 qa1 na1 ca1 qa2 na2 ca2 w (HV.callee (S0 := []) (vs0 := []) hh (roR hh 0 Y (roR hh 1 Y (roR hh 2 Y roN)))) hna0 hqa0 hla0 hna1 hqa1 hla1 hna2 hqa2 hla2 h3) (fun l h4 => ?_)
   have h5 := h4
   refine jh Y Y (zG Y Y Y (zG Y Y Y ?_))
   refine jv (fun w => zeroValue146 w) Y (fun b_1 h6 => ?_)
   refine q6 (cs' := #[_]) (S' := [_, _]) 0 (fun w => sizeOf146 w) Y Y Y Y Y Y Y (jo Y Y (jq (ji (jr (jh Y Y (jc Y Y Y (fun _ _ => YJ h5 Y Y) (jq ?_)))))))
   refine JP Y Y (jr (jh Y Y (jc Y Y Y (fun _ _ => ye Y) (jo Y Y (jq (ju (je ?_)))))))
   refine Z1 (zS 3 ?_)
   obtain rfl := sj hm
   refine jj Y (fun w hh => (.tmp Y (.tmp Y .nil))) (fun w hh => ⟨⟨none, 0, 0, []⟩, rfl, VOK.nil, hh.se [] [0] 3 Y Y Y rfl⟩)
  replace hm := ocR hm
  refine jd [] [] Y Y Y Y Y Y Y call93 (fun w hh => qB c0 qa0 na0 ca0 qa1 na1 ca1 qa2 na2 ca2 w (HV.callee (S0 := []) (vs0 := []) hh (roR hh 0 Y (roR hh 1 Y (roR hh 2 Y roN)))) hna0 hqa0 hla0 hna1 hqa1 hla1 hna2 hqa2 hla2 h3) (fun l_1 h7 => ?_)
  have h8 := h7
  refine ka (S' := [_, _]) (vs' := [_]) [0, 1] [0] 0 Y Y Y Y (jh Y Y (zG Y Y Y (zG Y Y Y ?_)))
  refine jv (fun w => zeroValue146 w) Y (fun b_2 h9 => ?_)
  refine q6 (cs' := #[_]) (S' := [_, _, _]) 0 (fun w => sizeOf146 w) Y Y Y Y Y Y Y (jo Y Y (jq (ji (jr (jh Y Y (jc Y Y Y (fun _ _ => JN Y Y) (jq ?_)))))))
  refine JU Y Y (js (ja (jr ?_)))
  refine jv (fun w => zeroValue22 w) Y (fun b_3 h10 => ?_)
  refine jq (ji (ji (kM none (.hoist 0 (.one 1 (.one 2 .done))) _ Y (by decide +kernel) (fun w k hh => hh.draw k) (fun w hh => hh) (K2 1 isAgg146 Y Y Y Y Y (jC Y ?_)))))
  obtain ⟨t17, h11, hm⟩ := bindO hm
  refine jd [] [] Y Y Y Y Y Y Y call126 (fun w hh => Q9  w (HV.callee (S0 := []) (vs0 := []) hh roN)  h11) (fun l_2 h12 => ?_)
  refine jm (fun w hh => hh) (jC Y ?_)
  obtain ⟨t18, h13, hm⟩ := bindO hm
  refine jd [] [] Y Y Y Y Y Y Y call121 (fun w hh => QX t10b.t14_0 t10b.t14_1 c0.fords c0.sands c0.sights t10b.t14_5 l_1.1 qa0 na0 ca0 qa1 na1 ca1 qa2 na2 ca2 (qA l_1.2.q) l_1.2.n l_1.2.cap w (HV.callee (S0 := []) (vs0 := []) hh (roC (bsep (hh.bseg 2 Y)) (roR hh 0 Y (roR hh 1 Y (roR hh 2 Y (roC (hh.vsepA 0 Y h8) roN)))))) hna0 hqa0 hla0 hna1 hqa1 hla1 hna2 hqa2 hla2 (vlen RI h8 Y) (AOK.q (vne h8)) (h8).hle h13) (fun l_3 h14 => ?_)
  refine jm (fun w hh => hh) (jQ (ja ?_))
  refine jt Y (fun h15 => ?_) (fun h15 => ?_)
  ·replace hm := ifT (h15) hm
   refine jr (jc Y Y Y (fun _ _ => ye Y) (jo Y Y (jq (ju (je (Z1 (zS 3 ?_)))))))
   obtain rfl := sj hm
   refine jj Y (fun w hh => (.tmp Y (.tmp Y .nil))) (fun w hh => ⟨⟨none, 0, 0, []⟩, rfl, VOK.nil, hh.se [] [0] 3 Y Y Y rfl⟩)
  replace hm := ifN h15 hm
  refine js (ja (ji (ja8 (ja (ji (jr (yJ 4 runUnderlying26 Y sizeOf24 Y Y ?_)))))))
  refine yl 3 isAgg24 Y Y Y Y (jc Y Y Y (fun w _ => k6 hna2 (runUnderlying24 w) Y) (jh Y Y (jq (zS 3 ?_))))
  obtain ⟨o, h16, h17⟩ := bindO hm
  refine jU (ι := VL) (fun l_4 => VOK 1 l_4.n l_4.cap (RI.enc o) l_4.sp l_4.q) (fun l_4 => [(6, ptr b_3 0)]) (fun l_4 => [kc b_3 #[sL l_4] 22, kc b_2 #[ptr l_1.1 0] 146, kc l_1.1 #[.int .i64 t10b.t14_0, .int .i64 t10b.t14_1, .slice qa0 na0 ca0, .slice qa1 na1 ca1, .slice qa2 na2 ca2, sL l_1.2] 175, kc b #[.int .i64 c0.cells, .int .i64 c0.tides, .slice qa0 na0 ca0, .slice qa1 na1 ca1, .slice qa2 na2 ca2] 26]) (fun l_4 => [vL 3 l_4 (RI.enc o), vL 3 l_1.2 (RI.enc t10b.t14_5)]) ?_ ?_
  ·replace hm := h16
   refine jn ?_
   refine j5 (ι := VL) hm (fun s l_5 => VOK 1 l_5.n l_5.cap (RI.enc s.out6) l_5.sp l_5.q) (fun s l_5 => [(4, ptr b_2 0), (6, ptr b_3 0), (21, .int .i64 (c0.sights.length : Int)), (22, .int .i64 s.t22)]) (fun s l_5 => [kc b_3 #[sL l_5] 22, kc b_2 #[ptr l_1.1 0] 146, kc l_1.1 #[.int .i64 t10b.t14_0, .int .i64 t10b.t14_1, .slice qa0 na0 ca0, .slice qa1 na1 ca1, .slice qa2 na2 ca2, sL l_1.2] 175, kc b #[.int .i64 c0.cells, .int .i64 c0.tides, .slice qa0 na0 ca0, .slice qa1 na1 ca1, .slice qa2 na2 ca2] 26]) (fun s l_5 => [vL 3 l_5 (RI.enc s.out6), vL 3 l_1.2 (RI.enc t10b.t14_5)]) ⟨none, 0, 0, []⟩ (VOK.nil) (sE Y) (fun w hh => hh) (fun s l_5 r hpl hm h20 => ?_)
   have h19 := hpl
   unfold yU at hm
   refine jr (Kk Y Y Y (jq (ji ?_)))
   refine jt Y (fun h21 => ?_) (fun h21 => ?_)
   ·replace hm := ifD h21 hm
    refine js (ja (ji (jn (jr (jh Y Y (jo Y Y (kY ?_)))))))
    refine yl 1 isAgg146 Y Y Y Y (jh Y Y ?_)
    obtain ⟨t27, h22, hm⟩ := bindO hm
    refine Ki h22 Y Y Y (jc Y Y Y (fun _ _ => jX (u := #[]) (u' := #[_, _]) Y Y) ?_)
    obtain ⟨t29, h23, hm⟩ := bindO hm
    refine jd [_] [_] Y Y Y Y Y Y Y call127 (fun w hh => Q8 t10b.t14_0 t10b.t14_1 c0.fords c0.sands c0.sights t10b.t14_5 t27 s.out6 l_1.1 qa0 na0 ca0 qa1 na1 ca1 qa2 na2 ca2 (qA l_1.2.q) l_1.2.n l_1.2.cap b_3 ⟨l_5.q, l_5.n, l_5.cap, l_5.sp⟩ b_2 w (HV.callee (S0 := [_]) (vs0 := [_]) hh (roC (hh.bsepH 1 Y) (roR hh 0 Y (roR hh 1 Y (roR hh 2 Y (roC (hh.vsepA 0 Y h8) (roC (hh.bsepH 0 Y) roN))))))) hna0 hqa0 hla0 hna1 hqa1 hla1 hna2 hqa2 hla2 (vlen RI h8 Y) (AOK.q (vne h8)) (h8).hle h19 h23) (fun l_6 h24 => ?_)
    have h25 := h24
    refine ka (S' := [_, _, _, _]) (vs' := [_, _]) [0, 1, 2, 3] [0, 1] 0 Y Y Y Y (jq ?_)
    refine jt Y (fun h26 => ?_) (fun h26 => ?_)
    ·replace hm := ifT (h26) hm
     refine ks (jbf Y (jk (jk (jM ?_))))
     obtain rfl := sj hm
     have hbo := h20 _ Y
     subst hbo
     exact jl l_6 (h25) (sE Y) (fun w hh => hh)
    replace hm := ifN h26 hm
    refine js (jw (ja (jg ?_)))
    obtain ⟨t30, h27, hm⟩ := bindO hm
    refine Ki h27 Y Y Y (jh Y Y (jx ?_))
    obtain rfl := sj hm
    refine ja ?_
    exact jL _ l_6 Y (h25) (sE Y) (fun w hh => hh)
   replace hm := ifE h21 hm
   refine ks (jk (jk (jM ?_)))
   obtain rfl := sj hm
   have hbo := h20 _ Y
   subst hbo
   exact jl l_5 (h19) (sE Y) (fun w hh => hh)
  intro l_4 hj
  have h18 := hj
  replace hm := h17
  refine ja (jr (yl 0 isAgg22 Y Y Y Y (jo Y Y (jo Y Y (jq (ju (Z1 ?_)))))))
  obtain rfl := sj hm
  refine jj Y (fun w hh => (.tmp Y (.tmp Y .nil))) (fun w hh => ⟨l_4, rfl, h18, hh.se [] [0] 3 Y Y Y rfl⟩)
def JJ (i0 : Int) (a11_cells : Int) (a11_tides : Int) (a11_fords : (List Int)) (a11_sands : (List Sand)) (a11_sights : (List Sight)) : Option Bool :=
 (subc (a11_sights.length : Int) 1).bind fun t8 =>
 (qp i0 0 t8).bind fun t9 =>
 some t9
theorem Y6 (i0 : Int) (a11_cells : Int) (a11_tides : Int) (a11_fords : (List Int)) (a11_sands : (List Sand)) (a11_sights : (List Sight)) (rb : Nat) (qa1 : Option Addr) (na1 ca1 : Nat) (qa2 : Option Addr) (na2 ca2 : Nat) (qa3 : Option Addr) (na3 ca3 : Nat) (w : World) (hw : HV w (keys [] []) [] [] [(rb, 0, [.int .i64 a11_cells, .int .i64 a11_tides, .slice qa1 na1 ca1, .slice qa2 na2 ca2, .slice qa3 na3 ca3]), (aB qa1, aO qa1, RI.enc a11_fords), (aB qa2, aO qa2, RSa.enc a11_sands), (aB qa3, aO qa3, RSi.enc a11_sights)] w)  (hna1 : a11_fords.length = na1) (hqa1 : AOK na1 qa1) (hla1 : na1 ≤ ca1) (hna2 : a11_sands.length = na2) (hqa2 : AOK na2 qa2) (hla2 : na2 ≤ ca2) (hna3 : a11_sights.length = na3) (hqa3 : AOK na3 qa3) (hla3 : na3 ≤ ca3) {res : Bool} (hm : JJ i0 a11_cells a11_tides a11_fords a11_sands a11_sights = some res) :
    Calls Tryz.prog 120 #[.int .i64 i0, ptr rb 0] w (fun en w' => ∃ l : Unit, en = .returned (.bool res) ∧ (True) ∧ HV w (keys [] []) [] [] [] w') := by
  unfold JJ at hm
  refine q5 func120 Y ntmps120 Y (e := [(0, _), (1, _)]) Y hw (jr (jo Y Y (kY (jh Y Y (yJ 4 runUnderlying26 Y sizeOf24 Y Y (jc Y Y Y (fun w hh => jy (isAgg24 w) Y (segCell (hh.seg 0 Y) 4 Y)) (jc Y Y Y (fun w _ => k6 hna3 (runUnderlying24 w) Y) ?_)))))))
  obtain ⟨t8, h1, hm⟩ := bindO hm
  refine jc Y Y Y (fun _ _ => zH h1 Y Y) ?_
  obtain ⟨t9, h2, hm⟩ := bindO hm
  refine jd [] [] Y Y Y Y Y Y Y call106 (fun w hh => zO i0 0 t8 w (HV.callee (S0 := []) (vs0 := []) hh roN)  h2) (fun l h3 => ?_)
  refine jo Y Y (jq (ju ?_))
  obtain rfl := sj hm
  refine jj Y (fun w hh => (.tmp Y .nil)) (fun w hh => ⟨(), rfl, trivial, hh.se [] [] 4 Y Y Y rfl⟩)
end Go.Proofs.Wb

namespace Go.Proofs.Wb
set_option maxHeartbeats 4000000
set_option maxRecDepth 100000
open Go Go.Fw Go.Gx Go.Sb
open Tryz
set_option linter.unusedVariables false
def yY (x0 : Int) (a11_c0_cells : Int) (a11_c0_tides : Int) (a11_c0_fords : (List Int)) (a11_c0_sands : (List Sand)) (a11_c0_sights : (List Sight)) : Option Bool :=
 (JJ x0 a11_c0_cells a11_c0_tides a11_c0_fords a11_c0_sands a11_c0_sights).bind fun t6 =>
 some (!t6)
theorem QW (x0 : Int) (a11_c0_cells : Int) (a11_c0_tides : Int) (a11_c0_fords : (List Int)) (a11_c0_sands : (List Sand)) (a11_c0_sights : (List Sight)) (rb : Nat) (rb_1 : Nat) (qa2 : Option Addr) (na2 ca2 : Nat) (qa3 : Option Addr) (na3 ca3 : Nat) (qa4 : Option Addr) (na4 ca4 : Nat) (w : World) (hw : HV w (keys [] []) [] [] [(rb, 0, [.func (.func 120) #[] #[ptr rb_1 0]]), (rb_1, 0, [.int .i64 a11_c0_cells, .int .i64 a11_c0_tides, .slice qa2 na2 ca2, .slice qa3 na3 ca3, .slice qa4 na4 ca4]), (aB qa2, aO qa2, RI.enc a11_c0_fords), (aB qa3, aO qa3, RSa.enc a11_c0_sands), (aB qa4, aO qa4, RSi.enc a11_c0_sights)] w)   (hna2 : a11_c0_fords.length = na2) (hqa2 : AOK na2 qa2) (hla2 : na2 ≤ ca2) (hna3 : a11_c0_sands.length = na3) (hqa3 : AOK na3 qa3) (hla3 : na3 ≤ ca3) (hna4 : a11_c0_sights.length = na4) (hqa4 : AOK na4 qa4) (hla4 : na4 ≤ ca4) {res : Bool} (hm : yY x0 a11_c0_cells a11_c0_tides a11_c0_fords a11_c0_sands a11_c0_sights = some res) :
    Calls Tryz.prog 170 #[.int .i64 x0, ptr rb 0] w (fun en w' => ∃ l : Unit, en = .returned (.bool res) ∧ (True) ∧ HV w (keys [] []) [] [] [] w') := by
  unfold yY at hm
  refine q5 func170 Y ntmps170 Y (e := [(0, _), (1, _)]) Y hw (jr (jo Y Y (kY (jc Y Y Y (fun w hh => jy (isAgg102 w) Y (segCell (hh.seg 0 Y) 0 Y)) (jh Y Y ?_)))))
  obtain ⟨t6, h1, hm⟩ := bindO hm
  refine jd [] [] Y Y Y Y Y Y Y call120 (fun w hh => Y6 x0 a11_c0_cells a11_c0_tides a11_c0_fords a11_c0_sands a11_c0_sights rb_1 qa2 na2 ca2 qa3 na3 ca3 qa4 na4 ca4 w (HV.callee (S0 := []) (vs0 := []) hh (roR hh 1 Y (roR hh 2 Y (roR hh 3 Y (roR hh 4 Y roN))))) hna2 hqa2 hla2 hna3 hqa3 hla3 hna4 hqa4 hla4 h1) (fun l h2 => ?_)
  refine jc Y Y Y (fun _ _ => yZ Y) (jo Y Y (jq (ju ?_)))
  obtain rfl := sj hm
  refine jj Y (fun w hh => (.tmp Y .nil)) (fun w hh => ⟨(), rfl, trivial, hh.se [] [] 5 Y Y Y rfl⟩)
def qg (s0 : (List Int)) (f1_c0_c0_cells : Int) (f1_c0_c0_tides : Int) (f1_c0_c0_fords : (List Int)) (f1_c0_c0_sands : (List Sand)) (f1_c0_c0_sights : (List Sight)) (s : Int) : Option (Int ⊕ (Unit ⊕ Int)) :=
 if s < (s0.length : Int) then
 ((ix s0 s).bind fun t14 =>
 (yY t14 f1_c0_c0_cells f1_c0_c0_tides f1_c0_c0_fords f1_c0_c0_sands f1_c0_c0_sights).bind fun t16 =>
 if t16 = true then
 (some (.inr (.inr s))) else
 ((addc s 1).bind fun t18 =>
 some (.inl t18))) else
 (some (.inr (.inl ())))
def yM (s0 : (List Int)) (f1_c0_c0_cells : Int) (f1_c0_c0_tides : Int) (f1_c0_c0_fords : (List Int)) (f1_c0_c0_sands : (List Sand)) (f1_c0_c0_sights : (List Sight)) : Option Int :=
 (iterM FU (qg s0 f1_c0_c0_cells f1_c0_c0_tides f1_c0_c0_fords f1_c0_c0_sands f1_c0_c0_sights) 0).bind fun o =>
 oc o (fun j => some (-1)) (fun r_1 => some r_1)
theorem QH (s0 : (List Int)) (f1_c0_c0_cells : Int) (f1_c0_c0_tides : Int) (f1_c0_c0_fords : (List Int)) (f1_c0_c0_sands : (List Sand)) (f1_c0_c0_sights : (List Sight)) (qa0 : Option Addr) (na0 ca0 : Nat) (rb : Nat) (rb_1 : Nat) (qa3 : Option Addr) (na3 ca3 : Nat) (qa4 : Option Addr) (na4 ca4 : Nat) (qa5 : Option Addr) (na5 ca5 : Nat) (w : World) (hw : HV w (keys [] []) [] [] [(aB qa0, aO qa0, RI.enc s0), (rb, 0, [.func (.func 120) #[] #[ptr rb_1 0]]), (rb_1, 0, [.int .i64 f1_c0_c0_cells, .int .i64 f1_c0_c0_tides, .slice qa3 na3 ca3, .slice qa4 na4 ca4, .slice qa5 na5 ca5]), (aB qa3, aO qa3, RI.enc f1_c0_c0_fords), (aB qa4, aO qa4, RSa.enc f1_c0_c0_sands), (aB qa5, aO qa5, RSi.enc f1_c0_c0_sights)] w) (hna0 : s0.length = na0) (hqa0 : AOK na0 qa0) (hla0 : na0 ≤ ca0)   (hna3 : f1_c0_c0_fords.length = na3) (hqa3 : AOK na3 qa3) (hla3 : na3 ≤ ca3) (hna4 : f1_c0_c0_sands.length = na4) (hqa4 : AOK na4 qa4) (hla4 : na4 ≤ ca4) (hna5 : f1_c0_c0_sights.length = na5) (hqa5 : AOK na5 qa5) (hla5 : na5 ≤ ca5) {res : Int} (hm : yM s0 f1_c0_c0_cells f1_c0_c0_tides f1_c0_c0_fords f1_c0_c0_sands f1_c0_c0_sights = some res) :
    Calls Tryz.prog 148 #[.slice qa0 na0 ca0, .func (.func 170) #[] #[ptr rb 0]] w (fun en w' => ∃ l : Unit, en = .returned (.int .i64 res) ∧ (True) ∧ HV w (keys [] []) [] [] [] w') := by
  unfold yM at hm
  refine q5 func148 Y ntmps148 Y (e := [(0, _), (1, _)]) Y hw (jr (jo Y Y (jq (ji (jr (jh Y Y (jc Y Y Y (fun w _ => k6 hna0 (runUnderlying22 w) Y) ?_)))))))
  refine jh Y Y (jq ?_)
  obtain ⟨o, h1, h2⟩ := bindO hm
  refine jU (ι := Unit) (fun j => o = .inl j) (fun j => []) (fun j => []) (fun j => []) ?_ ?_
  ·replace hm := h1
   refine jn ?_
   refine j5 (ι := Unit) hm (fun s l => True) (fun s l => [(0, .slice qa0 na0 ca0), (1, .func (.func 170) #[] #[ptr rb 0]), (7, .int .i64 (s0.length : Int)), (8, .int .i64 s)]) (fun s l => []) (fun s l => []) () (trivial) (sE Y) (fun w hh => hh) (fun s l r hpl hm h3 => ?_)
   unfold qg at hm
   refine jr (Kk Y Y Y (jq (ji ?_)))
   refine jt Y (fun h4 => ?_) (fun h4 => ?_)
   ·replace hm := ifD h4 hm
    refine js (ja (ji (jn (jr (jh Y Y (jo Y Y (kY ?_)))))))
    refine jh Y Y (jh Y Y (jh Y Y ?_))
    obtain ⟨t14, h5, hm⟩ := bindO hm
    refine jc Y Y Y (fun w _ => Jf h5 (runUnderlying22 w) (sizeOf3 w) Y Y hna0 hqa0) (jc Y Y Y (fun w hh => zN RI 0 h5 (isAgg3 w) Y (hh.seg 0 Y) Y (Nat.add_zero _).symm) ?_)
    obtain ⟨t16, h6, hm⟩ := bindO hm
    refine jd [] [] Y Y Y Y Y Y Y call170 (fun w hh => QW t14 f1_c0_c0_cells f1_c0_c0_tides f1_c0_c0_fords f1_c0_c0_sands f1_c0_c0_sights rb rb_1 qa3 na3 ca3 qa4 na4 ca4 qa5 na5 ca5 w (HV.callee (S0 := []) (vs0 := []) hh (roR hh 1 Y (roR hh 2 Y (roR hh 3 Y (roR hh 4 Y (roR hh 5 Y roN)))))) hna3 hqa3 hla3 hna4 hqa4 hla4 hna5 hqa5 hla5 h6) (fun l_1 h7 => ?_)
    refine jq ?_
    refine jt Y (fun h8 => ?_) (fun h8 => ?_)
    ·replace hm := ifT (h8) hm
     refine jr (jh Y Y (jo Y Y (jq (ju (jB (je (je ?_)))))))
     refine jB ?_
     obtain rfl := sj hm
     have hbo := h3 _ Y
     subst hbo
     refine je ?_
     replace hm := ocR h2
     refine je ?_
     obtain rfl := sj hm
     refine jj Y (fun w hh => (.tmp Y .nil)) (fun w hh => ⟨(), rfl, trivial, hh.se [] [] 6 Y Y Y rfl⟩)
    replace hm := ifN h8 hm
    refine js (jw (ja (jg ?_)))
    obtain ⟨t18, h9, hm⟩ := bindO hm
    refine Ki h9 Y Y Y (jh Y Y (jx ?_))
    obtain rfl := sj hm
    refine ja ?_
    exact jL _ () Y (trivial) (sE Y) (fun w hh => hh)
   replace hm := ifE h4 hm
   refine ks (jk (jk (jM ?_)))
   obtain rfl := sj hm
   have hbo := h3 _ Y
   subst hbo
   exact jl () (Y) (.nil) (fun w hh => hh)
  intro j hj
  have h10 := hj
  subst h10
  replace hm := ocL h2
  refine ja (jr (jo Y Y (jq (ju ?_))))
  obtain rfl := sj hm
  refine jj Y (fun w hh => (.tmp Y .nil)) (fun w hh => ⟨(), rfl, trivial, hh.se [] [] 6 Y Y Y rfl⟩)
def q8 (s0 : (List Int)) (f1_c0_c0_cells : Int) (f1_c0_c0_tides : Int) (f1_c0_c0_fords : (List Int)) (f1_c0_c0_sands : (List Sand)) (f1_c0_c0_sights : (List Sight)) : Option Bool :=
 (yM s0 f1_c0_c0_cells f1_c0_c0_tides f1_c0_c0_fords f1_c0_c0_sands f1_c0_c0_sights).bind fun t7 =>
 some (decide (0 ≤ t7))
theorem K1 (s0 : (List Int)) (f1_c0_c0_cells : Int) (f1_c0_c0_tides : Int) (f1_c0_c0_fords : (List Int)) (f1_c0_c0_sands : (List Sand)) (f1_c0_c0_sights : (List Sight)) (qa0 : Option Addr) (na0 ca0 : Nat) (rb : Nat) (rb_1 : Nat) (qa3 : Option Addr) (na3 ca3 : Nat) (qa4 : Option Addr) (na4 ca4 : Nat) (qa5 : Option Addr) (na5 ca5 : Nat) (w : World) (hw : HV w (keys [] []) [] [] [(aB qa0, aO qa0, RI.enc s0), (rb, 0, [.func (.func 120) #[] #[ptr rb_1 0]]), (rb_1, 0, [.int .i64 f1_c0_c0_cells, .int .i64 f1_c0_c0_tides, .slice qa3 na3 ca3, .slice qa4 na4 ca4, .slice qa5 na5 ca5]), (aB qa3, aO qa3, RI.enc f1_c0_c0_fords), (aB qa4, aO qa4, RSa.enc f1_c0_c0_sands), (aB qa5, aO qa5, RSi.enc f1_c0_c0_sights)] w) (hna0 : s0.length = na0) (hqa0 : AOK na0 qa0) (hla0 : na0 ≤ ca0)   (hna3 : f1_c0_c0_fords.length = na3) (hqa3 : AOK na3 qa3) (hla3 : na3 ≤ ca3) (hna4 : f1_c0_c0_sands.length = na4) (hqa4 : AOK na4 qa4) (hla4 : na4 ≤ ca4) (hna5 : f1_c0_c0_sights.length = na5) (hqa5 : AOK na5 qa5) (hla5 : na5 ≤ ca5) {res : Bool} (hm : q8 s0 f1_c0_c0_cells f1_c0_c0_tides f1_c0_c0_fords f1_c0_c0_sands f1_c0_c0_sights = some res) :
    Calls Tryz.prog 65 #[.slice qa0 na0 ca0, .func (.func 170) #[] #[ptr rb 0]] w (fun en w' => ∃ l : Unit, en = .returned (.bool res) ∧ (True) ∧ HV w (keys [] []) [] [] [] w') := by
  unfold q8 at hm
  refine q5 func65 Y ntmps65 Y (e := [(0, _), (1, _)]) Y hw (jr (jo Y Y (kY (jh Y Y (jh Y Y ?_)))))
  obtain ⟨t7, h1, hm⟩ := bindO hm
  refine jd [] [] Y Y Y Y Y Y Y call148 (fun w hh => QH s0 f1_c0_c0_cells f1_c0_c0_tides f1_c0_c0_fords f1_c0_c0_sands f1_c0_c0_sights qa0 na0 ca0 rb rb_1 qa3 na3 ca3 qa4 na4 ca4 qa5 na5 ca5 w (HV.callee (S0 := []) (vs0 := []) hh (roR hh 0 Y (roR hh 1 Y (roR hh 2 Y (roR hh 3 Y (roR hh 4 Y (roR hh 5 Y roN))))))) hna0 hqa0 hla0 hna3 hqa3 hla3 hna4 hqa4 hla4 hna5 hqa5 hla5 h1) (fun l h2 => ?_)
  refine jc Y Y Y (fun _ _ => YA Y Y) (jo Y Y (jq (ju ?_)))
  obtain rfl := sj hm
  refine jj Y (fun w hh => (.tmp Y .nil)) (fun w hh => ⟨(), rfl, trivial, hh.se [] [] 6 Y Y Y rfl⟩)
def yC (l0 : (List Int)) (holds1_c0_cells : Int) (holds1_c0_tides : Int) (holds1_c0_fords : (List Int)) (holds1_c0_sands : (List Sand)) (holds1_c0_sights : (List Sight)) : Option Bool :=
 (q8 l0 holds1_c0_cells holds1_c0_tides holds1_c0_fords holds1_c0_sands holds1_c0_sights).bind fun t7 =>
 some (!t7)
theorem Ym (l0 : (List Int)) (holds1_c0_cells : Int) (holds1_c0_tides : Int) (holds1_c0_fords : (List Int)) (holds1_c0_sands : (List Sand)) (holds1_c0_sights : (List Sight)) (qa0 : Option Addr) (na0 ca0 : Nat) (rb : Nat) (qa2 : Option Addr) (na2 ca2 : Nat) (qa3 : Option Addr) (na3 ca3 : Nat) (qa4 : Option Addr) (na4 ca4 : Nat) (w : World) (hw : HV w (keys [] []) [] [] [(aB qa0, aO qa0, RI.enc l0), (rb, 0, [.int .i64 holds1_c0_cells, .int .i64 holds1_c0_tides, .slice qa2 na2 ca2, .slice qa3 na3 ca3, .slice qa4 na4 ca4]), (aB qa2, aO qa2, RI.enc holds1_c0_fords), (aB qa3, aO qa3, RSa.enc holds1_c0_sands), (aB qa4, aO qa4, RSi.enc holds1_c0_sights)] w) (hna0 : l0.length = na0) (hqa0 : AOK na0 qa0) (hla0 : na0 ≤ ca0)  (hna2 : holds1_c0_fords.length = na2) (hqa2 : AOK na2 qa2) (hla2 : na2 ≤ ca2) (hna3 : holds1_c0_sands.length = na3) (hqa3 : AOK na3 qa3) (hla3 : na3 ≤ ca3) (hna4 : holds1_c0_sights.length = na4) (hqa4 : AOK na4 qa4) (hla4 : na4 ≤ ca4) {res : Bool} (hm : yC l0 holds1_c0_cells holds1_c0_tides holds1_c0_fords holds1_c0_sands holds1_c0_sights = some res) :
    Calls Tryz.prog 119 #[.slice qa0 na0 ca0, .func (.func 120) #[] #[ptr rb 0]] w (fun en w' => ∃ l : Unit, en = .returned (.bool res) ∧ (True) ∧ HV w (keys [] []) [] [] [] w') := by
  unfold yC at hm
  refine q5 func119 Y ntmps119 Y (e := [(0, _), (1, _)]) Y hw (jr ?_)
  refine jK Y Y (fun b h1 => ?_)
  refine jo Y Y (kY (jh Y Y (jc Y Y Y (fun _ _ => jX (u := #[]) (u' := #[_]) Y Y) ?_)))
  obtain ⟨t7, h2, hm⟩ := bindO hm
  refine jd [] [] Y Y Y Y Y Y Y call65 (fun w hh => K1 l0 holds1_c0_cells holds1_c0_tides holds1_c0_fords holds1_c0_sands holds1_c0_sights qa0 na0 ca0 b rb qa2 na2 ca2 qa3 na3 ca3 qa4 na4 ca4 w (HV.callee (S0 := []) (vs0 := []) hh (roR hh 0 Y (roC (bsep (hh.bseg 0 Y)) (roR hh 1 Y (roR hh 2 Y (roR hh 3 Y (roR hh 4 Y roN))))))) hna0 hqa0 hla0 hna2 hqa2 hla2 hna3 hqa3 hla3 hna4 hqa4 hla4 h2) (fun l h3 => ?_)
  refine jc Y Y Y (fun _ _ => yZ Y) (jo Y Y (jq (ju ?_)))
  obtain rfl := sj hm
  refine jj Y (fun w hh => (.tmp Y .nil)) (fun w hh => ⟨(), rfl, trivial, hh.se [] [] 5 Y Y Y rfl⟩)
structure qZ where
  r0 : Bool
  r1 : Int
def zC (sights1 : (List Int)) (s : Int) : Option (Int ⊕ (Unit ⊕ qZ)) :=
 if s < (sights1.length : Int) then
 ((ix sights1 s).bind fun t29 =>
 if 0 ≤ s ∧ s ≤ (sights1.length : Int) then ((jE (sights1.take (Int.toNat s)) t29).bind fun t35 =>
 if t35 = true then
 (some (.inr (.inr (⟨false, 5⟩ : qZ)))) else
 ((addc s 1).bind fun t36 =>
 some (.inl t36))) else none) else
 (some (.inr (.inl ())))
def yR (c0 : Channel) (sights1 : (List Int)) : Option qZ :=
 (qT c0).bind fun t12 =>
 oc t12 (fun t12a => some (⟨false, t12a⟩ : qZ)) (fun t12b => (yC sights1 c0.cells c0.tides c0.fords c0.sands c0.sights).bind fun t22 =>
 if (!t22) = true then
 (some (⟨false, 1⟩ : qZ)) else
 ((iterM FU (zC sights1) 0).bind fun o =>
 oc o (fun j => (zn sights1).bind fun t39 =>
 (kU t12b.t14_0 t12b.t14_1 c0.fords c0.sands c0.sights t12b.t14_5 sights1).bind fun t40 =>
 some (⟨t40, 0⟩ : qZ)) (fun r_1 => some r_1)))
theorem Qp (c0 : Channel) (sights1 : (List Int)) (qa0 : Option Addr) (na0 ca0 : Nat) (qa1 : Option Addr) (na1 ca1 : Nat) (qa2 : Option Addr) (na2 ca2 : Nat) (qa3 : Option Addr) (na3 ca3 : Nat) (w : World) (hw : HV w (keys [] []) [] [] [(aB qa0, aO qa0, RI.enc c0.fords), (aB qa1, aO qa1, RSa.enc c0.sands), (aB qa2, aO qa2, RSi.enc c0.sights), (aB qa3, aO qa3, RI.enc sights1)] w) (hna0 : c0.fords.length = na0) (hqa0 : AOK na0 qa0) (hla0 : na0 ≤ ca0) (hna1 : c0.sands.length = na1) (hqa1 : AOK na1 qa1) (hla1 : na1 ≤ ca1) (hna2 : c0.sights.length = na2) (hqa2 : AOK na2 qa2) (hla2 : na2 ≤ ca2) (hna3 : sights1.length = na3) (hqa3 : AOK na3 qa3) (hla3 : na3 ≤ ca3) {res : qZ} (hm : yR c0 sights1 = some res) :
    Calls Tryz.prog 47 #[.agg #[.int .i64 c0.cells, .int .i64 c0.tides, .slice qa0 na0 ca0, .slice qa1 na1 ca1, .slice qa2 na2 ca2], .slice qa3 na3 ca3] w (fun en w' => ∃ l : Unit, en = .returned (.tuple #[.bool res.r0, .int .i64 res.r1]) ∧ (True) ∧ HV w (keys [] []) [] [] [] w') := by
  unfold yR at hm
  refine q5 func47 Y ntmps47 Y (e := [(0, _), (1, _)]) Y hw (jr ?_)
  refine jK Y Y (fun b h1 => ?_)
  refine jo Y Y (jo Y Y (kY (Jy [_, _, _, _, _] 0 isAgg26 sizeOf26 Y Y Y Y ?_)))
  obtain ⟨t12, h2, hm⟩ := bindO hm
  rcases t12 with t12a | t12b
  ·replace hm := ocL hm
   refine jd [] [] Y Y Y Y Y Y Y call93 (fun w hh => qB c0 qa0 na0 ca0 qa1 na1 ca1 qa2 na2 ca2 w (HV.callee (S0 := []) (vs0 := []) hh (roR hh 0 Y (roR hh 1 Y (roR hh 2 Y roN)))) hna0 hqa0 hla0 hna1 hqa1 hla1 hna2 hqa2 hla2 h2) (fun l h3 => ?_)
   have h4 := h3
   refine jh Y Y (zG Y Y Y (zG Y Y Y (jo Y Y (jo Y Y (jq (ji (jn ?_)))))))
   refine jr (jh Y Y (jc Y Y Y (fun _ _ => YJ h4 Y Y) (jo Y Y (jq (JP Y Y (jr (jh Y Y ?_)))))))
   refine jo Y Y (jo Y Y (jq (ju (jB (je ?_)))))
   obtain rfl := sj hm
   refine jj Y (fun w hh => (.tmp Y (.tmp Y .nil))) (fun w hh => ⟨(), rfl, trivial, hh.se [] [] 4 Y Y Y rfl⟩)
  replace hm := ocR hm
  refine jd [] [] Y Y Y Y Y Y Y call93 (fun w hh => qB c0 qa0 na0 ca0 qa1 na1 ca1 qa2 na2 ca2 w (HV.callee (S0 := []) (vs0 := []) hh (roR hh 0 Y (roR hh 1 Y (roR hh 2 Y roN)))) hna0 hqa0 hla0 hna1 hqa1 hla1 hna2 hqa2 hla2 h2) (fun l_1 h5 => ?_)
  have h6 := h5
  refine ka (S' := [_, _]) (vs' := [_]) [0, 1] [0] 0 Y Y Y Y (jh Y Y (zG Y Y Y (zG Y Y Y (jo Y Y (jo Y Y (jq (ji ?_)))))))
  refine jn (jr (jh Y Y (jc Y Y Y (fun _ _ => JN Y Y) (jo Y Y (jq (JU Y Y (jr ?_)))))))
  refine jh Y Y (jc Y Y Y (fun _ _ => jX (u := #[]) (u' := #[_]) Y Y) ?_)
  obtain ⟨t22, h7, hm⟩ := bindO hm
  refine jd [] [] Y Y Y Y Y Y Y call119 (fun w hh => Ym sights1 c0.cells c0.tides c0.fords c0.sands c0.sights qa3 na3 ca3 b qa0 na0 ca0 qa1 na1 ca1 qa2 na2 ca2 w (HV.callee (S0 := []) (vs0 := []) hh (roR hh 3 Y (roC (bsep (hh.bseg 1 Y)) (roR hh 0 Y (roR hh 1 Y (roR hh 2 Y roN)))))) hna3 hqa3 hla3 hna0 hqa0 hla0 hna1 hqa1 hla1 hna2 hqa2 hla2 h7) (fun l_2 h8 => ?_)
  refine jc Y Y Y (fun _ _ => yZ Y) (jo Y Y (jq ?_))
  refine jt Y (fun h9 => ?_) (fun h9 => ?_)
  ·replace hm := ifT (h9) hm
   refine jr (jo Y Y (jo Y Y (jq (ju (jB (je ?_))))))
   obtain rfl := sj hm
   refine jj Y (fun w hh => (.tmp Y (.tmp Y .nil))) (fun w hh => ⟨(), rfl, trivial, hh.se [] [] 4 Y Y Y rfl⟩)
  replace hm := ifN h9 hm
  refine js (jw (ja (ji (jr (jh Y Y (jc Y Y Y (fun w _ => k6 hna3 (runUnderlying22 w) Y) (jh Y Y ?_)))))))
  refine jq ?_
  obtain ⟨o, h10, h11⟩ := bindO hm
  refine jU (ι := Unit) (fun j => o = .inl j) (fun j => [(1, .slice qa3 na3 ca3), (6, ptr l_1.1 0)]) (fun j => [kc l_1.1 #[.int .i64 t12b.t14_0, .int .i64 t12b.t14_1, .slice qa0 na0 ca0, .slice qa1 na1 ca1, .slice qa2 na2 ca2, sL l_1.2] 175, kc b #[.int .i64 c0.cells, .int .i64 c0.tides, .slice qa0 na0 ca0, .slice qa1 na1 ca1, .slice qa2 na2 ca2] 26]) (fun j => [vL 3 l_1.2 (RI.enc t12b.t14_5)]) ?_ ?_
  ·replace hm := h10
   refine jn ?_
   refine j5 (ι := Unit) hm (fun s l_3 => True) (fun s l_3 => [(1, .slice qa3 na3 ca3), (6, ptr l_1.1 0), (24, .slice qa3 na3 ca3), (25, .int .i64 (sights1.length : Int)), (26, .int .i64 s)]) (fun s l_3 => [kc l_1.1 #[.int .i64 t12b.t14_0, .int .i64 t12b.t14_1, .slice qa0 na0 ca0, .slice qa1 na1 ca1, .slice qa2 na2 ca2, sL l_1.2] 175, kc b #[.int .i64 c0.cells, .int .i64 c0.tides, .slice qa0 na0 ca0, .slice qa1 na1 ca1, .slice qa2 na2 ca2] 26]) (fun s l_3 => [vL 3 l_1.2 (RI.enc t12b.t14_5)]) () (trivial) (sE Y) (fun w hh => hh) (fun s l_3 r hpl hm h12 => ?_)
   unfold zC at hm
   refine jr (Kk Y Y Y (jq (ji ?_)))
   refine jt Y (fun h13 => ?_) (fun h13 => ?_)
   ·replace hm := ifD h13 hm
    refine js (ja (ji (jn (jr (jh Y Y ?_)))))
    obtain ⟨t29, h14, hm⟩ := bindO hm
    refine jc Y Y Y (fun w _ => Jf h14 (runUnderlying22 w) (sizeOf3 w) Y Y hna3 hqa3) (jc Y Y Y (fun w hh => zN RI 0 h14 (isAgg3 w) Y (hh.seg 3 Y) Y (Nat.add_zero _).symm) (jo Y Y (jo Y Y (kY (jh Y Y (jh Y Y ?_))))))
    obtain ⟨h15, hm⟩ := ifO hm
    refine jc Y Y Y (fun w _ => Z3 (runUnderlying22 w) (sizeOf3 w) Y Y h15.1 (pre_hle hna3 h15 hla3)) (ja3 RI 3 (Int.toNat s) Y (jh Y Y ?_))
    obtain ⟨t35, h16, hm⟩ := bindO hm
    refine jd [] [] Y Y Y Y Y Y Y call64 (fun w hh => kr (sights1.take (Int.toNat s)) t29 qa3 (Int.toNat s) ca3 w (HV.callee (S0 := []) (vs0 := []) hh (roR hh 0 Y roN)) (pre_hn hna3 h15) (pre_AOK hna3 h15 hqa3) (pre_hle hna3 h15 hla3) h16) (fun l_4 h17 => ?_)
    refine jq ?_
    refine jt Y (fun h18 => ?_) (fun h18 => ?_)
    ·replace hm := ifT (h18) hm
     refine jr (jo Y Y (jo Y Y (jq (ju (jB (je (je ?_)))))))
     refine jB ?_
     obtain rfl := sj hm
     have hbo := h12 _ Y
     subst hbo
     refine je ?_
     replace hm := ocR h11
     refine je ?_
     obtain rfl := sj hm
     refine jj Y (fun w hh => (.tmp Y (.tmp Y .nil))) (fun w hh => ⟨(), rfl, trivial, hh.se [] [] 5 Y Y Y rfl⟩)
    replace hm := ifN h18 hm
    refine js (jw (ja (jg ?_)))
    obtain ⟨t36, h19, hm⟩ := bindO hm
    refine Ki h19 Y Y Y (jh Y Y (jx ?_))
    obtain rfl := sj hm
    refine ja ?_
    exact jL _ () Y (trivial) (sE Y) (hsE [0, 1] [0] 1 Y Y Y Y)
   replace hm := ifE h13 hm
   refine ks (jk (jk (jM ?_)))
   obtain rfl := sj hm
   have hbo := h12 _ Y
   subst hbo
   exact jl () (Y) (sE Y) (fun w hh => hh)
  intro j hj
  have h20 := hj
  subst h20
  replace hm := ocL h11
  refine ja (jr (jh Y Y (jh Y Y ?_)))
  obtain ⟨t39, h21, hm⟩ := bindO hm
  refine jd [] [] Y Y Y Y Y Y Y call122 (fun w hh => QN sights1 qa3 na3 ca3 w (HV.callee (S0 := []) (vs0 := []) hh (roR hh 3 Y roN)) hna3 hqa3 hla3 h21) (fun l_5 h22 => ?_)
  refine ka (S' := [_, _, _]) (vs' := [_]) [0, 1, 2] [0] 0 Y Y Y Y ?_
  obtain ⟨t40, h23, hm⟩ := bindO hm
  refine jd [] [] Y Y Y Y Y Y Y call121 (fun w hh => z1 t12b.t14_0 t12b.t14_1 c0.fords c0.sands c0.sights t12b.t14_5 sights1 l_1.1 qa0 na0 ca0 qa1 na1 ca1 qa2 na2 ca2 (qA l_1.2.q) l_1.2.n l_1.2.cap l_5 qa3 na3 ca3 w (HV.callee (S0 := []) (vs0 := []) hh (roC (bsep (hh.bseg 1 Y)) (roR hh 0 Y (roR hh 1 Y (roR hh 2 Y (roC (hh.vsepA 0 Y h6) (roC (bsep (hh.bseg 0 Y)) (roR hh 3 Y roN)))))))) hna0 hqa0 hla0 hna1 hqa1 hla1 hna2 hqa2 hla2 (vlen RI h6 Y) (AOK.q (vne h6)) (h6).hle hna3 hqa3 hla3 h23) (fun l_6 h24 => ?_)
  refine jo Y Y (jo Y Y (jq (ju ?_)))
  obtain rfl := sj hm
  refine jj Y (fun w hh => (.tmp Y (.tmp Y .nil))) (fun w hh => ⟨(), rfl, trivial, hh.se [] [] 4 Y Y Y rfl⟩)
def qG (i0 : Int) (a11 : (List Int)) : Option Bool :=
 (jE a11 i0).bind fun t6 =>
 some t6
theorem KF (i0 : Int) (a11 : (List Int)) (rb : Nat) (qa1 : Option Addr) (na1 ca1 : Nat) (w : World) (hw : HV w (keys [] []) [] [] [(rb, 0, [.slice qa1 na1 ca1]), (aB qa1, aO qa1, RI.enc a11)] w)  (hna1 : a11.length = na1) (hqa1 : AOK na1 qa1) (hla1 : na1 ≤ ca1) {res : Bool} (hm : qG i0 a11 = some res) :
    Calls Tryz.prog 72 #[.int .i64 i0, ptr rb 0] w (fun en w' => ∃ l : Unit, en = .returned (.bool res) ∧ (True) ∧ HV w (keys [] []) [] [] [] w') := by
  unfold qG at hm
  refine q5 func72 Y ntmps72 Y (e := [(0, _), (1, _)]) Y hw (jr (jo Y Y (kY (jc Y Y Y (fun w hh => jy (isAgg22 w) Y (segCell (hh.seg 0 Y) 0 Y)) (jh Y Y ?_)))))
  obtain ⟨t6, h1, hm⟩ := bindO hm
  refine jd [] [] Y Y Y Y Y Y Y call64 (fun w hh => kr a11 i0 qa1 na1 ca1 w (HV.callee (S0 := []) (vs0 := []) hh (roR hh 1 Y roN)) hna1 hqa1 hla1 h1) (fun l h2 => ?_)
  refine jo Y Y (jq (ju ?_))
  obtain rfl := sj hm
  refine jj Y (fun w hh => (.tmp Y .nil)) (fun w hh => ⟨(), rfl, trivial, hh.se [] [] 2 Y Y Y rfl⟩)
def qo (s0 : (List Int)) (f1_c0 : (List Int)) (s : Int) : Option (Int ⊕ (Unit ⊕ Int)) :=
 if s < (s0.length : Int) then
 ((ix s0 s).bind fun t14 =>
 (qG t14 f1_c0).bind fun t16 =>
 if t16 = true then
 (some (.inr (.inr s))) else
 ((addc s 1).bind fun t18 =>
 some (.inl t18))) else
 (some (.inr (.inl ())))
def yO (s0 : (List Int)) (f1_c0 : (List Int)) : Option Int :=
 (iterM FU (qo s0 f1_c0) 0).bind fun o =>
 oc o (fun j => some (-1)) (fun r_1 => some r_1)
theorem QJ (s0 : (List Int)) (f1_c0 : (List Int)) (qa0 : Option Addr) (na0 ca0 : Nat) (rb : Nat) (qa2 : Option Addr) (na2 ca2 : Nat) (w : World) (hw : HV w (keys [] []) [] [] [(aB qa0, aO qa0, RI.enc s0), (rb, 0, [.slice qa2 na2 ca2]), (aB qa2, aO qa2, RI.enc f1_c0)] w) (hna0 : s0.length = na0) (hqa0 : AOK na0 qa0) (hla0 : na0 ≤ ca0)  (hna2 : f1_c0.length = na2) (hqa2 : AOK na2 qa2) (hla2 : na2 ≤ ca2) {res : Int} (hm : yO s0 f1_c0 = some res) :
    Calls Tryz.prog 148 #[.slice qa0 na0 ca0, .func (.func 72) #[] #[ptr rb 0]] w (fun en w' => ∃ l : Unit, en = .returned (.int .i64 res) ∧ (True) ∧ HV w (keys [] []) [] [] [] w') := by
  unfold yO at hm
  refine q5 func148 Y ntmps148 Y (e := [(0, _), (1, _)]) Y hw (jr (jo Y Y (jq (ji (jr (jh Y Y (jc Y Y Y (fun w _ => k6 hna0 (runUnderlying22 w) Y) ?_)))))))
  refine jh Y Y (jq ?_)
  obtain ⟨o, h1, h2⟩ := bindO hm
  refine jU (ι := Unit) (fun j => o = .inl j) (fun j => []) (fun j => []) (fun j => []) ?_ ?_
  ·replace hm := h1
   refine jn ?_
   refine j5 (ι := Unit) hm (fun s l => True) (fun s l => [(0, .slice qa0 na0 ca0), (1, .func (.func 72) #[] #[ptr rb 0]), (7, .int .i64 (s0.length : Int)), (8, .int .i64 s)]) (fun s l => []) (fun s l => []) () (trivial) (sE Y) (fun w hh => hh) (fun s l r hpl hm h3 => ?_)
   unfold qo at hm
   refine jr (Kk Y Y Y (jq (ji ?_)))
   refine jt Y (fun h4 => ?_) (fun h4 => ?_)
   ·replace hm := ifD h4 hm
    refine js (ja (ji (jn (jr (jh Y Y (jo Y Y (kY ?_)))))))
    refine jh Y Y (jh Y Y (jh Y Y ?_))
    obtain ⟨t14, h5, hm⟩ := bindO hm
    refine jc Y Y Y (fun w _ => Jf h5 (runUnderlying22 w) (sizeOf3 w) Y Y hna0 hqa0) (jc Y Y Y (fun w hh => zN RI 0 h5 (isAgg3 w) Y (hh.seg 0 Y) Y (Nat.add_zero _).symm) ?_)
    obtain ⟨t16, h6, hm⟩ := bindO hm
    refine jd [] [] Y Y Y Y Y Y Y call72 (fun w hh => KF t14 f1_c0 rb qa2 na2 ca2 w (HV.callee (S0 := []) (vs0 := []) hh (roR hh 1 Y (roR hh 2 Y roN))) hna2 hqa2 hla2 h6) (fun l_1 h7 => ?_)
    refine jq ?_
    refine jt Y (fun h8 => ?_) (fun h8 => ?_)
    ·replace hm := ifT (h8) hm
     refine jr (jh Y Y (jo Y Y (jq (ju (jB (je (je ?_)))))))
     refine jB ?_
     obtain rfl := sj hm
     have hbo := h3 _ Y
     subst hbo
     refine je ?_
     replace hm := ocR h2
     refine je ?_
     obtain rfl := sj hm
     refine jj Y (fun w hh => (.tmp Y .nil)) (fun w hh => ⟨(), rfl, trivial, hh.se [] [] 3 Y Y Y rfl⟩)
    replace hm := ifN h8 hm
    refine js (jw (ja (jg ?_)))
    obtain ⟨t18, h9, hm⟩ := bindO hm
    refine Ki h9 Y Y Y (jh Y Y (jx ?_))
    obtain rfl := sj hm
    refine ja ?_
    exact jL _ () Y (trivial) (sE Y) (fun w hh => hh)
   replace hm := ifE h4 hm
   refine ks (jk (jk (jM ?_)))
   obtain rfl := sj hm
   have hbo := h3 _ Y
   subst hbo
   exact jl () (Y) (.nil) (fun w hh => hh)
  intro j hj
  have h10 := hj
  subst h10
  replace hm := ocL h2
  refine ja (jr (jo Y Y (jq (ju ?_))))
  obtain rfl := sj hm
  refine jj Y (fun w hh => (.tmp Y .nil)) (fun w hh => ⟨(), rfl, trivial, hh.se [] [] 3 Y Y Y rfl⟩)
def qf (s0 : (List Int)) (f1_c0 : (List Int)) : Option Bool :=
 (yO s0 f1_c0).bind fun t7 =>
 some (decide (0 ≤ t7))
theorem KZ (s0 : (List Int)) (f1_c0 : (List Int)) (qa0 : Option Addr) (na0 ca0 : Nat) (rb : Nat) (qa2 : Option Addr) (na2 ca2 : Nat) (w : World) (hw : HV w (keys [] []) [] [] [(aB qa0, aO qa0, RI.enc s0), (rb, 0, [.slice qa2 na2 ca2]), (aB qa2, aO qa2, RI.enc f1_c0)] w) (hna0 : s0.length = na0) (hqa0 : AOK na0 qa0) (hla0 : na0 ≤ ca0)  (hna2 : f1_c0.length = na2) (hqa2 : AOK na2 qa2) (hla2 : na2 ≤ ca2) {res : Bool} (hm : qf s0 f1_c0 = some res) :
    Calls Tryz.prog 65 #[.slice qa0 na0 ca0, .func (.func 72) #[] #[ptr rb 0]] w (fun en w' => ∃ l : Unit, en = .returned (.bool res) ∧ (True) ∧ HV w (keys [] []) [] [] [] w') := by
  unfold qf at hm
  refine q5 func65 Y ntmps65 Y (e := [(0, _), (1, _)]) Y hw (jr (jo Y Y (kY (jh Y Y (jh Y Y ?_)))))
  obtain ⟨t7, h1, hm⟩ := bindO hm
  refine jd [] [] Y Y Y Y Y Y Y call148 (fun w hh => QJ s0 f1_c0 qa0 na0 ca0 rb qa2 na2 ca2 w (HV.callee (S0 := []) (vs0 := []) hh (roR hh 0 Y (roR hh 1 Y (roR hh 2 Y roN)))) hna0 hqa0 hla0 hna2 hqa2 hla2 h1) (fun l h2 => ?_)
  refine jc Y Y Y (fun _ _ => YA Y Y) (jo Y Y (jq (ju ?_)))
  obtain rfl := sj hm
  refine jj Y (fun w hh => (.tmp Y .nil)) (fun w hh => ⟨(), rfl, trivial, hh.se [] [] 3 Y Y Y rfl⟩)
def yF (s0 : (List Int)) (i1 : Int) (j2 : Int) : Option (List Int) :=
 if 0 ≤ i1 ∧ i1 ≤ j2 ∧ j2 ≤ (s0.length : Int) then (if i1 = j2 then
 (some s0) else
 (if 0 ≤ i1 ∧ i1 ≤ (s0.length : Int) then (if 0 ≤ j2 ∧ j2 ≤ (s0.length : Int) then (if i1 < j2 then (if ((s0.take (Int.toNat i1) ++ s0.drop (Int.toNat j2)).length : Int) ≤ (s0.length : Int) then (some (s0.take (Int.toNat i1) ++ s0.drop (Int.toNat j2))) else none) else none) else none) else none)) else none
theorem Yl (s0 : (List Int)) (i1 : Int) (j2 : Int) (V_s0 : VL) (w : World) (hw : HV w (keys [] [vL 3 V_s0 (RI.enc s0)]) [] [vL 3 V_s0 (RI.enc s0)] [] w) (hv_s0 : VOK 1 V_s0.n V_s0.cap (RI.enc s0) V_s0.sp V_s0.q) {res : (List Int)} (hm : yF s0 i1 j2 = some res) :
    Calls Tryz.prog 73 #[sL V_s0, .int .i64 i1, .int .i64 j2] w (fun en w' => ∃ l : VL, en = .returned (sL l) ∧ (VOK 1 l.n l.cap (RI.enc res) l.sp l.q) ∧ HV w (keys [] [vL 3 V_s0 (RI.enc s0)]) [] [vL 3 l (RI.enc res)] [] w') := by
  unfold yF at hm
  refine q5 func73 Y ntmps73 Y (e := [(0, _), (1, _), (2, _)]) Y hw (jr (jc Y Y Y (fun _ _ => ye Y) (kY (jh Y Y (jh Y Y (jh Y Y (jh Y Y ?_)))))))
  refine jc Y Y Y (fun w _ => zW (vlen RI hv_s0 Y) (runUnderlying22 w) Y) ?_
  obtain ⟨h2, hm⟩ := ifO hm
  refine jc Y Y Y (fun w _ => jaO (runUnderlying22 w) (sizeOf3 w) Y Y Y Y h2.1 h2.2.1 h2.2.2 (cap_le (vlen RI hv_s0 Y) (hv_s0).hle Y)) (jq (ji (jr (jh Y Y (jh Y Y (jc Y Y Y (fun _ _ => zM Y Y) (jq ?_)))))))
  refine jt Y (fun h3 => ?_) (fun h3 => ?_)
  ·replace hm := ifD h3 hm
   refine jr (jh Y Y (jo Y Y (jq (ju (je ?_)))))
   obtain rfl := sj hm
   refine jj Y (fun w hh => (.tmp Y .nil)) (fun w hh => ⟨V_s0, rfl, hv_s0, hh⟩)
  replace hm := ifE h3 hm
  refine js (ja (jr (jh Y Y (jc Y Y Y (fun w _ => zW (vlen RI hv_s0 Y) (runUnderlying22 w) Y) (jo Y Y (jq (ji ?_)))))))
  refine kM none (.free 0 (.free 1 (.free 2 (.free 3 (.free 4 (.free 5 (.one 6 (.free 7 .done)))))))) (HV _ _ [] [] _) Y (by decide +kernel) (fun w k hh => hh.draw k) (hsE [] [] 0 Y Y Y Y) ?_
  refine za Y Y Y (za Y Y Y ?_)
  obtain ⟨h4, hm⟩ := ifO hm
  refine jp Y Y Y Y (fun w _ => jar (runUnderlying22 w) (sizeOf3 w) Y Y h4.1 (pre_hle (vlen RI hv_s0 Y) h4 (hv_s0).hle)) (za Y Y Y (za Y Y Y ?_))
  obtain ⟨h5, hm⟩ := ifO hm
  refine jp Y Y Y Y (fun w _ => Z7 (runUnderlying22 w) (sizeOf3 w) Y Y h5.1 (tail_in (vlen RI hv_s0 Y) h5) (hv_s0).hle) (jC Y ?_)
  obtain ⟨h6, hm⟩ := ifO hm
  refine ja1 RI 0 (fun w => runUnderlying22 w) (fun w => sizeOf3 w) Y Y Y hv_s0 ⟨h4.1, h6, h5.2⟩ Y Y Y (fun L h8 h7 => ?_)
  have h9 : V_s0.n ≤ L.cap := by rw [h8]; exact (hv_s0).hle
  refine ka (S' := []) (vs' := [_]) [] [0] 0 Y Y Y Y (jm (hsE [] [] 0 Y Y Y Y) (jp Y Y Y Y (fun _ _ => km Y) (jQ (ja (jr (jh Y Y (jh Y Y ?_)))))))
  refine jc Y Y Y (fun w _ => zW (vlen RI h7 Y) (runUnderlying22 w) Y) (jh Y Y ?_)
  obtain ⟨h10, hm⟩ := ifO hm
  refine jc Y Y Y (fun w _ => jak (runUnderlying22 w) (sizeOf3 w) Y Y Y (Int.natCast_nonneg _) h10 (cap_le (vlen RI hv_s0 Y) h9 Y)) ?_
  refine jaD RI 0 (fun w => runUnderlying22 w) (fun w => zeroValue3 w) Y Y Y Y Y h7 ⟨rfl, h10, (cap_le (vlen RI hv_s0 Y) h9 Y)⟩ Y (fun sp h11 => ?_)
  refine ka (S' := []) (vs' := [_]) [] [0] 0 Y Y Y Y (kY (jh Y Y (jo Y Y (jq (ju ?_)))))
  obtain rfl := sj hm
  refine jj Y (fun w hh => (.tmp Y .nil)) (fun w hh => ⟨⟨L.q, L.n, L.cap, sp⟩, rfl, h11, hh⟩)
structure qr where
  t37 : Int
  r0 : (List Sight)
def kE (t32 : yk) (turned1 : Int) (s : qr) : Option (qr ⊕ (List Sight)) :=
 if s.t37 < (t32.r0.length : Int) then
 ((if (0 : Int) ≤ s.t37 then (if (IntKind.u8.wrap (BitVec.ofInt IntKind.u8.bits (Int.fdiv turned1 (2 ^ min (Int.toNat s.t37) IntKind.u8.bits)) &&& BitVec.ofInt IntKind.u8.bits 1).toNat) = 1 then
 ((ix s.r0 s.t37).bind fun t51 =>
 (ix s.r0 s.t37).bind fun t55 =>
 (some (s.r0.set (Int.toNat s.t37) (⟨t55.after, t55.cell, (!t51.upright)⟩ : Sight))).bind fun r0 =>
 some r0) else
 (some s.r0)) else none).bind fun o_1 =>
 (addc s.t37 1).bind fun t57 =>
 some (.inl (⟨t57, o_1⟩ : qr))) else
 (some (.inr s.r0))
def ky (t60 : y9) (t26 : yj) (o : (List Sight)) (s_1 : Int) : Option (Int ⊕ (Unit ⊕ Bool)) :=
 if s_1 < (t60.r0.length : Int) then
 ((addc s_1 1).bind fun t125 =>
 (j7 t60.r0).bind fun t122 =>
 (yF t122 s_1 t125).bind fun t126 =>
 (yR (⟨t26.r0.cells, t26.r0.tides, t26.r0.fords, t26.r0.sands, o⟩ : Channel) t126).bind fun t127 =>
 (if t127.r1 = 0 then
 (some (!t127.r0)) else
 (some true)).bind fun o_5 =>
 if o_5 = true then
 (some (.inr (.inr false))) else
 ((addc s_1 1).bind fun t136 =>
 some (.inl t136))) else
 (some (.inr (.inl ())))
structure qq where
  t145 : Int
  rest18 : (List Int)
def jY (o : (List Sight)) (t65 : kP) (s_2 : Int) (s_3 : qq) : Option (qq ⊕ (List Int)) :=
 if s_3.t145 < (o.length : Int) then
 ((((jE t65.r0 s_3.t145).bind fun t150 =>
 if (!t150) = true then
 (some true) else
 ((ix t65.r0 s_2).bind fun t156 =>
 some (decide (s_3.t145 = t156)))).bind fun o_9 =>
 if o_9 = true then
 ((appc 8 s_3.rest18 [s_3.t145]).bind fun t163 =>
 some t163) else
 (some s_3.rest18)).bind fun o_8 =>
 (addc s_3.t145 1).bind fun t164 =>
 some (.inl (⟨t164, o_8⟩ : qq))) else
 (some (.inr s_3.rest18))
def kz (t65 : kP) (o : (List Sight)) (t26 : yj) (s_2 : Int) : Option (Int ⊕ (Unit ⊕ Bool)) :=
 if s_2 < (t65.r0.length : Int) then
 ((iterM FU (jY o t65 s_2) (⟨0, []⟩ : qq)).bind fun o_7 =>
 (yR (⟨t26.r0.cells, t26.r0.tides, t26.r0.fords, t26.r0.sands, o⟩ : Channel) o_7).bind fun t168 =>
 (if t168.r1 = 0 then
 (some t168.r0) else
 (some true)).bind fun o_10 =>
 if o_10 = true then
 (some (.inr (.inr false))) else
 ((addc s_2 1).bind fun t176 =>
 some (.inl t176))) else
 (some (.inr (.inl ())))
def qN (numbers0 : (List Int)) (turned1 : Int) : Option Bool :=
 (Zb numbers0).bind fun t23 =>
 (qY numbers0 t23.t5_1 t23.t5_2 8 2 3).bind fun t26 =>
 (qX numbers0 t26.b0_1 t26.b0_2 t26.r0 t26.r1 6).bind fun t32 =>
 (iterM FU (kE t32 turned1) (⟨0, t32.r0⟩ : qr)).bind fun o =>
 (JD (⟨t26.r0.cells, t26.r0.tides, t26.r0.fords, t26.r0.sands, o⟩ : Channel)).bind fun t60 =>
 (zY (⟨t26.r0.cells, t26.r0.tides, t26.r0.fords, t26.r0.sands, o⟩ : Channel)).bind fun t65 =>
 (if t65.r1 = 0 then
 (if (!((decide (t60.r1 = 6)) == (decide ((t65.r0.length : Int) = 0)))) = true then
 (some true) else
 (if t60.r1 = 0 then
 (some (!((decide (t60.r1 = 0)) == (decide (0 < (t60.r0.length : Int)))))) else
 (if t60.r1 = 6 then
 (some (!((decide (t60.r1 = 0)) == (decide (0 < (t60.r0.length : Int)))))) else
 (some true)))) else
 (some true)).bind fun o_2 =>
 if o_2 = true then
 (some false) else
 (if t60.r1 = 0 then
 ((yR (⟨t26.r0.cells, t26.r0.tides, t26.r0.fords, t26.r0.sands, o⟩ : Channel) t60.r0).bind fun t100 =>
 (if t100.r1 = 0 then
 (if t100.r0 = true then
 (some true) else
 ((qf t60.r0 t65.r0).bind fun t111 =>
 some (!t111))) else
 (some true)).bind fun o_3 =>
 if o_3 = true then
 (some false) else
 ((iterM FU (ky t60 t26 o) 0).bind fun o_4 =>
 oc o_4 (fun j => (iterM FU (kz t65 o t26) 0).bind fun o_6 =>
 oc o_6 (fun j_1 => (yW).bind fun t177 =>
 some t177) (fun r_4 => some r_4)) (fun r_5 => some r_5))) else
 ((yW).bind fun t96 =>
 some t96))
theorem KU (numbers0 : (List Int)) (turned1 : Int) (qa0 : Option Addr) (na0 ca0 : Nat) (w : World) (hw : HV w (keys [] []) [] [] [(aB qa0, aO qa0, RU8.enc numbers0)] w) (hna0 : numbers0.length = na0) (hqa0 : AOK na0 qa0) (hla0 : na0 ≤ ca0) {res : Bool} (hm : qN numbers0 turned1 = some res) :
    Calls Tryz.prog 13 #[.slice qa0 na0 ca0, .int .u8 turned1] w (fun en w' => ∃ l : Unit, en = .returned (.bool res) ∧ (True) ∧ HV w (keys [] []) [] [] [] w') := by
  unfold qN at hm
  refine q5 func13 Y ntmps13 Y (e := [(0, _), (1, _)]) Y hw (jr (jo Y Y (kY (jh Y Y ?_))))
  obtain ⟨t23, h1, hm⟩ := bindO hm
  refine jd [] [] Y Y Y Y Y Y Y call62 (fun w hh => jaR numbers0 qa0 na0 ca0 w (HV.callee (S0 := []) (vs0 := []) hh (roR hh 0 Y roN)) hna0 hqa0 hla0 h1) (fun l h2 => ?_)
  refine ka (S' := [_]) (vs' := []) [0] [] 0 Y Y Y Y (jo Y Y (kY (jh Y Y ?_)))
  obtain ⟨t26, h3, hm⟩ := bindO hm
  refine jd [_] [] Y Y Y Y Y Y Y call61 (fun w hh => Yo numbers0 t23.t5_1 t23.t5_2 8 2 3 l qa0 na0 ca0 w (HV.callee (S0 := [_]) (vs0 := []) hh (roR hh 0 Y roN)) hna0 hqa0 hla0 h3) (fun l_1 h4 => ?_)
  obtain ⟨h5, h6, h7, h8, h9⟩ := h4
  refine ka (S' := [_]) (vs' := [_, _, _, _]) [0] [0, 1, 2, 3] 0 Y Y Y Y (jh Y Y (zG Y Y Y (zG Y Y Y ?_)))
  refine jv (fun w => zeroValue26 w) Y (fun b h10 => ?_)
  refine kQ (us := #[_, _, _, _, _]) (cs' := [_, _, _, _, _]) (S' := [_, _]) 0 (fun w => sizeOf26 w) Y Y Y Y Y Y Y (jo Y Y (kY (jh Y Y (Jy [_, _, _, _, _] 0 isAgg26 sizeOf26 Y Y Y Y (jh Y Y ?_)))))
  obtain ⟨t32, h11, hm⟩ := bindO hm
  refine ka (S' := [_, _]) (vs' := [_, _, _, _]) [1, 0] [0, 1, 2, 3] 0 Y Y Y Y ?_
  refine jd [_] [] Y Y Y Y Y Y Y call67 (fun w hh => Ys numbers0 t26.b0_1 t26.b0_2 t26.r0 t26.r1 6 l qa0 na0 ca0 (qA l_1.1.q) l_1.1.n l_1.1.cap (qA l_1.2.1.q) l_1.2.1.n l_1.2.1.cap (qA l_1.2.2.1.q) l_1.2.2.1.n l_1.2.2.1.cap (qA l_1.2.2.2.v.q) l_1.2.2.2.v.n l_1.2.2.2.v.cap (toAL l_1.2.2.2.rs) w (HV.callee (S0 := [_]) (vs0 := []) hh (roR hh 0 Y (roC (hh.vsepA 0 Y h5) (roC (hh.vsepA 1 Y h6) (roC (hh.vsepA 2 Y h7) (roC (hh.vsepD 3 Y h8) roN)))))) hna0 hqa0 hla0 (vlen RI h5 Y) (AOK.q (vne h5)) (h5).hle (vlen RSa h6 Y) (AOK.q (vne h6)) (h6).hle (vlen RSi h7 Y) (AOK.q (vne h7)) (h7).hle (Eq.trans (h9).len (vlen RwH h8 Y)) (AOK.q (vne h8)) (h8).hle ((h9).toDRO Y) (hh.dsepT 3 Y h9) h11) (fun l_2 h12 => ?_)
  have h13 := h12
  refine ka (S' := [_, _]) (vs' := [_, _, _, _, _]) [0, 1] [0, 1, 2, 3, 4] 0 Y Y Y Y (yJ 4 runUnderlying26 Y sizeOf24 Y Y (q6 (cs' := #[_, _, _, _, _]) (S' := [_, _]) 1 (fun w => sizeOf24 w) Y Y Y Y Y Y Y (jq (ji (jr (yJ 4 runUnderlying26 Y sizeOf24 Y Y (yl 1 isAgg24 Y Y Y Y ?_)))))))
  refine jc Y Y Y (fun w _ => zW (vlen RSi h13 Y) (runUnderlying24 w) Y) (jh Y Y (jq ?_))
  obtain ⟨o, h14, h15⟩ := bindO hm
  refine jU (ι := Unit) (fun l_3 => VOK 3 l_2.n l_2.cap (RSi.enc o) l_2.sp l_2.q) (fun l_3 => [(6, ptr b 0)]) (fun l_3 => [kc l #[.slice qa0 na0 ca0, .int .i64 t32.b0_1, .int .u32 t32.b0_2] 199, kc b #[.int .i64 t26.r0.cells, .int .i64 t26.r0.tides, sL l_1.1, sL l_1.2.1, sL l_2] 26]) (fun l_3 => [vL 3 l_1.1 (RI.enc t26.r0.fords), vL 98 l_1.2.1 (RSa.enc t26.r0.sands), vL 55 l_2 (RSi.enc o)]) ?_ ?_
  ·replace hm := h14
   refine jn ?_
   refine j5 (ι := Unit) hm (fun s l_4 => VOK 3 l_2.n l_2.cap (RSi.enc s.r0) l_2.sp l_2.q) (fun s l_4 => [(1, .int .u8 turned1), (6, ptr b 0), (36, .int .i64 (t32.r0.length : Int)), (37, .int .i64 s.t37)]) (fun s l_4 => [kc l #[.slice qa0 na0 ca0, .int .i64 t32.b0_1, .int .u32 t32.b0_2] 199, kc b #[.int .i64 t26.r0.cells, .int .i64 t26.r0.tides, sL l_1.1, sL l_1.2.1, sL l_2] 26]) (fun s l_4 => [vL 3 l_1.1 (RI.enc t26.r0.fords), vL 98 l_1.2.1 (RSa.enc t26.r0.sands), vL 55 l_2 (RSi.enc s.r0)]) () (h13) (sE Y) (hsE [0, 1] [1, 2, 0] 0 Y Y Y Y) (fun s l_4 r hpl hm h18 => ?_)
   have h17 := hpl
   unfold kE at hm
   refine jr (Kk Y Y Y (jq (ji ?_)))
   refine jt Y (fun h19 => ?_) (fun h19 => ?_)
   ·replace hm := ifD h19 hm
    refine js (ja (ji ?_))
    obtain ⟨o_1, h20, h21⟩ := bindO hm
    refine jU (ι := Unit) (fun l_5 => VOK 3 l_2.n l_2.cap (RSi.enc o_1) l_2.sp l_2.q) (fun l_5 => [(1, .int .u8 turned1), (6, ptr b 0), (36, .int .i64 (t32.r0.length : Int)), (37, .int .i64 s.t37)]) (fun l_5 => [kc l #[.slice qa0 na0 ca0, .int .i64 t32.b0_1, .int .u32 t32.b0_2] 199, kc b #[.int .i64 t26.r0.cells, .int .i64 t26.r0.tides, sL l_1.1, sL l_1.2.1, sL l_2] 26]) (fun l_5 => [vL 3 l_1.1 (RI.enc t26.r0.fords), vL 98 l_1.2.1 (RSa.enc t26.r0.sands), vL 55 l_2 (RSi.enc o_1)]) ?_ ?_
    ·replace hm := h20
     refine jn (jr (jh Y Y (jo Y Y (kY (jh Y Y (jh Y Y ?_))))))
     obtain ⟨h23, hm⟩ := ifO hm
     refine jc Y Y Y (fun _ _ => jbr Y Y h23) (jc Y Y Y (fun _ _ => jaB Y Y Y) (jc Y Y Y (fun _ _ => zM Y Y) (jq ?_)))
     refine jt Y (fun h24 => ?_) (fun h24 => ?_)
     ·replace hm := ifD h24 hm
      refine kM (some 12) (.free 0 (.hoist 1 (.free 2 (.free 3 (.hoist 4 (.free 5 (.free 6 (.free 7 (.hoist 8 (.free 9 (.free 10 (.free 11 (.last 12 .done))))))))))))) _ Y (by decide +kernel) (fun w k hh => hh.draw k) (fun w hh => hh) ?_
      refine KH 4 runUnderlying26 sizeOf24 Y Y Y Y (K2 1 isAgg24 Y Y Y Y Y (za Y Y Y (KH 4 runUnderlying26 sizeOf24 Y Y Y Y (K2 1 isAgg24 Y Y Y Y Y (za Y Y Y ?_)))))
      obtain ⟨t51, h25, hm⟩ := bindO hm
      refine jp Y Y Y Y (fun w _ => KC h25 (runUnderlying24 w) (sizeOf55 w) Y Y (vlen RSi h17 Y) (vne h17)) (KH 2 runUnderlying55 sizeOf4 Y Y Y Y (jz Y Y Y Y (fun w hh => zN RSi 2 h25 (isAgg4 w) Y (hh.vseg 2 Y h17) Y Y) (jp Y Y Y Y (fun _ _ => yZ Y) ?_)))
      obtain ⟨t55, h26, hm⟩ := bindO hm
      refine jp Y Y Y Y (fun w _ => KC h26 (runUnderlying24 w) (sizeOf55 w) Y Y (vlen RSi h17 Y) (vne h17)) (KH 2 runUnderlying55 sizeOf4 Y Y Y Y (Y1 Y ?_))
      obtain ⟨r0, hr0, hm⟩ := bindO hm
      refine ja2 RSi 2 2 (⟨t55.after, t55.cell, (!t51.upright)⟩ : Sight) (fun w => sizeOf4 w) Y Y Y Y h17 Y Y Y h26 Y Y (Option.some.inj hr0) (fun h27 => ?_)
      refine ka (S' := [_, _]) (vs' := [_, _, _]) [0, 1] [0, 1, 2] 0 Y Y Y Y (Yi (jQ (jw ?_)))
      obtain rfl := sj hm
      exact jl () (h27) (sE Y) (fun w hh => hh)
     replace hm := ifE h24 hm
     refine js (jw ?_)
     obtain rfl := sj hm
     exact jl () (h17) (sE Y) (fun w hh => hh)
    intro l_5 hj
    have h22 := hj
    replace hm := h21
    refine ja (jg ?_)
    obtain ⟨t57, h28, hm⟩ := bindO hm
    refine Ki h28 Y Y Y (jh Y Y (jx ?_))
    obtain rfl := sj hm
    refine ja ?_
    exact jL _ () Y (h22) (sE Y) (fun w hh => hh)
   replace hm := ifE h19 hm
   refine ks (jk (jk (jM ?_)))
   obtain rfl := sj hm
   have hbo := h18 _ Y
   subst hbo
   exact jl () (h17) (sE Y) (fun w hh => hh)
  intro l_3 hj
  have h16 := hj
  replace hm := h15
  refine ja (jr (Jy [_, _, _, _, _] 1 isAgg26 sizeOf26 Y Y Y Y ?_))
  obtain ⟨t60, h29, hm⟩ := bindO hm
  refine jd [] [] Y Y Y Y Y Y Y call51 (fun w hh => Zv (⟨t26.r0.cells, t26.r0.tides, t26.r0.fords, t26.r0.sands, o⟩ : Channel) (qA l_1.1.q) l_1.1.n l_1.1.cap (qA l_1.2.1.q) l_1.2.1.n l_1.2.1.cap (qA l_2.q) l_2.n l_2.cap w (HV.callee (S0 := []) (vs0 := []) hh (roC (hh.vsepA 0 Y h5) (roC (hh.vsepA 1 Y h6) (roC (hh.vsepA 2 Y h16) roN)))) (vlen RI h5 Y) (AOK.q (vne h5)) (h5).hle (vlen RSa h6 Y) (AOK.q (vne h6)) (h6).hle (vlen RSi h16 Y) (AOK.q (vne h16)) (h16).hle h29) (fun l_6 h30 => ?_)
  have h31 := h30
  refine ka (S' := [_, _]) (vs' := [_, _, _, _]) [0, 1] [0, 1, 2, 3] 0 Y Y Y Y (jh Y Y (zG Y Y Y (zG Y Y Y (jo Y Y (jo Y Y (kY (Jy [_, _, _, _, _] 1 isAgg26 sizeOf26 Y Y Y Y ?_)))))))
  obtain ⟨t65, h32, hm⟩ := bindO hm
  refine jd [] [] Y Y Y Y Y Y Y call52 (fun w hh => Yt (⟨t26.r0.cells, t26.r0.tides, t26.r0.fords, t26.r0.sands, o⟩ : Channel) (qA l_1.1.q) l_1.1.n l_1.1.cap (qA l_1.2.1.q) l_1.2.1.n l_1.2.1.cap (qA l_2.q) l_2.n l_2.cap w (HV.callee (S0 := []) (vs0 := []) hh (roC (hh.vsepA 1 Y h5) (roC (hh.vsepA 2 Y h6) (roC (hh.vsepA 3 Y h16) roN)))) (vlen RI h5 Y) (AOK.q (vne h5)) (h5).hle (vlen RSa h6 Y) (AOK.q (vne h6)) (h6).hle (vlen RSi h16 Y) (AOK.q (vne h16)) (h16).hle h32) (fun l_7 h33 => ?_)
  have h34 := h33
  refine ka (S' := [_, _]) (vs' := [_, _, _, _, _]) [0, 1] [0, 1, 2, 3, 4] 0 Y Y Y Y (jh Y Y (zG Y Y Y (zG Y Y Y ?_)))
  refine jv (fun w => zeroValue22 w) Y (fun b_1 h35 => ?_)
  refine q6 (cs' := #[_]) (S' := [_, _, _]) 0 (fun w => sizeOf22 w) Y Y Y Y Y Y Y (jo Y Y (jq (ji (ji ?_))))
  obtain ⟨o_2, h36, h37⟩ := bindO hm
  refine jU (ι := Unit) (fun l_8 => True) (fun l_8 => [(6, ptr b 0), (9, sL l_6), (10, .int .i64 t60.r1), (11, ptr b_1 0), (93, .bool o_2)]) (fun l_8 => [kc b_1 #[sL l_7] 22, kc l #[.slice qa0 na0 ca0, .int .i64 t32.b0_1, .int .u32 t32.b0_2] 199, kc b #[.int .i64 t26.r0.cells, .int .i64 t26.r0.tides, sL l_1.1, sL l_1.2.1, sL l_2] 26]) (fun l_8 => [vL 3 l_6 (RI.enc t60.r0), vL 3 l_7 (RI.enc t65.r0), vL 3 l_1.1 (RI.enc t26.r0.fords), vL 98 l_1.2.1 (RSa.enc t26.r0.sands), vL 55 l_2 (RSi.enc o)]) ?_ ?_
  ·replace hm := h36
   refine jg (jh Y Y (jc Y Y Y (fun _ _ => JN Y Y) (jh Y Y ?_)))
   refine kf 70 Y (fun h38 => ?_) (fun h38 => ?_)
   ·replace hm := ifF (of_ndec_true h38) hm
    refine g_k Y Y Y Y (g_k Y Y Y Y (g_k Y Y Y Y (g_k Y Y Y Y (g_k Y Y Y Y (g_k Y Y Y Y (zu Y Y Y (jh Y Y ?_)))))))
    refine g_k Y Y Y Y (g_k Y Y Y Y (g_k Y Y Y Y ?_))
    refine jA Y Y Y Y Y ?_
    refine jA Y Y Y Y Y ?_
    refine g_k Y Y Y Y (zu Y Y Y (jh Y Y (g_k Y Y Y Y (g_k Y Y Y Y (g_k Y Y Y Y (g_k Y Y Y Y (g_k Y Y Y Y ?_)))))))
    refine g_k Y Y Y Y (zu Y Y Y (jx ?_))
    obtain rfl := sj hm
    exact jl () (trivial) (sE Y) (hsE [0, 1, 2] [1, 0, 2, 3, 4] 0 Y Y Y Y)
   replace hm := ifT (of_ndec_false h38) hm
   refine jb Y Y (jh Y Y (jb Y Y (jc Y Y Y (fun _ _ => zM Y Y) (jb Y Y (yl 0 isAgg22 Y Y Y Y (jb Y Y (jc Y Y Y (fun w _ => zW (vlen RI h34 Y) (runUnderlying22 w) Y) ?_)))))))
   refine jb Y Y (jc Y Y Y (fun _ _ => zM Y Y) (jb Y Y (jc Y Y Y (fun w _ => Qq (runUnderlying4 w) Y Y) (zx Y Y Y (jh Y Y ?_)))))
   refine kf 78 Y (fun h39 => ?_) (fun h39 => ?_)
   ·replace hm := ifT (h39) hm
    refine g_k Y Y Y Y (g_k Y Y Y Y (g_k Y Y Y Y ?_))
    refine jA Y Y Y Y Y ?_
    refine jA Y Y Y Y Y ?_
    refine g_k Y Y Y Y (zu Y Y Y (jh Y Y (g_k Y Y Y Y (g_k Y Y Y Y (g_k Y Y Y Y (g_k Y Y Y Y (g_k Y Y Y Y ?_)))))))
    refine g_k Y Y Y Y (zu Y Y Y (jx ?_))
    obtain rfl := sj hm
    exact jl () (trivial) (sE Y) (hsE [0, 1, 2] [1, 0, 2, 3, 4] 0 Y Y Y Y)
   replace hm := ifN h39 hm
   refine jb Y Y (jh Y Y (jb Y Y (jc Y Y Y (fun _ _ => JN Y Y) (jb Y Y (jh Y Y ?_)))))
   refine kf 81 Y (fun h40 => ?_) (fun h40 => ?_)
   ·replace hm := ifF (of_ndec_true h40) hm
    refine jb Y Y (jh Y Y (jb Y Y (jc Y Y Y (fun _ _ => JN Y Y) (jb Y Y (zu Y Y Y (zx Y Y Y (jh Y Y ?_)))))))
    refine kf 86 Y (fun h41 => ?_) (fun h41 => ?_)
    ·replace hm := ifF (of_ndec_true h41) hm
     refine g_k Y Y Y Y (g_k Y Y Y Y (g_k Y Y Y Y (g_k Y Y Y Y (g_k Y Y Y Y (g_k Y Y Y Y (zu Y Y Y (jx ?_)))))))
     obtain rfl := sj hm
     exact jl () (trivial) (sE Y) (hsE [0, 1, 2] [1, 0, 2, 3, 4] 0 Y Y Y Y)
    replace hm := ifT (of_ndec_false h41) hm
    refine jb Y Y (jh Y Y (jb Y Y (jc Y Y Y (fun _ _ => zM Y Y) (jb Y Y (jh Y Y (jb Y Y (jc Y Y Y (fun w _ => zW (vlen RI h31 Y) (runUnderlying22 w) Y) ?_)))))))
    refine jb Y Y (jc Y Y Y (fun _ _ => Zh Y Y) (jb Y Y (jc Y Y Y (fun w _ => Qq (runUnderlying4 w) Y Y) (zx Y Y Y (jx ?_)))))
    obtain rfl := sj hm
    exact jl () (trivial) (sE Y) (hsE [0, 1, 2] [1, 0, 2, 3, 4] 0 Y Y Y Y)
   replace hm := ifT (of_ndec_false h40) hm
   refine g_k Y Y Y Y (g_k Y Y Y Y (jb Y Y (zx Y Y Y (zx Y Y Y (jh Y Y (jb Y Y (jh Y Y ?_)))))))
   refine jb Y Y (jc Y Y Y (fun _ _ => zM Y Y) (jb Y Y (jh Y Y (jb Y Y (jc Y Y Y (fun w _ => zW (vlen RI h31 Y) (runUnderlying22 w) Y) (jb Y Y (jc Y Y Y (fun _ _ => Zh Y Y) ?_)))))))
   refine jb Y Y (jc Y Y Y (fun w _ => Qq (runUnderlying4 w) Y Y) (zx Y Y Y (jx ?_)))
   obtain rfl := sj hm
   exact jl () (trivial) (sE Y) (hsE [0, 1, 2] [1, 0, 2, 3, 4] 0 Y Y Y Y)
  intro l_8 hj
  replace hm := h37
  refine ja ?_
  refine jt Y (fun h42 => ?_) (fun h42 => ?_)
  ·replace hm := ifT (h42) hm
   refine jr (jo Y Y (jq (ju (je ?_))))
   obtain rfl := sj hm
   refine jj Y (fun w hh => (.tmp Y .nil)) (fun w hh => ⟨(), rfl, trivial, hh.se [] [] 1 Y Y Y rfl⟩)
  replace hm := ifN h42 hm
  refine js (ja (ji (jr (jh Y Y (jc Y Y Y (fun _ _ => JN Y Y) (jq ?_))))))
  refine jt Y (fun h43 => ?_) (fun h43 => ?_)
  ·replace hm := ifF (of_ndec_true h43) hm
   refine jr ?_
   obtain ⟨t96, h44, hm⟩ := bindO hm
   refine jd [] [] Y Y Y Y Y Y Y call19 (fun w hh => KV  w (HV.callee (S0 := []) (vs0 := []) hh roN)  h44) (fun l_9 h45 => ?_)
   refine jo Y Y (jq (ju (je ?_)))
   obtain rfl := sj hm
   refine jj Y (fun w hh => (.tmp Y .nil)) (fun w hh => ⟨(), rfl, trivial, hh.se [] [] 1 Y Y Y rfl⟩)
  replace hm := ifT (of_ndec_false h43) hm
  refine js (ja (jr (Jy [_, _, _, _, _] 2 isAgg26 sizeOf26 Y Y Y Y (jh Y Y ?_))))
  obtain ⟨t100, h46, hm⟩ := bindO hm
  refine jd [] [] Y Y Y Y Y Y Y call47 (fun w hh => Qp (⟨t26.r0.cells, t26.r0.tides, t26.r0.fords, t26.r0.sands, o⟩ : Channel) t60.r0 (qA l_1.1.q) l_1.1.n l_1.1.cap (qA l_1.2.1.q) l_1.2.1.n l_1.2.1.cap (qA l_2.q) l_2.n l_2.cap (qA l_6.q) l_6.n l_6.cap w (HV.callee (S0 := []) (vs0 := []) hh (roC (hh.vsepA 2 Y h5) (roC (hh.vsepA 3 Y h6) (roC (hh.vsepA 4 Y h16) (roC (hh.vsepA 0 Y h31) roN))))) (vlen RI h5 Y) (AOK.q (vne h5)) (h5).hle (vlen RSa h6 Y) (AOK.q (vne h6)) (h6).hle (vlen RSi h16 Y) (AOK.q (vne h16)) (h16).hle (vlen RI h31 Y) (AOK.q (vne h31)) (h31).hle h46) (fun l_10 h47 => ?_)
  refine jh Y Y (zG Y Y Y (zG Y Y Y (jo Y Y (jo Y Y (jq (ji (ji ?_)))))))
  obtain ⟨o_3, h48, h49⟩ := bindO hm
  refine jU (ι := Unit) (fun l_11 => True) (fun l_11 => [(6, ptr b 0), (9, sL l_6), (11, ptr b_1 0), (113, .bool o_3)]) (fun l_11 => [kc b_1 #[sL l_7] 22, kc l #[.slice qa0 na0 ca0, .int .i64 t32.b0_1, .int .u32 t32.b0_2] 199, kc b #[.int .i64 t26.r0.cells, .int .i64 t26.r0.tides, sL l_1.1, sL l_1.2.1, sL l_2] 26]) (fun l_11 => [vL 3 l_6 (RI.enc t60.r0), vL 3 l_7 (RI.enc t65.r0), vL 3 l_1.1 (RI.enc t26.r0.fords), vL 98 l_1.2.1 (RSa.enc t26.r0.sands), vL 55 l_2 (RSi.enc o)]) ?_ ?_
  ·replace hm := h48
   refine jg (jh Y Y (jc Y Y Y (fun _ _ => JN Y Y) (jh Y Y ?_)))
   refine kf 105 Y (fun h50 => ?_) (fun h50 => ?_)
   ·replace hm := ifF (of_ndec_true h50) hm
    refine g_k Y Y Y Y (zu Y Y Y (jh Y Y (g_k Y Y Y Y (g_k Y Y Y Y (g_k Y Y Y Y (g_k Y Y Y Y (zu Y Y Y ?_)))))))
    refine jx ?_
    obtain rfl := sj hm
    exact jl () (trivial) (sE Y) (fun w hh => hh)
   replace hm := ifT (of_ndec_false h50) hm
   refine jb Y Y (jh Y Y (zx Y Y Y (jh Y Y ?_)))
   refine kf 108 Y (fun h51 => ?_) (fun h51 => ?_)
   ·replace hm := ifT (h51) hm
    refine g_k Y Y Y Y (g_k Y Y Y Y (g_k Y Y Y Y (g_k Y Y Y Y (zu Y Y Y (jx ?_)))))
    obtain rfl := sj hm
    exact jl () (trivial) (sE Y) (fun w hh => hh)
   replace hm := ifN h51 hm
   refine jb Y Y (jh Y Y (jb Y Y (jc Y Y Y (fun _ _ => jX (u := #[]) (u' := #[_]) Y Y) (jb Y Y ?_))))
   obtain ⟨t111, h52, hm⟩ := bindO hm
   refine jd [] [] Y Y Y Y Y Y Y call65 (fun w hh => KZ t60.r0 t65.r0 (qA l_6.q) l_6.n l_6.cap b_1 (qA l_7.q) l_7.n l_7.cap w (HV.callee (S0 := []) (vs0 := []) hh (roC (hh.vsepA 0 Y h31) (roC (bsep (hh.bseg 0 Y)) (roC (hh.vsepA 1 Y h34) roN)))) (vlen RI h31 Y) (AOK.q (vne h31)) (h31).hle (vlen RI h34 Y) (AOK.q (vne h34)) (h34).hle h52) (fun l_12 h53 => ?_)
   refine jb Y Y (jc Y Y Y (fun _ _ => yZ Y) (zx Y Y Y (jx ?_)))
   obtain rfl := sj hm
   exact jl () (trivial) (sE Y) (fun w hh => hh)
  intro l_11 hj
  replace hm := h49
  refine ja ?_
  refine jt Y (fun h54 => ?_) (fun h54 => ?_)
  ·replace hm := ifT (h54) hm
   refine jr (jo Y Y (jq (ju (je ?_))))
   obtain rfl := sj hm
   refine jj Y (fun w hh => (.tmp Y .nil)) (fun w hh => ⟨(), rfl, trivial, hh.se [] [] 1 Y Y Y rfl⟩)
  replace hm := ifN h54 hm
  refine js (ja (ji (jr (jh Y Y (jc Y Y Y (fun w _ => zW (vlen RI h31 Y) (runUnderlying22 w) Y) (jh Y Y (jq ?_)))))))
  obtain ⟨o_4, h55, h56⟩ := bindO hm
  refine jU (ι := Unit) (fun j => o_4 = .inl j) (fun j => [(6, ptr b 0), (11, ptr b_1 0)]) (fun j => [kc b_1 #[sL l_7] 22, kc l #[.slice qa0 na0 ca0, .int .i64 t32.b0_1, .int .u32 t32.b0_2] 199, kc b #[.int .i64 t26.r0.cells, .int .i64 t26.r0.tides, sL l_1.1, sL l_1.2.1, sL l_2] 26]) (fun j => [vL 3 l_7 (RI.enc t65.r0), vL 3 l_1.1 (RI.enc t26.r0.fords), vL 98 l_1.2.1 (RSa.enc t26.r0.sands), vL 55 l_2 (RSi.enc o)]) ?_ ?_
  ·replace hm := h55
   refine jn ?_
   refine j5 (ι := Unit) hm (fun s_1 l_13 => True) (fun s_1 l_13 => [(6, ptr b 0), (9, sL l_6), (11, ptr b_1 0), (115, .int .i64 (t60.r0.length : Int)), (116, .int .i64 s_1)]) (fun s_1 l_13 => [kc b_1 #[sL l_7] 22, kc l #[.slice qa0 na0 ca0, .int .i64 t32.b0_1, .int .u32 t32.b0_2] 199, kc b #[.int .i64 t26.r0.cells, .int .i64 t26.r0.tides, sL l_1.1, sL l_1.2.1, sL l_2] 26]) (fun s_1 l_13 => [vL 3 l_6 (RI.enc t60.r0), vL 3 l_7 (RI.enc t65.r0), vL 3 l_1.1 (RI.enc t26.r0.fords), vL 98 l_1.2.1 (RSa.enc t26.r0.sands), vL 55 l_2 (RSi.enc o)]) () (trivial) (sE Y) (fun w hh => hh) (fun s_1 l_13 r_1 hpl hm h57 => ?_)
   unfold ky at hm
   refine jr (Kk Y Y Y (jq (ji ?_)))
   refine jt Y (fun h58 => ?_) (fun h58 => ?_)
   ·replace hm := ifD h58 hm
    refine js (ja (ji (jn (jr (jh Y Y (jo Y Y (jq ?_)))))))
    refine ji ?_
    refine kM none (.hoist 0 (.free 1 (.free 3 (.free 4 (.free 5 (.one 2 (.one 6 (.one 7 (.free 8 (.free 9 (.free 10 (.free 11 (.free 12 .done))))))))))))) _ Y (by decide +kernel) (fun w k hh => hh.draw k) (fun w hh => hh) ?_
    refine jz Y Y Y Y (fun w hh => jP (vs := [_, _, _, _, _]) (isAgg26 w) (sizeOf26 w) Y (hh.cells 2 Y Y)) (za Y Y Y (za Y Y Y (za Y Y Y ?_)))
    obtain ⟨t125, h59, hm⟩ := bindO hm
    refine jp Y Y Y Y (fun _ _ => Kf h59 Y Y) (jC Y ?_)
    obtain ⟨t122, h60, hm⟩ := bindO hm
    refine jd [] [] Y Y Y Y Y Y Y call74 (fun w hh => j6 t60.r0 (qA l_6.q) l_6.n l_6.cap w (HV.callee (S0 := []) (vs0 := []) hh (roC (hh.vsepA 0 Y h31) roN)) (vlen RI h31 Y) (AOK.q (vne h31)) (h31).hle h60) (fun l_14 h61 => ?_)
    have h62 := h61
    refine ka (S' := [_, _, _]) (vs' := [_, _, _, _, _, _]) [0, 1, 2] [0, 1, 2, 3, 4, 5] 0 Y Y Y Y (jm (hsE [0, 1, 2] [1, 2, 3, 4, 5] 0 Y Y Y Y) (jC Y ?_))
    obtain ⟨t126, h63, hm⟩ := bindO hm
    refine jd [] [_] Y Y Y Y Y Y Y call73 (fun w hh => Yl t122 s_1 t125 ⟨l_14.q, l_14.n, l_14.cap, l_14.sp⟩ w (HV.callee (S0 := []) (vs0 := [_]) hh roN) h62 h63) (fun l_15 h64 => ?_)
    have h65 := h64
    refine ka (S' := [_, _, _]) (vs' := [_, _, _, _, _, _]) [0, 1, 2] [0, 1, 2, 3, 4, 5] 0 Y Y Y Y (jm (hsE [0, 1, 2] [1, 2, 3, 4, 5] 0 Y Y Y Y) (jC Y ?_))
    obtain ⟨t127, h66, hm⟩ := bindO hm
    refine jd [] [] Y Y Y Y Y Y Y call47 (fun w hh => Qp (⟨t26.r0.cells, t26.r0.tides, t26.r0.fords, t26.r0.sands, o⟩ : Channel) t126 (qA l_1.1.q) l_1.1.n l_1.1.cap (qA l_1.2.1.q) l_1.2.1.n l_1.2.1.cap (qA l_2.q) l_2.n l_2.cap (qA l_15.q) l_15.n l_15.cap w (HV.callee (S0 := []) (vs0 := []) hh (roC (hh.vsepA 3 Y h5) (roC (hh.vsepA 4 Y h6) (roC (hh.vsepA 5 Y h16) (roC (hh.vsepA 0 Y h65) roN))))) (vlen RI h5 Y) (AOK.q (vne h5)) (h5).hle (vlen RSa h6 Y) (AOK.q (vne h6)) (h6).hle (vlen RSi h16 Y) (AOK.q (vne h16)) (h16).hle (vlen RI h65 Y) (AOK.q (vne h65)) (h65).hle h66) (fun l_16 h67 => ?_)
    refine jm (hsE [0, 1, 2] [1, 2, 3, 4, 5] 0 Y Y Y Y) (za Y Y Y (jp Y Y Y Y (fun _ _ => Zd Y Y) (jp Y Y Y Y (fun _ _ => Zd Y Y) (jp Y Y Y Y (fun _ _ => km Y) (jp Y Y Y Y (fun _ _ => km Y) (jQ (ja ?_)))))))
    refine ji ?_
    obtain ⟨o_5, h68, h69⟩ := bindO hm
    refine jU (ι := Unit) (fun l_17 => True) (fun l_17 => [(6, ptr b 0), (9, sL l_6), (11, ptr b_1 0), (115, .int .i64 (t60.r0.length : Int)), (116, .int .i64 s_1), (135, .bool o_5)]) (fun l_17 => [kc b_1 #[sL l_7] 22, kc l #[.slice qa0 na0 ca0, .int .i64 t32.b0_1, .int .u32 t32.b0_2] 199, kc b #[.int .i64 t26.r0.cells, .int .i64 t26.r0.tides, sL l_1.1, sL l_1.2.1, sL l_2] 26]) (fun l_17 => [vL 3 l_6 (RI.enc t60.r0), vL 3 l_7 (RI.enc t65.r0), vL 3 l_1.1 (RI.enc t26.r0.fords), vL 98 l_1.2.1 (RSa.enc t26.r0.sands), vL 55 l_2 (RSi.enc o)]) ?_ ?_
    ·replace hm := h68
     refine jg (jh Y Y (jc Y Y Y (fun _ _ => JN Y Y) (jh Y Y ?_)))
     refine kf 132 Y (fun h70 => ?_) (fun h70 => ?_)
     ·replace hm := ifF (of_ndec_true h70) hm
      refine g_k Y Y Y Y (g_k Y Y Y Y (zu Y Y Y (jx ?_)))
      obtain rfl := sj hm
      exact jl () (trivial) (sE Y) (hsE [0, 1, 2] [1, 2, 3, 4, 5] 0 Y Y Y Y)
     replace hm := ifT (of_ndec_false h70) hm
     refine jb Y Y (jh Y Y (jb Y Y (jc Y Y Y (fun _ _ => yZ Y) (zx Y Y Y (jx ?_)))))
     obtain rfl := sj hm
     exact jl () (trivial) (sE Y) (hsE [0, 1, 2] [1, 2, 3, 4, 5] 0 Y Y Y Y)
    intro l_17 hj
    replace hm := h69
    refine ja ?_
    refine jt Y (fun h71 => ?_) (fun h71 => ?_)
    ·replace hm := ifT (h71) hm
     refine jr (jo Y Y (jq (ju (jB (je (je (jB ?_)))))))
     obtain rfl := sj hm
     have hbo := h57 _ Y
     subst hbo
     refine je ?_
     replace hm := ocR h56
     refine je ?_
     obtain rfl := sj hm
     refine jj Y (fun w hh => (.tmp Y .nil)) (fun w hh => ⟨(), rfl, trivial, hh.se [] [] 1 Y Y Y rfl⟩)
    replace hm := ifN h71 hm
    refine js (jw (ja (jg ?_)))
    obtain ⟨t136, h72, hm⟩ := bindO hm
    refine Ki h72 Y Y Y (jh Y Y (jx ?_))
    obtain rfl := sj hm
    refine ja ?_
    exact jL _ () Y (trivial) (sE Y) (fun w hh => hh)
   replace hm := ifE h58 hm
   refine ks (jk (jk (jM ?_)))
   obtain rfl := sj hm
   have hbo := h57 _ Y
   subst hbo
   exact jl () (Y) (sE Y) (hsE [0, 1, 2] [1, 2, 3, 4] 0 Y Y Y Y)
  intro j hj
  have h73 := hj
  subst h73
  replace hm := ocL h56
  refine ja (ji (jr (yl 0 isAgg22 Y Y Y Y (jc Y Y Y (fun w _ => zW (vlen RI h34 Y) (runUnderlying22 w) Y) (jh Y Y (jq ?_))))))
  obtain ⟨o_6, h74, h75⟩ := bindO hm
  refine jU (ι := Unit) (fun j_1 => o_6 = .inl j_1) (fun j_1 => []) (fun j_1 => [kc b_1 #[sL l_7] 22, kc l #[.slice qa0 na0 ca0, .int .i64 t32.b0_1, .int .u32 t32.b0_2] 199, kc b #[.int .i64 t26.r0.cells, .int .i64 t26.r0.tides, sL l_1.1, sL l_1.2.1, sL l_2] 26]) (fun j_1 => [vL 3 l_7 (RI.enc t65.r0), vL 3 l_1.1 (RI.enc t26.r0.fords), vL 98 l_1.2.1 (RSa.enc t26.r0.sands), vL 55 l_2 (RSi.enc o)]) ?_ ?_
  ·replace hm := h74
   refine jn ?_
   refine j5 (ι := Unit) hm (fun s_2 l_18 => True) (fun s_2 l_18 => [(6, ptr b 0), (11, ptr b_1 0), (138, .int .i64 (t65.r0.length : Int)), (139, .int .i64 s_2)]) (fun s_2 l_18 => [kc b_1 #[sL l_7] 22, kc l #[.slice qa0 na0 ca0, .int .i64 t32.b0_1, .int .u32 t32.b0_2] 199, kc b #[.int .i64 t26.r0.cells, .int .i64 t26.r0.tides, sL l_1.1, sL l_1.2.1, sL l_2] 26]) (fun s_2 l_18 => [vL 3 l_7 (RI.enc t65.r0), vL 3 l_1.1 (RI.enc t26.r0.fords), vL 98 l_1.2.1 (RSa.enc t26.r0.sands), vL 55 l_2 (RSi.enc o)]) () (trivial) (sE Y) (fun w hh => hh) (fun s_2 l_18 r_2 hpl hm h76 => ?_)
   unfold kz at hm
   refine jr (Kk Y Y Y (jq (ji ?_)))
   refine jt Y (fun h77 => ?_) (fun h77 => ?_)
   ·replace hm := ifD h77 hm
    refine js (ja (ji (jn (jr (jh Y Y (jo Y Y (kY ?_)))))))
    refine jc Y Y Y (fun _ _ => ye Y) (jq (ji (jr (yJ 4 runUnderlying26 Y sizeOf24 Y Y (yl 2 isAgg24 Y Y Y Y (jc Y Y Y (fun w _ => zW (vlen RSi h16 Y) (runUnderlying24 w) Y) (jh Y Y ?_)))))))
    refine jq (zS 3 ?_)
    obtain ⟨o_7, h78, h79⟩ := bindO hm
    refine jU (ι := VL) (fun l_19 => VOK 1 l_19.n l_19.cap (RI.enc o_7) l_19.sp l_19.q) (fun l_19 => [(6, ptr b 0), (11, ptr b_1 0), (18, sL l_19), (138, .int .i64 (t65.r0.length : Int)), (139, .int .i64 s_2)]) (fun l_19 => [kc b_1 #[sL l_7] 22, kc l #[.slice qa0 na0 ca0, .int .i64 t32.b0_1, .int .u32 t32.b0_2] 199, kc b #[.int .i64 t26.r0.cells, .int .i64 t26.r0.tides, sL l_1.1, sL l_1.2.1, sL l_2] 26]) (fun l_19 => [vL 3 l_19 (RI.enc o_7), vL 3 l_7 (RI.enc t65.r0), vL 3 l_1.1 (RI.enc t26.r0.fords), vL 98 l_1.2.1 (RSa.enc t26.r0.sands), vL 55 l_2 (RSi.enc o)]) ?_ ?_
    ·replace hm := h78
     refine jn ?_
     refine j5 (ι := VL) hm (fun s_3 l_20 => VOK 1 l_20.n l_20.cap (RI.enc s_3.rest18) l_20.sp l_20.q) (fun s_3 l_20 => [(6, ptr b 0), (11, ptr b_1 0), (17, .int .i64 s_2), (18, sL l_20), (138, .int .i64 (t65.r0.length : Int)), (139, .int .i64 s_2), (144, .int .i64 (o.length : Int)), (145, .int .i64 s_3.t145)]) (fun s_3 l_20 => [kc b_1 #[sL l_7] 22, kc l #[.slice qa0 na0 ca0, .int .i64 t32.b0_1, .int .u32 t32.b0_2] 199, kc b #[.int .i64 t26.r0.cells, .int .i64 t26.r0.tides, sL l_1.1, sL l_1.2.1, sL l_2] 26]) (fun s_3 l_20 => [vL 3 l_20 (RI.enc s_3.rest18), vL 3 l_7 (RI.enc t65.r0), vL 3 l_1.1 (RI.enc t26.r0.fords), vL 98 l_1.2.1 (RSa.enc t26.r0.sands), vL 55 l_2 (RSi.enc o)]) ⟨none, 0, 0, []⟩ (VOK.nil) (sE Y) (fun w hh => hh) (fun s_3 l_20 r_3 hpl hm h82 => ?_)
     have h81 := hpl
     unfold jY at hm
     refine jr (Kk Y Y Y (jq (ji ?_)))
     refine jt Y (fun h83 => ?_) (fun h83 => ?_)
     ·replace hm := ifD h83 hm
      refine js (ja (ji ?_))
      obtain ⟨o_8, h84, h85⟩ := bindO hm
      refine jU (ι := VL) (fun l_21 => VOK 1 l_21.n l_21.cap (RI.enc o_8) l_21.sp l_21.q) (fun l_21 => [(6, ptr b 0), (11, ptr b_1 0), (17, .int .i64 s_2), (18, sL l_21), (138, .int .i64 (t65.r0.length : Int)), (139, .int .i64 s_2), (144, .int .i64 (o.length : Int)), (145, .int .i64 s_3.t145)]) (fun l_21 => [kc b_1 #[sL l_7] 22, kc l #[.slice qa0 na0 ca0, .int .i64 t32.b0_1, .int .u32 t32.b0_2] 199, kc b #[.int .i64 t26.r0.cells, .int .i64 t26.r0.tides, sL l_1.1, sL l_1.2.1, sL l_2] 26]) (fun l_21 => [vL 3 l_21 (RI.enc o_8), vL 3 l_7 (RI.enc t65.r0), vL 3 l_1.1 (RI.enc t26.r0.fords), vL 98 l_1.2.1 (RSa.enc t26.r0.sands), vL 55 l_2 (RSi.enc o)]) ?_ ?_
      ·replace hm := h84
       refine jn (jr (jh Y Y (jo Y Y (jq (ji ?_)))))
       obtain ⟨o_9, h87, h88⟩ := bindO hm
       refine jU (ι := Unit) (fun l_22 => True) (fun l_22 => [(6, ptr b 0), (11, ptr b_1 0), (17, .int .i64 s_2), (18, sL l_20), (19, .int .i64 s_3.t145), (138, .int .i64 (t65.r0.length : Int)), (139, .int .i64 s_2), (144, .int .i64 (o.length : Int)), (145, .int .i64 s_3.t145), (159, .bool o_9)]) (fun l_22 => [kc b_1 #[sL l_7] 22, kc l #[.slice qa0 na0 ca0, .int .i64 t32.b0_1, .int .u32 t32.b0_2] 199, kc b #[.int .i64 t26.r0.cells, .int .i64 t26.r0.tides, sL l_1.1, sL l_1.2.1, sL l_2] 26]) (fun l_22 => [vL 3 l_20 (RI.enc s_3.rest18), vL 3 l_7 (RI.enc t65.r0), vL 3 l_1.1 (RI.enc t26.r0.fords), vL 98 l_1.2.1 (RSa.enc t26.r0.sands), vL 55 l_2 (RSi.enc o)]) ?_ ?_
       ·replace hm := h87
        refine jg (yl 0 isAgg22 Y Y Y Y (jh Y Y ?_))
        obtain ⟨t150, h89, hm⟩ := bindO hm
        refine jd [] [] Y Y Y Y Y Y Y call64 (fun w hh => kr t65.r0 s_3.t145 (qA l_7.q) l_7.n l_7.cap w (HV.callee (S0 := []) (vs0 := []) hh (roC (hh.vsepA 1 Y h34) roN)) (vlen RI h34 Y) (AOK.q (vne h34)) (h34).hle h89) (fun l_23 h90 => ?_)
        refine jc Y Y Y (fun _ _ => yZ Y) (jh Y Y ?_)
        refine kf 152 Y (fun h91 => ?_) (fun h91 => ?_)
        ·replace hm := ifT (h91) hm
         refine g_k Y Y Y Y (g_k Y Y Y Y (g_k Y Y Y Y (g_k Y Y Y Y (g_k Y Y Y Y (g_k Y Y Y Y (zu Y Y Y (jx ?_)))))))
         obtain rfl := sj hm
         exact jl () (trivial) (sE Y) (fun w hh => hh)
        replace hm := ifN h91 hm
        refine jb Y Y (jh Y Y (jb Y Y (yl 0 isAgg22 Y Y Y Y (jb Y Y (jh Y Y (jb Y Y ?_))))))
        obtain ⟨t156, h92, hm⟩ := bindO hm
        refine jc Y Y Y (fun w _ => KC h92 (runUnderlying22 w) (sizeOf3 w) Y Y (vlen RI h34 Y) (vne h34)) (jb Y Y (jc Y Y Y (fun w hh => zN RI 0 h92 (isAgg3 w) Y (hh.vseg 1 Y h34) Y (Nat.add_zero _).symm) (jb Y Y (jc Y Y Y (fun _ _ => zM Y Y) (zx Y Y Y (jx ?_))))))
        obtain rfl := sj hm
        exact jl () (trivial) (sE Y) (fun w hh => hh)
       intro l_22 hj
       replace hm := h88
       refine ja ?_
       refine jt Y (fun h93 => ?_) (fun h93 => ?_)
       ·replace hm := ifT (h93) hm
        refine jg (jh Y Y (jh Y Y ?_))
        refine qw RI [s_3.t145] (ps := [(0, _)]) (cells := [_]) (fun w => runUnderlying22 w) (fun w => sizeOf3 w) (fun w => zeroValue3 w) Y Y Y Y Y Y Y Y (fun L h94 => ?_)
        obtain ⟨t163, h95, hm⟩ := bindO hm
        refine zR RI 1 h95 underlying22 KO Y Y Y Y Y h81 Y Y (vlen RI h94 Y) (AOK.q (vne h94)) (fun w hh => (hh.vsegA 0 Y h94)) Y (fun L_1 h96 h96n => ?_)
        refine ka (S' := [_, _, _]) (vs' := [_, _, _, _, _, _]) [0, 1, 2] [0, 1, 2, 3, 4, 5] 0 Y Y Y Y (jo Y Y (jx (jw ?_)))
        obtain rfl := sj hm
        exact jl L_1 (h96) (sE Y) (hsE [0, 1, 2] [1, 2, 3, 4, 5] 0 Y Y Y Y)
       replace hm := ifN h93 hm
       refine js (jw ?_)
       obtain rfl := sj hm
       exact jl l_20 (h81) (sE Y) (fun w hh => hh)
      intro l_21 hj
      have h86 := hj
      replace hm := h85
      refine ja (jg ?_)
      obtain ⟨t164, h97, hm⟩ := bindO hm
      refine Ki h97 Y Y Y (jh Y Y (jx ?_))
      obtain rfl := sj hm
      refine ja ?_
      exact jL _ l_21 Y (h86) (sE Y) (fun w hh => hh)
     replace hm := ifE h83 hm
     refine ks (jk (jk (jM ?_)))
     obtain rfl := sj hm
     have hbo := h82 _ Y
     subst hbo
     exact jl l_20 (h81) (sE Y) (fun w hh => hh)
    intro l_19 hj
    have h80 := hj
    replace hm := h79
    refine ja (jr (Jy [_, _, _, _, _] 2 isAgg26 sizeOf26 Y Y Y Y (jh Y Y ?_)))
    obtain ⟨t168, h98, hm⟩ := bindO hm
    refine jd [] [] Y Y Y Y Y Y Y call47 (fun w hh => Qp (⟨t26.r0.cells, t26.r0.tides, t26.r0.fords, t26.r0.sands, o⟩ : Channel) o_7 (qA l_1.1.q) l_1.1.n l_1.1.cap (qA l_1.2.1.q) l_1.2.1.n l_1.2.1.cap (qA l_2.q) l_2.n l_2.cap (qA l_19.q) l_19.n l_19.cap w (HV.callee (S0 := []) (vs0 := []) hh (roC (hh.vsepA 2 Y h5) (roC (hh.vsepA 3 Y h6) (roC (hh.vsepA 4 Y h16) (roC (hh.vsepA 0 Y h80) roN))))) (vlen RI h5 Y) (AOK.q (vne h5)) (h5).hle (vlen RSa h6 Y) (AOK.q (vne h6)) (h6).hle (vlen RSi h16 Y) (AOK.q (vne h16)) (h16).hle (vlen RI h80 Y) (AOK.q (vne h80)) (h80).hle h98) (fun l_24 h99 => ?_)
    refine jh Y Y (zG Y Y Y (zG Y Y Y (jo Y Y (jo Y Y (jq (ji ?_))))))
    obtain ⟨o_10, h100, h101⟩ := bindO hm
    refine jU (ι := Unit) (fun l_25 => True) (fun l_25 => [(6, ptr b 0), (11, ptr b_1 0), (138, .int .i64 (t65.r0.length : Int)), (139, .int .i64 s_2), (175, .bool o_10)]) (fun l_25 => [kc b_1 #[sL l_7] 22, kc l #[.slice qa0 na0 ca0, .int .i64 t32.b0_1, .int .u32 t32.b0_2] 199, kc b #[.int .i64 t26.r0.cells, .int .i64 t26.r0.tides, sL l_1.1, sL l_1.2.1, sL l_2] 26]) (fun l_25 => [vL 3 l_7 (RI.enc t65.r0), vL 3 l_1.1 (RI.enc t26.r0.fords), vL 98 l_1.2.1 (RSa.enc t26.r0.sands), vL 55 l_2 (RSi.enc o)]) ?_ ?_
    ·replace hm := h100
     refine jg (jh Y Y (jc Y Y Y (fun _ _ => JN Y Y) (jh Y Y ?_)))
     refine kf 173 Y (fun h102 => ?_) (fun h102 => ?_)
     ·replace hm := ifF (of_ndec_true h102) hm
      refine g_k Y Y Y Y (zu Y Y Y (jx ?_))
      obtain rfl := sj hm
      exact jl () (trivial) (sE Y) (hsE [0, 1, 2] [1, 2, 3, 4] 0 Y Y Y Y)
     replace hm := ifT (of_ndec_false h102) hm
     refine jb Y Y (jh Y Y (zx Y Y Y (jx ?_)))
     obtain rfl := sj hm
     exact jl () (trivial) (sE Y) (hsE [0, 1, 2] [1, 2, 3, 4] 0 Y Y Y Y)
    intro l_25 hj
    replace hm := h101
    refine ja ?_
    refine jt Y (fun h103 => ?_) (fun h103 => ?_)
    ·replace hm := ifT (h103) hm
     refine jr (jo Y Y (jq (ju (jB (je (je (jB ?_)))))))
     obtain rfl := sj hm
     have hbo := h76 _ Y
     subst hbo
     refine je ?_
     replace hm := ocR h75
     refine je ?_
     obtain rfl := sj hm
     refine jj Y (fun w hh => (.tmp Y .nil)) (fun w hh => ⟨(), rfl, trivial, hh.se [] [] 1 Y Y Y rfl⟩)
    replace hm := ifN h103 hm
    refine js (jw (ja (jg ?_)))
    obtain ⟨t176, h104, hm⟩ := bindO hm
    refine Ki h104 Y Y Y (jh Y Y (jx ?_))
    obtain rfl := sj hm
    refine ja ?_
    exact jL _ () Y (trivial) (sE Y) (fun w hh => hh)
   replace hm := ifE h77 hm
   refine ks (jk (jk (jM ?_)))
   obtain rfl := sj hm
   have hbo := h76 _ Y
   subst hbo
   exact jl () (Y) (.nil) (fun w hh => hh)
  intro j_1 hj
  have h105 := hj
  subst h105
  replace hm := ocL h75
  refine ja (jr ?_)
  obtain ⟨t177, h106, hm⟩ := bindO hm
  refine jd [] [] Y Y Y Y Y Y Y call19 (fun w hh => KV  w (HV.callee (S0 := []) (vs0 := []) hh roN)  h106) (fun l_26 h107 => ?_)
  refine jo Y Y (jq (ju ?_))
  obtain rfl := sj hm
  refine jj Y (fun w hh => (.tmp Y .nil)) (fun w hh => ⟨(), rfl, trivial, hh.se [] [] 1 Y Y Y rfl⟩)
end Go.Proofs.Wb

