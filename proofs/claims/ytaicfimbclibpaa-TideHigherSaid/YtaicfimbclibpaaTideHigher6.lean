/- What the functions that the law TideHigher reaches come to, and why it holds: part 6. -/
import Derived.Test.YtaicfimbclibpaaTideHigher5
namespace Go.Proofs.Wk
open Go Go.Fw Go.Gx Go.Pl
set_option linter.unusedVariables false
structure m_laurellaw01_TideHigher_C0 where
  sill11 : Sands
  floor12 : Sands
  more13 : Sands
def m_laurellaw01_TideHigher_Q0 : Plan := (.one 1 (.one 3 (.one 5 (.one 9 (.one 10 (.one 11 .done))))))
def m_laurellaw01_TideHigher_Q1 : Plan := (.one 3 (.one 5 (.one 9 (.one 10 (.one 11 .done)))))
def m_laurellaw01_TideHigher_Q2 : Plan := (.one 5 (.one 9 (.one 10 (.one 11 .done))))
def m_laurellaw01_TideHigher_Q3 : Plan := (.one 6 (.one 9 (.one 10 (.one 11 .done))))
def m_laurellaw01_TideHigher_Q4 : Plan := (.br (.alt 5 m_laurellaw01_TideHigher_Q3 (.alt 6 m_laurellaw01_TideHigher_Q2 .nil)))
def m_laurellaw01_TideHigher_Q5 : Plan := (.br (.alt 3 m_laurellaw01_TideHigher_Q4 (.alt 6 m_laurellaw01_TideHigher_Q1 .nil)))
def m_laurellaw01_TideHigher_Q6 : Plan := (.br (.alt 1 m_laurellaw01_TideHigher_Q5 (.alt 6 m_laurellaw01_TideHigher_Q0 .nil)))
def m_laurellaw01_TideHigher_Q7 : Plan := (.one 7 (.one 9 (.one 10 (.one 11 .done))))
def m_laurellaw01_TideHigher_Q8 : Plan := (.br (.alt 5 m_laurellaw01_TideHigher_Q7 (.alt 7 m_laurellaw01_TideHigher_Q2 .nil)))
def m_laurellaw01_TideHigher_Q9 : Plan := (.br (.alt 3 m_laurellaw01_TideHigher_Q8 (.alt 7 m_laurellaw01_TideHigher_Q1 .nil)))
def m_laurellaw01_TideHigher_Q10 : Plan := (.br (.alt 1 m_laurellaw01_TideHigher_Q9 (.alt 7 m_laurellaw01_TideHigher_Q0 .nil)))
def m_laurellaw01_TideHigher_Q11 : Plan := (.br (.alt 6 m_laurellaw01_TideHigher_Q7 (.alt 7 m_laurellaw01_TideHigher_Q3 .nil)))
def m_laurellaw01_TideHigher_Q12 : Plan := (.br (.alt 5 m_laurellaw01_TideHigher_Q11 (.alt 6 m_laurellaw01_TideHigher_Q8 (.alt 7 m_laurellaw01_TideHigher_Q4 .nil))))
def m_laurellaw01_TideHigher_Q13 : Plan := (.br (.alt 3 m_laurellaw01_TideHigher_Q12 (.alt 6 m_laurellaw01_TideHigher_Q9 (.alt 7 m_laurellaw01_TideHigher_Q5 .nil))))
def m_laurellaw01_TideHigher_Q14 : Plan := (.br (.alt 1 m_laurellaw01_TideHigher_Q13 (.alt 6 m_laurellaw01_TideHigher_Q10 (.alt 7 m_laurellaw01_TideHigher_Q6 .nil))))
def m_laurellaw01_TideHigher_Q15 : Plan := (.one 8 (.one 9 (.one 10 (.one 11 .done))))
def m_laurellaw01_TideHigher_Q16 : Plan := (.br (.alt 5 m_laurellaw01_TideHigher_Q15 (.alt 8 m_laurellaw01_TideHigher_Q2 .nil)))
def m_laurellaw01_TideHigher_Q17 : Plan := (.br (.alt 3 m_laurellaw01_TideHigher_Q16 (.alt 8 m_laurellaw01_TideHigher_Q1 .nil)))
def m_laurellaw01_TideHigher_Q18 : Plan := (.br (.alt 1 m_laurellaw01_TideHigher_Q17 (.alt 8 m_laurellaw01_TideHigher_Q0 .nil)))
def m_laurellaw01_TideHigher_Q19 : Plan := (.br (.alt 6 m_laurellaw01_TideHigher_Q15 (.alt 8 m_laurellaw01_TideHigher_Q3 .nil)))
def m_laurellaw01_TideHigher_Q20 : Plan := (.br (.alt 5 m_laurellaw01_TideHigher_Q19 (.alt 6 m_laurellaw01_TideHigher_Q16 (.alt 8 m_laurellaw01_TideHigher_Q4 .nil))))
def m_laurellaw01_TideHigher_Q21 : Plan := (.br (.alt 3 m_laurellaw01_TideHigher_Q20 (.alt 6 m_laurellaw01_TideHigher_Q17 (.alt 8 m_laurellaw01_TideHigher_Q5 .nil))))
def m_laurellaw01_TideHigher_Q22 : Plan := (.br (.alt 1 m_laurellaw01_TideHigher_Q21 (.alt 6 m_laurellaw01_TideHigher_Q18 (.alt 8 m_laurellaw01_TideHigher_Q6 .nil))))
def m_laurellaw01_TideHigher_Q23 : Plan := (.br (.alt 7 m_laurellaw01_TideHigher_Q15 (.alt 8 m_laurellaw01_TideHigher_Q7 .nil)))
def m_laurellaw01_TideHigher_Q24 : Plan := (.br (.alt 5 m_laurellaw01_TideHigher_Q23 (.alt 7 m_laurellaw01_TideHigher_Q16 (.alt 8 m_laurellaw01_TideHigher_Q8 .nil))))
def m_laurellaw01_TideHigher_Q25 : Plan := (.br (.alt 3 m_laurellaw01_TideHigher_Q24 (.alt 7 m_laurellaw01_TideHigher_Q17 (.alt 8 m_laurellaw01_TideHigher_Q9 .nil))))
def m_laurellaw01_TideHigher_Q26 : Plan := (.br (.alt 1 m_laurellaw01_TideHigher_Q25 (.alt 7 m_laurellaw01_TideHigher_Q18 (.alt 8 m_laurellaw01_TideHigher_Q10 .nil))))
def m_laurellaw01_TideHigher_Q27 : Plan := (.br (.alt 6 m_laurellaw01_TideHigher_Q23 (.alt 7 m_laurellaw01_TideHigher_Q19 (.alt 8 m_laurellaw01_TideHigher_Q11 .nil))))
def m_laurellaw01_TideHigher_Q28 : Plan := (.br (.alt 5 m_laurellaw01_TideHigher_Q27 (.alt 6 m_laurellaw01_TideHigher_Q24 (.alt 7 m_laurellaw01_TideHigher_Q20 (.alt 8 m_laurellaw01_TideHigher_Q12 .nil)))))
def m_laurellaw01_TideHigher_Q29 : Plan := (.br (.alt 3 m_laurellaw01_TideHigher_Q28 (.alt 6 m_laurellaw01_TideHigher_Q25 (.alt 7 m_laurellaw01_TideHigher_Q21 (.alt 8 m_laurellaw01_TideHigher_Q13 .nil)))))
def m_laurellaw01_TideHigher_L0 (t29 : m_laurellaw01_Made_R) (o : m_laurellaw01_TideHigher_C0) (o_1 : (List Sill)) (t128 : ((List Int) × Int)) (t102 : ((List Int) × Int)) (s : Int) : Option (Int ⊕ (Unit ⊕ Bool)) :=
 if s < (t29.r0.floors.length : Int) then
 ((x_Gate t29.r0 s).bind fun t149 =>
 (x_Gate (⟨o.sill11.table, o.sill11.wind, o.sill11.floors, o_1⟩ : Sands) s).bind fun t155 =>
 (if t149.2 = t155.2 then
 (if t149.2 = 0 then
 (if t155.1 < t149.1 then
 (some true) else
 ((ix t128.1 s).bind fun t176 =>
 (ix t102.1 s).bind fun t180 =>
 if t180 < t176 then
 (some true) else
 (some false))) else
 ((ix t128.1 s).bind fun t176_1 =>
 (ix t102.1 s).bind fun t180_1 =>
 if t180_1 < t176_1 then
 (some true) else
 (some false))) else
 (some true)).bind fun o_5 =>
 if o_5 = true then
 (some (.inr (.inr false))) else
 ((addc s 1).bind fun t213 =>
 some (.inl t213))) else
 (some (.inr (.inl ())))
def m_laurellaw01_TideHigher_L1 (t29 : m_laurellaw01_Made_R) (o : m_laurellaw01_TideHigher_C0) (floor12_floors : (List Int)) (t128_1 : ((List Int) × Int)) (t102 : ((List Int) × Int)) (s_1 : Int) : Option (Int ⊕ (Unit ⊕ Bool)) :=
 if s_1 < (t29.r0.floors.length : Int) then
 ((x_Gate t29.r0 s_1).bind fun t149_1 =>
 (x_Gate (⟨o.floor12.table, o.floor12.wind, floor12_floors, o.floor12.sills⟩ : Sands) s_1).bind fun t155_1 =>
 (if t149_1.2 = t155_1.2 then
 (if t149_1.2 = 0 then
 (if t155_1.1 < t149_1.1 then
 (some true) else
 ((ix t128_1.1 s_1).bind fun t176_2 =>
 (ix t102.1 s_1).bind fun t180_2 =>
 if t180_2 < t176_2 then
 (some true) else
 (some false))) else
 ((ix t128_1.1 s_1).bind fun t176_3 =>
 (ix t102.1 s_1).bind fun t180_3 =>
 if t180_3 < t176_3 then
 (some true) else
 (some false))) else
 (some true)).bind fun o_8 =>
 if o_8 = true then
 (some (.inr (.inr false))) else
 ((addc s_1 1).bind fun t213_1 =>
 some (.inl t213_1))) else
 (some (.inr (.inl ())))
def m_laurellaw01_TideHigher_L2 (t29 : m_laurellaw01_Made_R) (o : m_laurellaw01_TideHigher_C0) (t85 : (List Sill)) (t128_2 : ((List Int) × Int)) (t102 : ((List Int) × Int)) (s_2 : Int) : Option (Int ⊕ (Unit ⊕ Bool)) :=
 if s_2 < (t29.r0.floors.length : Int) then
 ((x_Gate t29.r0 s_2).bind fun t149_2 =>
 (x_Gate (⟨o.more13.table, o.more13.wind, o.more13.floors, t85⟩ : Sands) s_2).bind fun t155_2 =>
 (if t149_2.2 = 0 then
 (if t155_2.2 = 0 then
 (if t149_2.1 < t155_2.1 then
 (some true) else
 ((ix t128_2.1 s_2).bind fun t203 =>
 (ix t102.1 s_2).bind fun t207 =>
 some (decide (t203 < t207)))) else
 (some true)) else
 ((ix t128_2.1 s_2).bind fun t203_1 =>
 (ix t102.1 s_2).bind fun t207_1 =>
 some (decide (t203_1 < t207_1)))).bind fun o_11 =>
 if o_11 = true then
 (some (.inr (.inr false))) else
 ((addc s_2 1).bind fun t213_2 =>
 some (.inl t213_2))) else
 (some (.inr (.inl ())))
def m_laurellaw01_TideHigher (numbers0 : (List Int)) (which1 : Int) (much2 : Int) (when3 : Int) : Option Bool :=
 (m_laurelkit_Pile numbers0).bind fun t27 =>
 (m_laurellaw01_Made numbers0 t27.t5_1 t27.t5_2 6 9).bind fun t29 =>
 ((m_laurellaw01_Own t29.r0).bind fun t31 =>
 (m_laurellaw01_Own t29.r0).bind fun t33 =>
 (m_laurellaw01_Own t29.r0).bind fun t35 =>
 some (⟨t31, t33, t35⟩ : m_laurellaw01_TideHigher_C0)).bind fun o =>
 (if 0 < (t29.r0.sills.length : Int) then
 ((remc (IntKind.i64.wrap which1) (t29.r0.sills.length : Int)).bind fun t47 =>
 (ix o.sill11.sills t47).bind fun t48 =>
 (remc (IntKind.i64.wrap much2) 30).bind fun t53 =>
 (addc t48.h t53).bind fun t54 =>
 (ix o.sill11.sills t47).bind fun t55 =>
 (some (o.sill11.sills.set (Int.toNat t47) (⟨t55.a, t55.b, t54⟩ : Sill))).bind fun sill11_sills =>
 some sill11_sills) else
 (some o.sill11.sills)).bind fun o_1 =>
 (remc (IntKind.i64.wrap which1) (t29.r0.floors.length : Int)).bind fun t64 =>
 (ix o.floor12.floors t64).bind fun t65 =>
 (remc (IntKind.i64.wrap much2) 30).bind fun t69 =>
 (addc t65 t69).bind fun t70 =>
 (ix o.floor12.floors t64).bind fun t71 =>
 (some (o.floor12.floors.set (Int.toNat t64) t70)).bind fun floor12_floors =>
 (remc (IntKind.i64.wrap which1) (t29.r0.floors.length : Int)).bind fun t79 =>
 (remc (IntKind.i64.wrap much2) 60).bind fun t82 =>
 (appc 24 o.more13.sills [(⟨-1, t79, t82⟩ : Sill)]).bind fun t85 =>
 (m_laurellaw01_first t29.r0).bind fun t88 =>
 (m_laurellaw01_last t29.r0).bind fun t92 =>
 (m_laurellaw01_first t29.r0).bind fun t94 =>
 (subc t92 t94).bind fun t95 =>
 (addc t95 1).bind fun t96 =>
 (remc (IntKind.i64.wrap when3) t96).bind fun t97 =>
 (addc t88 t97).bind fun t98 =>
 (x_All t29.r0 t98).bind fun t102 =>
 (if t102.2 = 0 then
 (some (!decide ((t102.1.length : Int) = (t29.r0.floors.length : Int)))) else
 (some true)).bind fun o_2 =>
 if o_2 = true then
 (some false) else
 ((x_All (⟨o.sill11.table, o.sill11.wind, o.sill11.floors, o_1⟩ : Sands) t98).bind fun t128 =>
 (if t128.2 = 0 then
 (some (!decide ((t128.1.length : Int) = (t102.1.length : Int)))) else
 (some true)).bind fun o_3 =>
 if o_3 = true then
 (some false) else
 ((iterM FU (m_laurellaw01_TideHigher_L0 t29 o o_1 t128 t102) 0).bind fun o_4 =>
 oc o_4 (fun j => (x_All (⟨o.floor12.table, o.floor12.wind, floor12_floors, o.floor12.sills⟩ : Sands) t98).bind fun t128_1 =>
 (if t128_1.2 = 0 then
 (some (!decide ((t128_1.1.length : Int) = (t102.1.length : Int)))) else
 (some true)).bind fun o_6 =>
 if o_6 = true then
 (some false) else
 ((iterM FU (m_laurellaw01_TideHigher_L1 t29 o floor12_floors t128_1 t102) 0).bind fun o_7 =>
 oc o_7 (fun j_1 => (x_All (⟨o.more13.table, o.more13.wind, o.more13.floors, t85⟩ : Sands) t98).bind fun t128_2 =>
 (if t128_2.2 = 0 then
 (some (!decide ((t128_2.1.length : Int) = (t102.1.length : Int)))) else
 (some true)).bind fun o_9 =>
 if o_9 = true then
 (some false) else
 ((iterM FU (m_laurellaw01_TideHigher_L2 t29 o t85 t128_2 t102) 0).bind fun o_10 =>
 oc o_10 (fun j_2 => (x_awake).bind fun t215 =>
 some t215) (fun r_3 => some r_3))) (fun r_4 => some r_4))) (fun r_5 => some r_5)))
set_option maxRecDepth 100000 in
set_option maxHeartbeats 4000000 in
theorem c_laurellaw01_TideHigher (numbers0 : (List Int)) (which1 : Int) (much2 : Int) (when3 : Int) (qa0 : Option Addr) (na0 ca0 : Nat) (w : World) (hw : HV w (keys [] []) [] [] [(aB qa0, aO qa0, RU8.enc numbers0)] w) (hna0 : numbers0.length = na0) (hqa0 : AOK na0 qa0) (hla0 : na0 ≤ ca0) {res : Bool} (hm : m_laurellaw01_TideHigher numbers0 which1 much2 when3 = some res) :
    Calls Try.prog 4 #[.slice qa0 na0 ca0, .int .u8 which1, .int .u8 much2, .int .u8 when3] w (fun en w' => ∃ l : Unit, en = .returned (.bool res) ∧ (True) ∧ HV w (keys [] []) [] [] [] w') := by
  unfold m_laurellaw01_TideHigher at hm
  refine g_enter (args := [.slice qa0 na0 ca0, .int .u8 which1, .int .u8 much2, .int .u8 when3]) Try.func4 rfl Try.ntmps4 rfl (e := [(0, _), (1, _), (2, _), (3, _)]) rfl (H := HV w (keys [] []) [] [] [(aB qa0, aO qa0, RU8.enc numbers0)]) hw ?_
  refine g_seq ?_
  refine g_region ?_
  refine g_val rfl rfl rfl (fun _ _ => v_assign rfl) ?_
  refine g_nil ?_
  refine g_n_then ?_
  refine g_seq ?_
  refine g_region ?_
  refine g_val rfl rfl rfl (fun _ _ => v_move rfl) ?_
  obtain ⟨t27, h1, hm⟩ := bindO hm
  refine g_callH [] [] rfl rfl rfl rfl rfl rfl rfl (fun a w => Try.call19 a w) (fun w hh => c_laurelkit_Pile numbers0 qa0 na0 ca0 w (HV.callee (S0 := []) (vs0 := []) hh (roC (hh.rsep (S0 := []) (vs0 := []) 0 rfl) roN)) hna0 hqa0 hla0 h1) (fun l h2 => ?_)
  refine g_sel (S' := [_]) (vs' := []) [0] [] 0 (by decide) (by decide) rfl rfl rfl ?_
  refine g_val rfl rfl rfl (fun _ _ => v_assign rfl) ?_
  refine g_nil ?_
  refine g_n_then ?_
  refine g_seq ?_
  refine g_region ?_
  refine g_val rfl rfl rfl (fun _ _ => v_move rfl) ?_
  obtain ⟨t29, h3, hm⟩ := bindO hm
  refine g_callH [_] [] rfl rfl rfl rfl rfl rfl rfl (fun a w => Try.call18 a w) (fun w hh => c_laurellaw01_Made numbers0 t27.t5_1 t27.t5_2 6 9 l qa0 na0 ca0 w (HV.callee (S0 := [_]) (vs0 := []) hh (roC (hh.rsep (S0 := [_]) (vs0 := []) 0 rfl) roN)) hna0 hqa0 hla0 h3) (fun l_1 h4 => ?_)
  obtain ⟨h5, h6, h7⟩ := h4
  refine g_sel (S' := [_]) (vs' := [_, _, _]) [0] [0, 1, 2] 0 (by decide) (by decide) rfl rfl rfl ?_
  refine g_allocV (fun w => Try.zeroValue29 w) rfl (fun b h8 => ?_)
  refine g_stSA (us := #[_, _, _, _, _]) (cs' := [_, _, _, _, _]) (S' := [_, _]) 0 (fun w => Try.sizeOf29 w) rfl rfl rfl rfl rfl rfl rfl ?_
  refine g_nil ?_
  refine g_n_then ?_
  refine g_seq ?_
  obtain ⟨o, h9, h10⟩ := bindO hm
  refine g_cut (ι := Nat × Nat × Nat × VL × VL × VL × VL × VL × VL × VL × VL × VL) (fun l_2 => VOK 2 l_2.2.2.2.1.n l_2.2.2.2.1.cap (RW.enc o.sill11.table) l_2.2.2.2.1.sp l_2.2.2.2.1.q ∧ VOK 1 l_2.2.2.2.2.1.n l_2.2.2.2.2.1.cap (RI.enc o.sill11.floors) l_2.2.2.2.2.1.sp l_2.2.2.2.2.1.q ∧ VOK 3 l_2.2.2.2.2.2.1.n l_2.2.2.2.2.2.1.cap (RS.enc o.sill11.sills) l_2.2.2.2.2.2.1.sp l_2.2.2.2.2.2.1.q ∧ VOK 2 l_2.2.2.2.2.2.2.1.n l_2.2.2.2.2.2.2.1.cap (RW.enc o.floor12.table) l_2.2.2.2.2.2.2.1.sp l_2.2.2.2.2.2.2.1.q ∧ VOK 1 l_2.2.2.2.2.2.2.2.1.n l_2.2.2.2.2.2.2.2.1.cap (RI.enc o.floor12.floors) l_2.2.2.2.2.2.2.2.1.sp l_2.2.2.2.2.2.2.2.1.q ∧ VOK 3 l_2.2.2.2.2.2.2.2.2.1.n l_2.2.2.2.2.2.2.2.2.1.cap (RS.enc o.floor12.sills) l_2.2.2.2.2.2.2.2.2.1.sp l_2.2.2.2.2.2.2.2.2.1.q ∧ VOK 2 l_2.2.2.2.2.2.2.2.2.2.1.n l_2.2.2.2.2.2.2.2.2.2.1.cap (RW.enc o.more13.table) l_2.2.2.2.2.2.2.2.2.2.1.sp l_2.2.2.2.2.2.2.2.2.2.1.q ∧ VOK 1 l_2.2.2.2.2.2.2.2.2.2.2.1.n l_2.2.2.2.2.2.2.2.2.2.2.1.cap (RI.enc o.more13.floors) l_2.2.2.2.2.2.2.2.2.2.2.1.sp l_2.2.2.2.2.2.2.2.2.2.2.1.q ∧ VOK 3 l_2.2.2.2.2.2.2.2.2.2.2.2.n l_2.2.2.2.2.2.2.2.2.2.2.2.cap (RS.enc o.more13.sills) l_2.2.2.2.2.2.2.2.2.2.2.2.sp l_2.2.2.2.2.2.2.2.2.2.2.2.q) (fun l_2 => [(1, .int .u8 which1), (2, .int .u8 much2), (3, .int .u8 when3), (10, ptr b 0), (11, ptr l_2.1 0), (12, ptr l_2.2.1 0), (13, ptr l_2.2.2.1 0)]) (fun l_2 => [(b, .cells #[slv l_1.1.q l_1.1.n l_1.1.cap, .int .i64 t29.r0.wind.lo, .int .i64 t29.r0.wind.hi, slv l_1.2.1.q l_1.2.1.n l_1.2.1.cap, slv l_1.2.2.q l_1.2.2.n l_1.2.2.cap] 29 (0, 0)), (l, .cells #[.slice qa0 na0 ca0, .int .i64 t29.b0_1, .int .u32 t29.b0_2] 138 (0, 0)), (l_2.1, .cells #[slv l_2.2.2.2.1.q l_2.2.2.2.1.n l_2.2.2.2.1.cap, .int .i64 o.sill11.wind.lo, .int .i64 o.sill11.wind.hi, slv l_2.2.2.2.2.1.q l_2.2.2.2.2.1.n l_2.2.2.2.2.1.cap, slv l_2.2.2.2.2.2.1.q l_2.2.2.2.2.2.1.n l_2.2.2.2.2.2.1.cap] 29 (0, 0)), (l_2.2.1, .cells #[slv l_2.2.2.2.2.2.2.1.q l_2.2.2.2.2.2.2.1.n l_2.2.2.2.2.2.2.1.cap, .int .i64 o.floor12.wind.lo, .int .i64 o.floor12.wind.hi, slv l_2.2.2.2.2.2.2.2.1.q l_2.2.2.2.2.2.2.2.1.n l_2.2.2.2.2.2.2.2.1.cap, slv l_2.2.2.2.2.2.2.2.2.1.q l_2.2.2.2.2.2.2.2.2.1.n l_2.2.2.2.2.2.2.2.2.1.cap] 29 (0, 0)), (l_2.2.2.1, .cells #[slv l_2.2.2.2.2.2.2.2.2.2.1.q l_2.2.2.2.2.2.2.2.2.2.1.n l_2.2.2.2.2.2.2.2.2.2.1.cap, .int .i64 o.more13.wind.lo, .int .i64 o.more13.wind.hi, slv l_2.2.2.2.2.2.2.2.2.2.2.1.q l_2.2.2.2.2.2.2.2.2.2.2.1.n l_2.2.2.2.2.2.2.2.2.2.2.1.cap, slv l_2.2.2.2.2.2.2.2.2.2.2.2.q l_2.2.2.2.2.2.2.2.2.2.2.2.n l_2.2.2.2.2.2.2.2.2.2.2.2.cap] 29 (0, 0))]) (fun l_2 => [⟨68, RW.enc t29.r0.table, l_1.1.sp, l_1.1.q⟩, ⟨3, RI.enc t29.r0.floors, l_1.2.1.sp, l_1.2.1.q⟩, ⟨51, RS.enc t29.r0.sills, l_1.2.2.sp, l_1.2.2.q⟩, ⟨68, RW.enc o.sill11.table, l_2.2.2.2.1.sp, l_2.2.2.2.1.q⟩, ⟨3, RI.enc o.sill11.floors, l_2.2.2.2.2.1.sp, l_2.2.2.2.2.1.q⟩, ⟨51, RS.enc o.sill11.sills, l_2.2.2.2.2.2.1.sp, l_2.2.2.2.2.2.1.q⟩, ⟨68, RW.enc o.floor12.table, l_2.2.2.2.2.2.2.1.sp, l_2.2.2.2.2.2.2.1.q⟩, ⟨3, RI.enc o.floor12.floors, l_2.2.2.2.2.2.2.2.1.sp, l_2.2.2.2.2.2.2.2.1.q⟩, ⟨51, RS.enc o.floor12.sills, l_2.2.2.2.2.2.2.2.2.1.sp, l_2.2.2.2.2.2.2.2.2.1.q⟩, ⟨68, RW.enc o.more13.table, l_2.2.2.2.2.2.2.2.2.2.1.sp, l_2.2.2.2.2.2.2.2.2.2.1.q⟩, ⟨3, RI.enc o.more13.floors, l_2.2.2.2.2.2.2.2.2.2.2.1.sp, l_2.2.2.2.2.2.2.2.2.2.2.1.q⟩, ⟨51, RS.enc o.more13.sills, l_2.2.2.2.2.2.2.2.2.2.2.2.sp, l_2.2.2.2.2.2.2.2.2.2.2.2.q⟩]) ?_ ?_
  ·replace hm := h9
   obtain ⟨t31, h20, hm⟩ := bindO hm
   obtain ⟨t33, h21, hm⟩ := bindO hm
   obtain ⟨t35, h22, hm⟩ := bindO hm
   refine g_draw none (.hoist 0 (.hoist 2 (.hoist 4 (.br (.alt 1 m_laurellaw01_TideHigher_Q29 (.alt 6 m_laurellaw01_TideHigher_Q26 (.alt 7 m_laurellaw01_TideHigher_Q22 (.alt 8 m_laurellaw01_TideHigher_Q14 .nil)))))))) _ rfl (by decide +kernel) (fun w k hh => hh.draw k) (fun w hh => hh) ?_
   refine p_hoist rfl rfl rfl rfl (fun w hh => v_loadAgg (vs := [_, _, _, _, _]) (Try.isAgg29 w) (Try.sizeOf29 w) rfl (hh.cells 0 rfl rfl)) ?_
   refine p_hoist rfl rfl rfl rfl (fun w hh => v_loadAgg (vs := [_, _, _, _, _]) (Try.isAgg29 w) (Try.sizeOf29 w) rfl (hh.cells 0 rfl rfl)) ?_
   refine p_hoist rfl rfl rfl rfl (fun w hh => v_loadAgg (vs := [_, _, _, _, _]) (Try.isAgg29 w) (Try.sizeOf29 w) rfl (hh.cells 0 rfl rfl)) ?_
   refine p_share (.one 11 .done) (fun g => ∀ (b_1 : Nat) (b_2 : Nat) (b_3 : Nat) (L : VL) (L_1 : VL) (L_2 : VL) (L_3 : VL) (L_4 : VL) (L_5 : VL) (L_6 : VL) (L_7 : VL) (L_8 : VL), vk 2 L (RW.enc t35.table) → vk 1 L_1 (RI.enc t35.floors) → vk 3 L_2 (RS.enc t35.sills) → vk 2 L_3 (RW.enc t31.table) → vk 1 L_4 (RI.enc t31.floors) → vk 3 L_5 (RS.enc t31.sills) → vk 2 L_6 (RW.enc t33.table) → vk 1 L_7 (RI.enc t33.floors) → vk 3 L_8 (RS.enc t33.sills) → g [(1, .int .u8 which1), (2, .int .u8 much2), (3, .int .u8 when3), (10, ptr b 0), (11, ptr b_1 0), (12, ptr b_2 0), (13, ptr b_3 0), (35, .agg #[sL L, .int .i64 t35.wind.lo, .int .i64 t35.wind.hi, sL L_1, sL L_2])] [(b, .cells #[sL l_1.1, .int .i64 t29.r0.wind.lo, .int .i64 t29.r0.wind.hi, sL l_1.2.1, sL l_1.2.2] 29 (0, 0)), (l, .cells #[.slice qa0 na0 ca0, .int .i64 t29.b0_1, .int .u32 t29.b0_2] 138 (0, 0)), (b_1, .cells #[sL L_3, .int .i64 t31.wind.lo, .int .i64 t31.wind.hi, sL L_4, sL L_5] 29 (0, 0)), (b_2, .cells #[sL L_6, .int .i64 t33.wind.lo, .int .i64 t33.wind.hi, sL L_7, sL L_8] 29 (0, 0)), (b_3, .cells #[slv none 0 0, .int .i64 0, .int .i64 0, slv none 0 0, slv none 0 0] 29 (0, 0))] [vL 68 L (RW.enc t35.table), vL 3 L_1 (RI.enc t35.floors), vL 51 L_2 (RS.enc t35.sills), vL 68 l_1.1 (RW.enc t29.r0.table), vL 3 l_1.2.1 (RI.enc t29.r0.floors), vL 51 l_1.2.2 (RS.enc t29.r0.sills), vL 68 L_3 (RW.enc t31.table), vL 3 L_4 (RI.enc t31.floors), vL 51 L_5 (RS.enc t31.sills), vL 68 L_6 (RW.enc t33.table), vL 3 L_7 (RI.enc t33.floors), vL 51 L_8 (RS.enc t33.sills)]) ?_ (fun h32 => ?_)
   ·intro b_1 b_2 b_3 L L_1 L_2 L_3 L_4 L_5 L_6 L_7 L_8 h23 h24 h25 h26 h27 h28 h29 h30 h31
    refine p_one rfl ?_
    refine g_stSA (us := #[_, _, _, _, _]) (cs' := [_, _, _, _, _]) (S' := [_, _, _, _, _]) 4 (fun w => Try.sizeOf29 w) rfl rfl rfl rfl rfl rfl rfl ?_
    refine p_next (fun w hh => hh.sel [0, 1] [3, 4, 5] 0 (by decide) (by decide) rfl rfl rfl) ?_
    refine p_done ?_
    obtain rfl := Option.some.inj hm
    exact g_leaf (b_1, b_2, b_3, L_3, L_4, L_5, L_6, L_7, L_8, L, L_1, L_2) (⟨h26, h27, h28, h29, h30, h31, h23, h24, h25⟩) ((.cons rfl (.cons rfl (.cons rfl (.cons rfl (.cons rfl (.cons rfl (.cons rfl .nil)))))))) (fun w hh => hh.sel [0, 1, 2, 3, 4] [3, 4, 5, 6, 7, 8, 9, 10, 11, 0, 1, 2] 0 (by decide) (by decide) rfl rfl rfl)
   refine p_share (.one 10 (.one 11 .done)) (fun g => ∀ (b_4 : Nat) (b_5 : Nat) (b_6 : Nat) (L_9 : VL) (L_10 : VL) (L_11 : VL) (L_12 : VL) (L_13 : VL) (L_14 : VL) (L_15 : VL) (L_16 : VL) (L_17 : VL), vk 2 L_9 (RW.enc t33.table) → vk 1 L_10 (RI.enc t33.floors) → vk 3 L_11 (RS.enc t33.sills) → vk 2 L_12 (RW.enc t35.table) → vk 1 L_13 (RI.enc t35.floors) → vk 3 L_14 (RS.enc t35.sills) → vk 2 L_15 (RW.enc t31.table) → vk 1 L_16 (RI.enc t31.floors) → vk 3 L_17 (RS.enc t31.sills) → g [(1, .int .u8 which1), (2, .int .u8 much2), (3, .int .u8 when3), (10, ptr b 0), (11, ptr b_4 0), (12, ptr b_5 0), (13, ptr b_6 0), (33, .agg #[sL L_9, .int .i64 t33.wind.lo, .int .i64 t33.wind.hi, sL L_10, sL L_11]), (35, .agg #[sL L_12, .int .i64 t35.wind.lo, .int .i64 t35.wind.hi, sL L_13, sL L_14])] [(b, .cells #[sL l_1.1, .int .i64 t29.r0.wind.lo, .int .i64 t29.r0.wind.hi, sL l_1.2.1, sL l_1.2.2] 29 (0, 0)), (l, .cells #[.slice qa0 na0 ca0, .int .i64 t29.b0_1, .int .u32 t29.b0_2] 138 (0, 0)), (b_4, .cells #[sL L_15, .int .i64 t31.wind.lo, .int .i64 t31.wind.hi, sL L_16, sL L_17] 29 (0, 0)), (b_5, .cells #[slv none 0 0, .int .i64 0, .int .i64 0, slv none 0 0, slv none 0 0] 29 (0, 0)), (b_6, .cells #[slv none 0 0, .int .i64 0, .int .i64 0, slv none 0 0, slv none 0 0] 29 (0, 0))] [vL 68 L_9 (RW.enc t33.table), vL 3 L_10 (RI.enc t33.floors), vL 51 L_11 (RS.enc t33.sills), vL 68 L_12 (RW.enc t35.table), vL 3 L_13 (RI.enc t35.floors), vL 51 L_14 (RS.enc t35.sills), vL 68 l_1.1 (RW.enc t29.r0.table), vL 3 l_1.2.1 (RI.enc t29.r0.floors), vL 51 l_1.2.2 (RS.enc t29.r0.sills), vL 68 L_15 (RW.enc t31.table), vL 3 L_16 (RI.enc t31.floors), vL 51 L_17 (RS.enc t31.sills)]) ?_ (fun h42 => ?_)
   ·intro b_4 b_5 b_6 L_9 L_10 L_11 L_12 L_13 L_14 L_15 L_16 L_17 h33 h34 h35 h36 h37 h38 h39 h40 h41
    refine p_one rfl ?_
    refine g_stSA (us := #[_, _, _, _, _]) (cs' := [_, _, _, _, _]) (S' := [_, _, _, _, _]) 3 (fun w => Try.sizeOf29 w) rfl rfl rfl rfl rfl rfl rfl ?_
    refine p_next (fun w hh => hh.sel [0, 1] [6, 7, 8] 0 (by decide) (by decide) rfl rfl rfl) ?_
    exact p_shr (h32 b_4 b_5 b_6 L_12 L_13 L_14 L_15 L_16 L_17 L_9 L_10 L_11 h36 h37 h38 h39 h40 h41 h33 h34 h35) ((.cons rfl (.cons rfl (.cons rfl (.cons rfl (.cons rfl (.cons rfl (.cons rfl (.cons rfl .nil))))))))) (fun w hh => hh.sel [0, 1, 2, 3, 4] [3, 4, 5, 6, 7, 8, 9, 10, 11, 0, 1, 2] 0 (by decide) (by decide) rfl rfl rfl)
   refine p_share (.one 9 (.one 10 (.one 11 .done))) (fun g => ∀ (b_7 : Nat) (b_8 : Nat) (b_9 : Nat) (L_18 : VL) (L_19 : VL) (L_20 : VL) (L_21 : VL) (L_22 : VL) (L_23 : VL) (L_24 : VL) (L_25 : VL) (L_26 : VL), vk 2 L_18 (RW.enc t31.table) → vk 1 L_19 (RI.enc t31.floors) → vk 3 L_20 (RS.enc t31.sills) → vk 2 L_21 (RW.enc t33.table) → vk 1 L_22 (RI.enc t33.floors) → vk 3 L_23 (RS.enc t33.sills) → vk 2 L_24 (RW.enc t35.table) → vk 1 L_25 (RI.enc t35.floors) → vk 3 L_26 (RS.enc t35.sills) → g [(1, .int .u8 which1), (2, .int .u8 much2), (3, .int .u8 when3), (10, ptr b 0), (11, ptr b_7 0), (12, ptr b_8 0), (13, ptr b_9 0), (31, .agg #[sL L_18, .int .i64 t31.wind.lo, .int .i64 t31.wind.hi, sL L_19, sL L_20]), (33, .agg #[sL L_21, .int .i64 t33.wind.lo, .int .i64 t33.wind.hi, sL L_22, sL L_23]), (35, .agg #[sL L_24, .int .i64 t35.wind.lo, .int .i64 t35.wind.hi, sL L_25, sL L_26])] [(b, .cells #[sL l_1.1, .int .i64 t29.r0.wind.lo, .int .i64 t29.r0.wind.hi, sL l_1.2.1, sL l_1.2.2] 29 (0, 0)), (l, .cells #[.slice qa0 na0 ca0, .int .i64 t29.b0_1, .int .u32 t29.b0_2] 138 (0, 0)), (b_7, .cells #[slv none 0 0, .int .i64 0, .int .i64 0, slv none 0 0, slv none 0 0] 29 (0, 0)), (b_8, .cells #[slv none 0 0, .int .i64 0, .int .i64 0, slv none 0 0, slv none 0 0] 29 (0, 0)), (b_9, .cells #[slv none 0 0, .int .i64 0, .int .i64 0, slv none 0 0, slv none 0 0] 29 (0, 0))] [vL 68 L_18 (RW.enc t31.table), vL 3 L_19 (RI.enc t31.floors), vL 51 L_20 (RS.enc t31.sills), vL 68 L_21 (RW.enc t33.table), vL 3 L_22 (RI.enc t33.floors), vL 51 L_23 (RS.enc t33.sills), vL 68 L_24 (RW.enc t35.table), vL 3 L_25 (RI.enc t35.floors), vL 51 L_26 (RS.enc t35.sills), vL 68 l_1.1 (RW.enc t29.r0.table), vL 3 l_1.2.1 (RI.enc t29.r0.floors), vL 51 l_1.2.2 (RS.enc t29.r0.sills)]) ?_ (fun h52 => ?_)
   ·intro b_7 b_8 b_9 L_18 L_19 L_20 L_21 L_22 L_23 L_24 L_25 L_26 h43 h44 h45 h46 h47 h48 h49 h50 h51
    refine p_one rfl ?_
    refine g_stSA (us := #[_, _, _, _, _]) (cs' := [_, _, _, _, _]) (S' := [_, _, _, _, _]) 2 (fun w => Try.sizeOf29 w) rfl rfl rfl rfl rfl rfl rfl ?_
    refine p_next (fun w hh => hh.sel [0, 1] [9, 10, 11] 0 (by decide) (by decide) rfl rfl rfl) ?_
    exact p_shr (h42 b_7 b_8 b_9 L_21 L_22 L_23 L_24 L_25 L_26 L_18 L_19 L_20 h46 h47 h48 h49 h50 h51 h43 h44 h45) ((.cons rfl (.cons rfl (.cons rfl (.cons rfl (.cons rfl (.cons rfl (.cons rfl (.cons rfl (.cons rfl .nil)))))))))) (fun w hh => hh.sel [0, 1, 2, 3, 4] [3, 4, 5, 6, 7, 8, 9, 10, 11, 0, 1, 2] 0 (by decide) (by decide) rfl rfl rfl)
   refine p_share m_laurellaw01_TideHigher_Q2 (fun g => ∀ (b_10 : Nat) (b_11 : Nat) (b_12 : Nat) (L_27 : VL) (L_28 : VL) (L_29 : VL) (L_30 : VL) (L_31 : VL) (L_32 : VL), vk 2 L_27 (RW.enc t31.table) → vk 1 L_28 (RI.enc t31.floors) → vk 3 L_29 (RS.enc t31.sills) → vk 2 L_30 (RW.enc t33.table) → vk 1 L_31 (RI.enc t33.floors) → vk 3 L_32 (RS.enc t33.sills) → g [(1, .int .u8 which1), (2, .int .u8 much2), (3, .int .u8 when3), (10, ptr b 0), (11, ptr b_10 0), (12, ptr b_11 0), (13, ptr b_12 0), (31, .agg #[sL L_27, .int .i64 t31.wind.lo, .int .i64 t31.wind.hi, sL L_28, sL L_29]), (33, .agg #[sL L_30, .int .i64 t33.wind.lo, .int .i64 t33.wind.hi, sL L_31, sL L_32]), (34, .agg #[sL l_1.1, .int .i64 t29.r0.wind.lo, .int .i64 t29.r0.wind.hi, sL l_1.2.1, sL l_1.2.2])] [(b, .cells #[sL l_1.1, .int .i64 t29.r0.wind.lo, .int .i64 t29.r0.wind.hi, sL l_1.2.1, sL l_1.2.2] 29 (0, 0)), (l, .cells #[.slice qa0 na0 ca0, .int .i64 t29.b0_1, .int .u32 t29.b0_2] 138 (0, 0)), (b_10, .cells #[slv none 0 0, .int .i64 0, .int .i64 0, slv none 0 0, slv none 0 0] 29 (0, 0)), (b_11, .cells #[slv none 0 0, .int .i64 0, .int .i64 0, slv none 0 0, slv none 0 0] 29 (0, 0)), (b_12, .cells #[slv none 0 0, .int .i64 0, .int .i64 0, slv none 0 0, slv none 0 0] 29 (0, 0))] [vL 68 L_27 (RW.enc t31.table), vL 3 L_28 (RI.enc t31.floors), vL 51 L_29 (RS.enc t31.sills), vL 68 L_30 (RW.enc t33.table), vL 3 L_31 (RI.enc t33.floors), vL 51 L_32 (RS.enc t33.sills), vL 68 l_1.1 (RW.enc t29.r0.table), vL 3 l_1.2.1 (RI.enc t29.r0.floors), vL 51 l_1.2.2 (RS.enc t29.r0.sills)]) ?_ (fun h59 => ?_)
   ·intro b_10 b_11 b_12 L_27 L_28 L_29 L_30 L_31 L_32 h53 h54 h55 h56 h57 h58
    refine p_one rfl ?_
    refine g_callH [] [] rfl rfl rfl rfl rfl rfl rfl (fun a w => Try.call25 a w) (fun w hh => c_laurellaw01_Own t29.r0 (qA l_1.1.q) l_1.1.n l_1.1.cap (qA l_1.2.1.q) l_1.2.1.n l_1.2.1.cap (qA l_1.2.2.q) l_1.2.2.n l_1.2.2.cap w (HV.callee (S0 := []) (vs0 := []) hh (roC (hh.vsepA (S0 := []) (vs0 := []) 6 rfl h5) (roC (hh.vsepA (S0 := []) (vs0 := []) 7 rfl h6) (roC (hh.vsepA (S0 := []) (vs0 := []) 8 rfl h7) roN)))) (vlen RW h5 rfl) (AOK.q (vne h5)) (h5).hle (vlen RI h6 rfl) (AOK.q (vne h6)) (h6).hle (vlen RS h7 rfl) (AOK.q (vne h7)) (h7).hle h22) (fun l_3 h60 => ?_)
    obtain ⟨h61, h62, h63⟩ := h60
    refine g_sel (S' := [_, _, _, _, _]) (vs' := [_, _, _, _, _, _, _, _, _, _, _, _]) [0, 1, 2, 3, 4] [0, 1, 2, 3, 4, 5, 6, 7, 8, 9, 10, 11] 0 (by decide) (by decide) rfl rfl rfl ?_
    refine p_next (fun w hh => hh.sel [0, 1] [9, 10, 11] 0 (by decide) (by decide) rfl rfl rfl) ?_
    exact p_shr (h52 b_10 b_11 b_12 L_27 L_28 L_29 L_30 L_31 L_32 l_3.1 l_3.2.1 l_3.2.2 h53 h54 h55 h56 h57 h58 h61 h62 h63) ((.cons rfl (.cons rfl (.cons rfl (.cons rfl (.cons rfl (.cons rfl (.cons rfl (.cons rfl (.cons rfl (.cons rfl .nil))))))))))) (fun w hh => hh.sel [0, 1, 2, 3, 4] [3, 4, 5, 6, 7, 8, 0, 1, 2, 9, 10, 11] 0 (by decide) (by decide) rfl rfl rfl)
   refine p_share m_laurellaw01_TideHigher_Q3 (fun g => ∀ (b_13 : Nat) (b_14 : Nat) (L_33 : VL) (L_34 : VL) (L_35 : VL) (L_36 : VL) (L_37 : VL) (L_38 : VL) (L_39 : VL) (L_40 : VL) (L_41 : VL), vk 2 L_33 (RW.enc t31.table) → vk 1 L_34 (RI.enc t31.floors) → vk 3 L_35 (RS.enc t31.sills) → vk 2 L_36 (RW.enc t33.table) → vk 1 L_37 (RI.enc t33.floors) → vk 3 L_38 (RS.enc t33.sills) → vk 2 L_39 (RW.enc t35.table) → vk 1 L_40 (RI.enc t35.floors) → vk 3 L_41 (RS.enc t35.sills) → g [(1, .int .u8 which1), (2, .int .u8 much2), (3, .int .u8 when3), (10, ptr b 0), (12, ptr b_13 0), (13, ptr b_14 0), (31, .agg #[sL L_33, .int .i64 t31.wind.lo, .int .i64 t31.wind.hi, sL L_34, sL L_35]), (33, .agg #[sL L_36, .int .i64 t33.wind.lo, .int .i64 t33.wind.hi, sL L_37, sL L_38]), (35, .agg #[sL L_39, .int .i64 t35.wind.lo, .int .i64 t35.wind.hi, sL L_40, sL L_41])] [(b, .cells #[sL l_1.1, .int .i64 t29.r0.wind.lo, .int .i64 t29.r0.wind.hi, sL l_1.2.1, sL l_1.2.2] 29 (0, 0)), (l, .cells #[.slice qa0 na0 ca0, .int .i64 t29.b0_1, .int .u32 t29.b0_2] 138 (0, 0)), (b_13, .cells #[slv none 0 0, .int .i64 0, .int .i64 0, slv none 0 0, slv none 0 0] 29 (0, 0)), (b_14, .cells #[slv none 0 0, .int .i64 0, .int .i64 0, slv none 0 0, slv none 0 0] 29 (0, 0))] [vL 68 L_33 (RW.enc t31.table), vL 3 L_34 (RI.enc t31.floors), vL 51 L_35 (RS.enc t31.sills), vL 68 L_36 (RW.enc t33.table), vL 3 L_37 (RI.enc t33.floors), vL 51 L_38 (RS.enc t33.sills), vL 68 L_39 (RW.enc t35.table), vL 3 L_40 (RI.enc t35.floors), vL 51 L_41 (RS.enc t35.sills), vL 68 l_1.1 (RW.enc t29.r0.table), vL 3 l_1.2.1 (RI.enc t29.r0.floors), vL 51 l_1.2.2 (RS.enc t29.r0.sills)]) ?_ (fun h73 => ?_)
   ·intro b_13 b_14 L_33 L_34 L_35 L_36 L_37 L_38 L_39 L_40 L_41 h64 h65 h66 h67 h68 h69 h70 h71 h72
    refine p_one rfl ?_
    refine g_allocV (fun w => Try.zeroValue29 w) rfl (fun b_15 h74 => ?_)
    refine p_next (fun w hh => hh.sel [1, 2] [9, 10, 11] 0 (by decide) (by decide) rfl rfl rfl) ?_
    exact p_shr (h52 b_15 b_13 b_14 L_33 L_34 L_35 L_36 L_37 L_38 L_39 L_40 L_41 h64 h65 h66 h67 h68 h69 h70 h71 h72) ((.cons rfl (.cons rfl (.cons rfl (.cons rfl (.cons rfl (.cons rfl (.cons rfl (.cons rfl (.cons rfl (.cons rfl .nil))))))))))) (fun w hh => hh.sel [1, 2, 0, 3, 4] [0, 1, 2, 3, 4, 5, 6, 7, 8, 9, 10, 11] 0 (by decide) (by decide) rfl rfl rfl)
   refine p_share m_laurellaw01_TideHigher_Q7 (fun g => ∀ (b_16 : Nat) (b_17 : Nat) (L_42 : VL) (L_43 : VL) (L_44 : VL) (L_45 : VL) (L_46 : VL) (L_47 : VL) (L_48 : VL) (L_49 : VL) (L_50 : VL), vk 2 L_42 (RW.enc t31.table) → vk 1 L_43 (RI.enc t31.floors) → vk 3 L_44 (RS.enc t31.sills) → vk 2 L_45 (RW.enc t33.table) → vk 1 L_46 (RI.enc t33.floors) → vk 3 L_47 (RS.enc t33.sills) → vk 2 L_48 (RW.enc t35.table) → vk 1 L_49 (RI.enc t35.floors) → vk 3 L_50 (RS.enc t35.sills) → g [(1, .int .u8 which1), (2, .int .u8 much2), (3, .int .u8 when3), (10, ptr b 0), (11, ptr b_16 0), (13, ptr b_17 0), (31, .agg #[sL L_42, .int .i64 t31.wind.lo, .int .i64 t31.wind.hi, sL L_43, sL L_44]), (33, .agg #[sL L_45, .int .i64 t33.wind.lo, .int .i64 t33.wind.hi, sL L_46, sL L_47]), (35, .agg #[sL L_48, .int .i64 t35.wind.lo, .int .i64 t35.wind.hi, sL L_49, sL L_50])] [(b, .cells #[sL l_1.1, .int .i64 t29.r0.wind.lo, .int .i64 t29.r0.wind.hi, sL l_1.2.1, sL l_1.2.2] 29 (0, 0)), (l, .cells #[.slice qa0 na0 ca0, .int .i64 t29.b0_1, .int .u32 t29.b0_2] 138 (0, 0)), (b_16, .cells #[slv none 0 0, .int .i64 0, .int .i64 0, slv none 0 0, slv none 0 0] 29 (0, 0)), (b_17, .cells #[slv none 0 0, .int .i64 0, .int .i64 0, slv none 0 0, slv none 0 0] 29 (0, 0))] [vL 68 L_42 (RW.enc t31.table), vL 3 L_43 (RI.enc t31.floors), vL 51 L_44 (RS.enc t31.sills), vL 68 L_45 (RW.enc t33.table), vL 3 L_46 (RI.enc t33.floors), vL 51 L_47 (RS.enc t33.sills), vL 68 L_48 (RW.enc t35.table), vL 3 L_49 (RI.enc t35.floors), vL 51 L_50 (RS.enc t35.sills), vL 68 l_1.1 (RW.enc t29.r0.table), vL 3 l_1.2.1 (RI.enc t29.r0.floors), vL 51 l_1.2.2 (RS.enc t29.r0.sills)]) ?_ (fun h84 => ?_)
   ·intro b_16 b_17 L_42 L_43 L_44 L_45 L_46 L_47 L_48 L_49 L_50 h75 h76 h77 h78 h79 h80 h81 h82 h83
    refine p_one rfl ?_
    refine g_allocV (fun w => Try.zeroValue29 w) rfl (fun b_18 h85 => ?_)
    refine p_next (fun w hh => hh.sel [1, 2] [9, 10, 11] 0 (by decide) (by decide) rfl rfl rfl) ?_
    exact p_shr (h52 b_16 b_18 b_17 L_42 L_43 L_44 L_45 L_46 L_47 L_48 L_49 L_50 h75 h76 h77 h78 h79 h80 h81 h82 h83) ((.cons rfl (.cons rfl (.cons rfl (.cons rfl (.cons rfl (.cons rfl (.cons rfl (.cons rfl (.cons rfl (.cons rfl .nil))))))))))) (fun w hh => hh.sel [1, 2, 3, 0, 4] [0, 1, 2, 3, 4, 5, 6, 7, 8, 9, 10, 11] 0 (by decide) (by decide) rfl rfl rfl)
   refine p_share m_laurellaw01_TideHigher_Q15 (fun g => ∀ (b_19 : Nat) (b_20 : Nat) (L_51 : VL) (L_52 : VL) (L_53 : VL) (L_54 : VL) (L_55 : VL) (L_56 : VL) (L_57 : VL) (L_58 : VL) (L_59 : VL), vk 2 L_51 (RW.enc t31.table) → vk 1 L_52 (RI.enc t31.floors) → vk 3 L_53 (RS.enc t31.sills) → vk 2 L_54 (RW.enc t33.table) → vk 1 L_55 (RI.enc t33.floors) → vk 3 L_56 (RS.enc t33.sills) → vk 2 L_57 (RW.enc t35.table) → vk 1 L_58 (RI.enc t35.floors) → vk 3 L_59 (RS.enc t35.sills) → g [(1, .int .u8 which1), (2, .int .u8 much2), (3, .int .u8 when3), (10, ptr b 0), (11, ptr b_19 0), (12, ptr b_20 0), (31, .agg #[sL L_51, .int .i64 t31.wind.lo, .int .i64 t31.wind.hi, sL L_52, sL L_53]), (33, .agg #[sL L_54, .int .i64 t33.wind.lo, .int .i64 t33.wind.hi, sL L_55, sL L_56]), (35, .agg #[sL L_57, .int .i64 t35.wind.lo, .int .i64 t35.wind.hi, sL L_58, sL L_59])] [(b, .cells #[sL l_1.1, .int .i64 t29.r0.wind.lo, .int .i64 t29.r0.wind.hi, sL l_1.2.1, sL l_1.2.2] 29 (0, 0)), (l, .cells #[.slice qa0 na0 ca0, .int .i64 t29.b0_1, .int .u32 t29.b0_2] 138 (0, 0)), (b_19, .cells #[slv none 0 0, .int .i64 0, .int .i64 0, slv none 0 0, slv none 0 0] 29 (0, 0)), (b_20, .cells #[slv none 0 0, .int .i64 0, .int .i64 0, slv none 0 0, slv none 0 0] 29 (0, 0))] [vL 68 L_51 (RW.enc t31.table), vL 3 L_52 (RI.enc t31.floors), vL 51 L_53 (RS.enc t31.sills), vL 68 L_54 (RW.enc t33.table), vL 3 L_55 (RI.enc t33.floors), vL 51 L_56 (RS.enc t33.sills), vL 68 L_57 (RW.enc t35.table), vL 3 L_58 (RI.enc t35.floors), vL 51 L_59 (RS.enc t35.sills), vL 68 l_1.1 (RW.enc t29.r0.table), vL 3 l_1.2.1 (RI.enc t29.r0.floors), vL 51 l_1.2.2 (RS.enc t29.r0.sills)]) ?_ (fun h95 => ?_)
   ·intro b_19 b_20 L_51 L_52 L_53 L_54 L_55 L_56 L_57 L_58 L_59 h86 h87 h88 h89 h90 h91 h92 h93 h94
    refine p_one rfl ?_
    refine g_allocV (fun w => Try.zeroValue29 w) rfl (fun b_21 h96 => ?_)
    refine p_next (fun w hh => hh.sel [1, 2] [9, 10, 11] 0 (by decide) (by decide) rfl rfl rfl) ?_
    exact p_shr (h52 b_19 b_20 b_21 L_51 L_52 L_53 L_54 L_55 L_56 L_57 L_58 L_59 h86 h87 h88 h89 h90 h91 h92 h93 h94) ((.cons rfl (.cons rfl (.cons rfl (.cons rfl (.cons rfl (.cons rfl (.cons rfl (.cons rfl (.cons rfl (.cons rfl .nil))))))))))) (fun w hh => hh.sel [1, 2, 3, 4, 0] [0, 1, 2, 3, 4, 5, 6, 7, 8, 9, 10, 11] 0 (by decide) (by decide) rfl rfl rfl)
   refine p_share m_laurellaw01_TideHigher_Q1 (fun g => ∀ (b_22 : Nat) (b_23 : Nat) (b_24 : Nat) (L_60 : VL) (L_61 : VL) (L_62 : VL), vk 2 L_60 (RW.enc t31.table) → vk 1 L_61 (RI.enc t31.floors) → vk 3 L_62 (RS.enc t31.sills) → g [(1, .int .u8 which1), (2, .int .u8 much2), (3, .int .u8 when3), (10, ptr b 0), (11, ptr b_22 0), (12, ptr b_23 0), (13, ptr b_24 0), (31, .agg #[sL L_60, .int .i64 t31.wind.lo, .int .i64 t31.wind.hi, sL L_61, sL L_62]), (32, .agg #[sL l_1.1, .int .i64 t29.r0.wind.lo, .int .i64 t29.r0.wind.hi, sL l_1.2.1, sL l_1.2.2]), (34, .agg #[sL l_1.1, .int .i64 t29.r0.wind.lo, .int .i64 t29.r0.wind.hi, sL l_1.2.1, sL l_1.2.2])] [(b, .cells #[sL l_1.1, .int .i64 t29.r0.wind.lo, .int .i64 t29.r0.wind.hi, sL l_1.2.1, sL l_1.2.2] 29 (0, 0)), (l, .cells #[.slice qa0 na0 ca0, .int .i64 t29.b0_1, .int .u32 t29.b0_2] 138 (0, 0)), (b_22, .cells #[slv none 0 0, .int .i64 0, .int .i64 0, slv none 0 0, slv none 0 0] 29 (0, 0)), (b_23, .cells #[slv none 0 0, .int .i64 0, .int .i64 0, slv none 0 0, slv none 0 0] 29 (0, 0)), (b_24, .cells #[slv none 0 0, .int .i64 0, .int .i64 0, slv none 0 0, slv none 0 0] 29 (0, 0))] [vL 68 L_60 (RW.enc t31.table), vL 3 L_61 (RI.enc t31.floors), vL 51 L_62 (RS.enc t31.sills), vL 68 l_1.1 (RW.enc t29.r0.table), vL 3 l_1.2.1 (RI.enc t29.r0.floors), vL 51 l_1.2.2 (RS.enc t29.r0.sills)]) ?_ (fun h100 => ?_)
   ·intro b_22 b_23 b_24 L_60 L_61 L_62 h97 h98 h99
    refine p_one rfl ?_
    refine g_callH [] [] rfl rfl rfl rfl rfl rfl rfl (fun a w => Try.call25 a w) (fun w hh => c_laurellaw01_Own t29.r0 (qA l_1.1.q) l_1.1.n l_1.1.cap (qA l_1.2.1.q) l_1.2.1.n l_1.2.1.cap (qA l_1.2.2.q) l_1.2.2.n l_1.2.2.cap w (HV.callee (S0 := []) (vs0 := []) hh (roC (hh.vsepA (S0 := []) (vs0 := []) 3 rfl h5) (roC (hh.vsepA (S0 := []) (vs0 := []) 4 rfl h6) (roC (hh.vsepA (S0 := []) (vs0 := []) 5 rfl h7) roN)))) (vlen RW h5 rfl) (AOK.q (vne h5)) (h5).hle (vlen RI h6 rfl) (AOK.q (vne h6)) (h6).hle (vlen RS h7 rfl) (AOK.q (vne h7)) (h7).hle h21) (fun l_4 h101 => ?_)
    obtain ⟨h102, h103, h104⟩ := h101
    refine g_sel (S' := [_, _, _, _, _]) (vs' := [_, _, _, _, _, _, _, _, _]) [0, 1, 2, 3, 4] [0, 1, 2, 3, 4, 5, 6, 7, 8] 0 (by decide) (by decide) rfl rfl rfl ?_
    refine p_next (fun w hh => hh.sel [0, 1] [6, 7, 8] 0 (by decide) (by decide) rfl rfl rfl) ?_
    exact p_shr (h59 b_22 b_23 b_24 L_60 L_61 L_62 l_4.1 l_4.2.1 l_4.2.2 h97 h98 h99 h102 h103 h104) ((.cons rfl (.cons rfl (.cons rfl (.cons rfl (.cons rfl (.cons rfl (.cons rfl (.cons rfl (.cons rfl (.cons rfl .nil))))))))))) (fun w hh => hh.sel [0, 1, 2, 3, 4] [3, 4, 5, 0, 1, 2, 6, 7, 8] 0 (by decide) (by decide) rfl rfl rfl)
   refine p_share m_laurellaw01_TideHigher_Q4 (fun g => ∀ (b_25 : Nat) (b_26 : Nat) (L_63 : VL) (L_64 : VL) (L_65 : VL) (L_66 : VL) (L_67 : VL) (L_68 : VL), vk 2 L_63 (RW.enc t31.table) → vk 1 L_64 (RI.enc t31.floors) → vk 3 L_65 (RS.enc t31.sills) → vk 2 L_66 (RW.enc t33.table) → vk 1 L_67 (RI.enc t33.floors) → vk 3 L_68 (RS.enc t33.sills) → g [(1, .int .u8 which1), (2, .int .u8 much2), (3, .int .u8 when3), (10, ptr b 0), (12, ptr b_25 0), (13, ptr b_26 0), (31, .agg #[sL L_63, .int .i64 t31.wind.lo, .int .i64 t31.wind.hi, sL L_64, sL L_65]), (33, .agg #[sL L_66, .int .i64 t33.wind.lo, .int .i64 t33.wind.hi, sL L_67, sL L_68]), (34, .agg #[sL l_1.1, .int .i64 t29.r0.wind.lo, .int .i64 t29.r0.wind.hi, sL l_1.2.1, sL l_1.2.2])] [(b, .cells #[sL l_1.1, .int .i64 t29.r0.wind.lo, .int .i64 t29.r0.wind.hi, sL l_1.2.1, sL l_1.2.2] 29 (0, 0)), (l, .cells #[.slice qa0 na0 ca0, .int .i64 t29.b0_1, .int .u32 t29.b0_2] 138 (0, 0)), (b_25, .cells #[slv none 0 0, .int .i64 0, .int .i64 0, slv none 0 0, slv none 0 0] 29 (0, 0)), (b_26, .cells #[slv none 0 0, .int .i64 0, .int .i64 0, slv none 0 0, slv none 0 0] 29 (0, 0))] [vL 68 L_63 (RW.enc t31.table), vL 3 L_64 (RI.enc t31.floors), vL 51 L_65 (RS.enc t31.sills), vL 68 L_66 (RW.enc t33.table), vL 3 L_67 (RI.enc t33.floors), vL 51 L_68 (RS.enc t33.sills), vL 68 l_1.1 (RW.enc t29.r0.table), vL 3 l_1.2.1 (RI.enc t29.r0.floors), vL 51 l_1.2.2 (RS.enc t29.r0.sills)]) ?_ (fun h111 => ?_)
   ·intro b_25 b_26 L_63 L_64 L_65 L_66 L_67 L_68 h105 h106 h107 h108 h109 h110
    refine p_br ?_
    refine p_alt rfl ?_ ?_
    ·refine g_callH [] [] rfl rfl rfl rfl rfl rfl rfl (fun a w => Try.call25 a w) (fun w hh => c_laurellaw01_Own t29.r0 (qA l_1.1.q) l_1.1.n l_1.1.cap (qA l_1.2.1.q) l_1.2.1.n l_1.2.1.cap (qA l_1.2.2.q) l_1.2.2.n l_1.2.2.cap w (HV.callee (S0 := []) (vs0 := []) hh (roC (hh.vsepA (S0 := []) (vs0 := []) 6 rfl h5) (roC (hh.vsepA (S0 := []) (vs0 := []) 7 rfl h6) (roC (hh.vsepA (S0 := []) (vs0 := []) 8 rfl h7) roN)))) (vlen RW h5 rfl) (AOK.q (vne h5)) (h5).hle (vlen RI h6 rfl) (AOK.q (vne h6)) (h6).hle (vlen RS h7 rfl) (AOK.q (vne h7)) (h7).hle h22) (fun l_5 h112 => ?_)
     obtain ⟨h113, h114, h115⟩ := h112
     refine g_sel (S' := [_, _, _, _]) (vs' := [_, _, _, _, _, _, _, _, _, _, _, _]) [0, 1, 2, 3] [0, 1, 2, 3, 4, 5, 6, 7, 8, 9, 10, 11] 0 (by decide) (by decide) rfl rfl rfl ?_
     refine p_next (fun w hh => hh.sel [0, 1] [9, 10, 11] 0 (by decide) (by decide) rfl rfl rfl) ?_
     exact p_shr (h73 b_25 b_26 L_63 L_64 L_65 L_66 L_67 L_68 l_5.1 l_5.2.1 l_5.2.2 h105 h106 h107 h108 h109 h110 h113 h114 h115) ((.cons rfl (.cons rfl (.cons rfl (.cons rfl (.cons rfl (.cons rfl (.cons rfl (.cons rfl (.cons rfl .nil)))))))))) (fun w hh => hh.sel [0, 1, 2, 3] [3, 4, 5, 6, 7, 8, 0, 1, 2, 9, 10, 11] 0 (by decide) (by decide) rfl rfl rfl)
    refine p_alt rfl ?_ ?_
    ·refine g_allocV (fun w => Try.zeroValue29 w) rfl (fun b_27 h116 => ?_)
     refine p_next (fun w hh => hh.sel [1, 2] [6, 7, 8] 0 (by decide) (by decide) rfl rfl rfl) ?_
     exact p_shr (h59 b_27 b_25 b_26 L_63 L_64 L_65 L_66 L_67 L_68 h105 h106 h107 h108 h109 h110) ((.cons rfl (.cons rfl (.cons rfl (.cons rfl (.cons rfl (.cons rfl (.cons rfl (.cons rfl (.cons rfl (.cons rfl .nil))))))))))) (fun w hh => hh.sel [1, 2, 0, 3, 4] [0, 1, 2, 3, 4, 5, 6, 7, 8] 0 (by decide) (by decide) rfl rfl rfl)
    exact p_nil
   refine p_share m_laurellaw01_TideHigher_Q8 (fun g => ∀ (b_28 : Nat) (b_29 : Nat) (L_69 : VL) (L_70 : VL) (L_71 : VL) (L_72 : VL) (L_73 : VL) (L_74 : VL), vk 2 L_69 (RW.enc t31.table) → vk 1 L_70 (RI.enc t31.floors) → vk 3 L_71 (RS.enc t31.sills) → vk 2 L_72 (RW.enc t33.table) → vk 1 L_73 (RI.enc t33.floors) → vk 3 L_74 (RS.enc t33.sills) → g [(1, .int .u8 which1), (2, .int .u8 much2), (3, .int .u8 when3), (10, ptr b 0), (11, ptr b_28 0), (13, ptr b_29 0), (31, .agg #[sL L_69, .int .i64 t31.wind.lo, .int .i64 t31.wind.hi, sL L_70, sL L_71]), (33, .agg #[sL L_72, .int .i64 t33.wind.lo, .int .i64 t33.wind.hi, sL L_73, sL L_74]), (34, .agg #[sL l_1.1, .int .i64 t29.r0.wind.lo, .int .i64 t29.r0.wind.hi, sL l_1.2.1, sL l_1.2.2])] [(b, .cells #[sL l_1.1, .int .i64 t29.r0.wind.lo, .int .i64 t29.r0.wind.hi, sL l_1.2.1, sL l_1.2.2] 29 (0, 0)), (l, .cells #[.slice qa0 na0 ca0, .int .i64 t29.b0_1, .int .u32 t29.b0_2] 138 (0, 0)), (b_28, .cells #[slv none 0 0, .int .i64 0, .int .i64 0, slv none 0 0, slv none 0 0] 29 (0, 0)), (b_29, .cells #[slv none 0 0, .int .i64 0, .int .i64 0, slv none 0 0, slv none 0 0] 29 (0, 0))] [vL 68 L_69 (RW.enc t31.table), vL 3 L_70 (RI.enc t31.floors), vL 51 L_71 (RS.enc t31.sills), vL 68 L_72 (RW.enc t33.table), vL 3 L_73 (RI.enc t33.floors), vL 51 L_74 (RS.enc t33.sills), vL 68 l_1.1 (RW.enc t29.r0.table), vL 3 l_1.2.1 (RI.enc t29.r0.floors), vL 51 l_1.2.2 (RS.enc t29.r0.sills)]) ?_ (fun h123 => ?_)
   ·intro b_28 b_29 L_69 L_70 L_71 L_72 L_73 L_74 h117 h118 h119 h120 h121 h122
    refine p_br ?_
    refine p_alt rfl ?_ ?_
    ·refine g_callH [] [] rfl rfl rfl rfl rfl rfl rfl (fun a w => Try.call25 a w) (fun w hh => c_laurellaw01_Own t29.r0 (qA l_1.1.q) l_1.1.n l_1.1.cap (qA l_1.2.1.q) l_1.2.1.n l_1.2.1.cap (qA l_1.2.2.q) l_1.2.2.n l_1.2.2.cap w (HV.callee (S0 := []) (vs0 := []) hh (roC (hh.vsepA (S0 := []) (vs0 := []) 6 rfl h5) (roC (hh.vsepA (S0 := []) (vs0 := []) 7 rfl h6) (roC (hh.vsepA (S0 := []) (vs0 := []) 8 rfl h7) roN)))) (vlen RW h5 rfl) (AOK.q (vne h5)) (h5).hle (vlen RI h6 rfl) (AOK.q (vne h6)) (h6).hle (vlen RS h7 rfl) (AOK.q (vne h7)) (h7).hle h22) (fun l_6 h124 => ?_)
     obtain ⟨h125, h126, h127⟩ := h124
     refine g_sel (S' := [_, _, _, _]) (vs' := [_, _, _, _, _, _, _, _, _, _, _, _]) [0, 1, 2, 3] [0, 1, 2, 3, 4, 5, 6, 7, 8, 9, 10, 11] 0 (by decide) (by decide) rfl rfl rfl ?_
     refine p_next (fun w hh => hh.sel [0, 1] [9, 10, 11] 0 (by decide) (by decide) rfl rfl rfl) ?_
     exact p_shr (h84 b_28 b_29 L_69 L_70 L_71 L_72 L_73 L_74 l_6.1 l_6.2.1 l_6.2.2 h117 h118 h119 h120 h121 h122 h125 h126 h127) ((.cons rfl (.cons rfl (.cons rfl (.cons rfl (.cons rfl (.cons rfl (.cons rfl (.cons rfl (.cons rfl .nil)))))))))) (fun w hh => hh.sel [0, 1, 2, 3] [3, 4, 5, 6, 7, 8, 0, 1, 2, 9, 10, 11] 0 (by decide) (by decide) rfl rfl rfl)
    refine p_alt rfl ?_ ?_
    ·refine g_allocV (fun w => Try.zeroValue29 w) rfl (fun b_30 h128 => ?_)
     refine p_next (fun w hh => hh.sel [1, 2] [6, 7, 8] 0 (by decide) (by decide) rfl rfl rfl) ?_
     exact p_shr (h59 b_28 b_30 b_29 L_69 L_70 L_71 L_72 L_73 L_74 h117 h118 h119 h120 h121 h122) ((.cons rfl (.cons rfl (.cons rfl (.cons rfl (.cons rfl (.cons rfl (.cons rfl (.cons rfl (.cons rfl (.cons rfl .nil))))))))))) (fun w hh => hh.sel [1, 2, 3, 0, 4] [0, 1, 2, 3, 4, 5, 6, 7, 8] 0 (by decide) (by decide) rfl rfl rfl)
    exact p_nil
   refine p_share m_laurellaw01_TideHigher_Q16 (fun g => ∀ (b_31 : Nat) (b_32 : Nat) (L_75 : VL) (L_76 : VL) (L_77 : VL) (L_78 : VL) (L_79 : VL) (L_80 : VL), vk 2 L_75 (RW.enc t31.table) → vk 1 L_76 (RI.enc t31.floors) → vk 3 L_77 (RS.enc t31.sills) → vk 2 L_78 (RW.enc t33.table) → vk 1 L_79 (RI.enc t33.floors) → vk 3 L_80 (RS.enc t33.sills) → g [(1, .int .u8 which1), (2, .int .u8 much2), (3, .int .u8 when3), (10, ptr b 0), (11, ptr b_31 0), (12, ptr b_32 0), (31, .agg #[sL L_75, .int .i64 t31.wind.lo, .int .i64 t31.wind.hi, sL L_76, sL L_77]), (33, .agg #[sL L_78, .int .i64 t33.wind.lo, .int .i64 t33.wind.hi, sL L_79, sL L_80]), (34, .agg #[sL l_1.1, .int .i64 t29.r0.wind.lo, .int .i64 t29.r0.wind.hi, sL l_1.2.1, sL l_1.2.2])] [(b, .cells #[sL l_1.1, .int .i64 t29.r0.wind.lo, .int .i64 t29.r0.wind.hi, sL l_1.2.1, sL l_1.2.2] 29 (0, 0)), (l, .cells #[.slice qa0 na0 ca0, .int .i64 t29.b0_1, .int .u32 t29.b0_2] 138 (0, 0)), (b_31, .cells #[slv none 0 0, .int .i64 0, .int .i64 0, slv none 0 0, slv none 0 0] 29 (0, 0)), (b_32, .cells #[slv none 0 0, .int .i64 0, .int .i64 0, slv none 0 0, slv none 0 0] 29 (0, 0))] [vL 68 L_75 (RW.enc t31.table), vL 3 L_76 (RI.enc t31.floors), vL 51 L_77 (RS.enc t31.sills), vL 68 L_78 (RW.enc t33.table), vL 3 L_79 (RI.enc t33.floors), vL 51 L_80 (RS.enc t33.sills), vL 68 l_1.1 (RW.enc t29.r0.table), vL 3 l_1.2.1 (RI.enc t29.r0.floors), vL 51 l_1.2.2 (RS.enc t29.r0.sills)]) ?_ (fun h135 => ?_)
   ·intro b_31 b_32 L_75 L_76 L_77 L_78 L_79 L_80 h129 h130 h131 h132 h133 h134
    refine p_br ?_
    refine p_alt rfl ?_ ?_
    ·refine g_callH [] [] rfl rfl rfl rfl rfl rfl rfl (fun a w => Try.call25 a w) (fun w hh => c_laurellaw01_Own t29.r0 (qA l_1.1.q) l_1.1.n l_1.1.cap (qA l_1.2.1.q) l_1.2.1.n l_1.2.1.cap (qA l_1.2.2.q) l_1.2.2.n l_1.2.2.cap w (HV.callee (S0 := []) (vs0 := []) hh (roC (hh.vsepA (S0 := []) (vs0 := []) 6 rfl h5) (roC (hh.vsepA (S0 := []) (vs0 := []) 7 rfl h6) (roC (hh.vsepA (S0 := []) (vs0 := []) 8 rfl h7) roN)))) (vlen RW h5 rfl) (AOK.q (vne h5)) (h5).hle (vlen RI h6 rfl) (AOK.q (vne h6)) (h6).hle (vlen RS h7 rfl) (AOK.q (vne h7)) (h7).hle h22) (fun l_7 h136 => ?_)
     obtain ⟨h137, h138, h139⟩ := h136
     refine g_sel (S' := [_, _, _, _]) (vs' := [_, _, _, _, _, _, _, _, _, _, _, _]) [0, 1, 2, 3] [0, 1, 2, 3, 4, 5, 6, 7, 8, 9, 10, 11] 0 (by decide) (by decide) rfl rfl rfl ?_
     refine p_next (fun w hh => hh.sel [0, 1] [9, 10, 11] 0 (by decide) (by decide) rfl rfl rfl) ?_
     exact p_shr (h95 b_31 b_32 L_75 L_76 L_77 L_78 L_79 L_80 l_7.1 l_7.2.1 l_7.2.2 h129 h130 h131 h132 h133 h134 h137 h138 h139) ((.cons rfl (.cons rfl (.cons rfl (.cons rfl (.cons rfl (.cons rfl (.cons rfl (.cons rfl (.cons rfl .nil)))))))))) (fun w hh => hh.sel [0, 1, 2, 3] [3, 4, 5, 6, 7, 8, 0, 1, 2, 9, 10, 11] 0 (by decide) (by decide) rfl rfl rfl)
    refine p_alt rfl ?_ ?_
    ·refine g_allocV (fun w => Try.zeroValue29 w) rfl (fun b_33 h140 => ?_)
     refine p_next (fun w hh => hh.sel [1, 2] [6, 7, 8] 0 (by decide) (by decide) rfl rfl rfl) ?_
     exact p_shr (h59 b_31 b_32 b_33 L_75 L_76 L_77 L_78 L_79 L_80 h129 h130 h131 h132 h133 h134) ((.cons rfl (.cons rfl (.cons rfl (.cons rfl (.cons rfl (.cons rfl (.cons rfl (.cons rfl (.cons rfl (.cons rfl .nil))))))))))) (fun w hh => hh.sel [1, 2, 3, 4, 0] [0, 1, 2, 3, 4, 5, 6, 7, 8] 0 (by decide) (by decide) rfl rfl rfl)
    exact p_nil
   refine p_share m_laurellaw01_TideHigher_Q11 (fun g => ∀ (b_34 : Nat) (L_81 : VL) (L_82 : VL) (L_83 : VL) (L_84 : VL) (L_85 : VL) (L_86 : VL) (L_87 : VL) (L_88 : VL) (L_89 : VL), vk 2 L_81 (RW.enc t31.table) → vk 1 L_82 (RI.enc t31.floors) → vk 3 L_83 (RS.enc t31.sills) → vk 2 L_84 (RW.enc t33.table) → vk 1 L_85 (RI.enc t33.floors) → vk 3 L_86 (RS.enc t33.sills) → vk 2 L_87 (RW.enc t35.table) → vk 1 L_88 (RI.enc t35.floors) → vk 3 L_89 (RS.enc t35.sills) → g [(1, .int .u8 which1), (2, .int .u8 much2), (3, .int .u8 when3), (10, ptr b 0), (13, ptr b_34 0), (31, .agg #[sL L_81, .int .i64 t31.wind.lo, .int .i64 t31.wind.hi, sL L_82, sL L_83]), (33, .agg #[sL L_84, .int .i64 t33.wind.lo, .int .i64 t33.wind.hi, sL L_85, sL L_86]), (35, .agg #[sL L_87, .int .i64 t35.wind.lo, .int .i64 t35.wind.hi, sL L_88, sL L_89])] [(b, .cells #[sL l_1.1, .int .i64 t29.r0.wind.lo, .int .i64 t29.r0.wind.hi, sL l_1.2.1, sL l_1.2.2] 29 (0, 0)), (l, .cells #[.slice qa0 na0 ca0, .int .i64 t29.b0_1, .int .u32 t29.b0_2] 138 (0, 0)), (b_34, .cells #[slv none 0 0, .int .i64 0, .int .i64 0, slv none 0 0, slv none 0 0] 29 (0, 0))] [vL 68 L_81 (RW.enc t31.table), vL 3 L_82 (RI.enc t31.floors), vL 51 L_83 (RS.enc t31.sills), vL 68 L_84 (RW.enc t33.table), vL 3 L_85 (RI.enc t33.floors), vL 51 L_86 (RS.enc t33.sills), vL 68 L_87 (RW.enc t35.table), vL 3 L_88 (RI.enc t35.floors), vL 51 L_89 (RS.enc t35.sills), vL 68 l_1.1 (RW.enc t29.r0.table), vL 3 l_1.2.1 (RI.enc t29.r0.floors), vL 51 l_1.2.2 (RS.enc t29.r0.sills)]) ?_ (fun h150 => ?_)
   ·intro b_34 L_81 L_82 L_83 L_84 L_85 L_86 L_87 L_88 L_89 h141 h142 h143 h144 h145 h146 h147 h148 h149
    refine p_br ?_
    refine p_alt rfl ?_ ?_
    ·refine g_allocV (fun w => Try.zeroValue29 w) rfl (fun b_35 h151 => ?_)
     refine p_next (fun w hh => hh.sel [1, 2] [9, 10, 11] 0 (by decide) (by decide) rfl rfl rfl) ?_
     exact p_shr (h84 b_35 b_34 L_81 L_82 L_83 L_84 L_85 L_86 L_87 L_88 L_89 h141 h142 h143 h144 h145 h146 h147 h148 h149) ((.cons rfl (.cons rfl (.cons rfl (.cons rfl (.cons rfl (.cons rfl (.cons rfl (.cons rfl (.cons rfl .nil)))))))))) (fun w hh => hh.sel [1, 2, 0, 3] [0, 1, 2, 3, 4, 5, 6, 7, 8, 9, 10, 11] 0 (by decide) (by decide) rfl rfl rfl)
    refine p_alt rfl ?_ ?_
    ·refine g_allocV (fun w => Try.zeroValue29 w) rfl (fun b_36 h152 => ?_)
     refine p_next (fun w hh => hh.sel [1, 2] [9, 10, 11] 0 (by decide) (by decide) rfl rfl rfl) ?_
     exact p_shr (h73 b_36 b_34 L_81 L_82 L_83 L_84 L_85 L_86 L_87 L_88 L_89 h141 h142 h143 h144 h145 h146 h147 h148 h149) ((.cons rfl (.cons rfl (.cons rfl (.cons rfl (.cons rfl (.cons rfl (.cons rfl (.cons rfl (.cons rfl .nil)))))))))) (fun w hh => hh.sel [1, 2, 0, 3] [0, 1, 2, 3, 4, 5, 6, 7, 8, 9, 10, 11] 0 (by decide) (by decide) rfl rfl rfl)
    exact p_nil
   refine p_share m_laurellaw01_TideHigher_Q19 (fun g => ∀ (b_37 : Nat) (L_90 : VL) (L_91 : VL) (L_92 : VL) (L_93 : VL) (L_94 : VL) (L_95 : VL) (L_96 : VL) (L_97 : VL) (L_98 : VL), vk 2 L_90 (RW.enc t31.table) → vk 1 L_91 (RI.enc t31.floors) → vk 3 L_92 (RS.enc t31.sills) → vk 2 L_93 (RW.enc t33.table) → vk 1 L_94 (RI.enc t33.floors) → vk 3 L_95 (RS.enc t33.sills) → vk 2 L_96 (RW.enc t35.table) → vk 1 L_97 (RI.enc t35.floors) → vk 3 L_98 (RS.enc t35.sills) → g [(1, .int .u8 which1), (2, .int .u8 much2), (3, .int .u8 when3), (10, ptr b 0), (12, ptr b_37 0), (31, .agg #[sL L_90, .int .i64 t31.wind.lo, .int .i64 t31.wind.hi, sL L_91, sL L_92]), (33, .agg #[sL L_93, .int .i64 t33.wind.lo, .int .i64 t33.wind.hi, sL L_94, sL L_95]), (35, .agg #[sL L_96, .int .i64 t35.wind.lo, .int .i64 t35.wind.hi, sL L_97, sL L_98])] [(b, .cells #[sL l_1.1, .int .i64 t29.r0.wind.lo, .int .i64 t29.r0.wind.hi, sL l_1.2.1, sL l_1.2.2] 29 (0, 0)), (l, .cells #[.slice qa0 na0 ca0, .int .i64 t29.b0_1, .int .u32 t29.b0_2] 138 (0, 0)), (b_37, .cells #[slv none 0 0, .int .i64 0, .int .i64 0, slv none 0 0, slv none 0 0] 29 (0, 0))] [vL 68 L_90 (RW.enc t31.table), vL 3 L_91 (RI.enc t31.floors), vL 51 L_92 (RS.enc t31.sills), vL 68 L_93 (RW.enc t33.table), vL 3 L_94 (RI.enc t33.floors), vL 51 L_95 (RS.enc t33.sills), vL 68 L_96 (RW.enc t35.table), vL 3 L_97 (RI.enc t35.floors), vL 51 L_98 (RS.enc t35.sills), vL 68 l_1.1 (RW.enc t29.r0.table), vL 3 l_1.2.1 (RI.enc t29.r0.floors), vL 51 l_1.2.2 (RS.enc t29.r0.sills)]) ?_ (fun h162 => ?_)
   ·intro b_37 L_90 L_91 L_92 L_93 L_94 L_95 L_96 L_97 L_98 h153 h154 h155 h156 h157 h158 h159 h160 h161
    refine p_br ?_
    refine p_alt rfl ?_ ?_
    ·refine g_allocV (fun w => Try.zeroValue29 w) rfl (fun b_38 h163 => ?_)
     refine p_next (fun w hh => hh.sel [1, 2] [9, 10, 11] 0 (by decide) (by decide) rfl rfl rfl) ?_
     exact p_shr (h95 b_38 b_37 L_90 L_91 L_92 L_93 L_94 L_95 L_96 L_97 L_98 h153 h154 h155 h156 h157 h158 h159 h160 h161) ((.cons rfl (.cons rfl (.cons rfl (.cons rfl (.cons rfl (.cons rfl (.cons rfl (.cons rfl (.cons rfl .nil)))))))))) (fun w hh => hh.sel [1, 2, 0, 3] [0, 1, 2, 3, 4, 5, 6, 7, 8, 9, 10, 11] 0 (by decide) (by decide) rfl rfl rfl)
    refine p_alt rfl ?_ ?_
    ·refine g_allocV (fun w => Try.zeroValue29 w) rfl (fun b_39 h164 => ?_)
     refine p_next (fun w hh => hh.sel [1, 2] [9, 10, 11] 0 (by decide) (by decide) rfl rfl rfl) ?_
     exact p_shr (h73 b_37 b_39 L_90 L_91 L_92 L_93 L_94 L_95 L_96 L_97 L_98 h153 h154 h155 h156 h157 h158 h159 h160 h161) ((.cons rfl (.cons rfl (.cons rfl (.cons rfl (.cons rfl (.cons rfl (.cons rfl (.cons rfl (.cons rfl .nil)))))))))) (fun w hh => hh.sel [1, 2, 3, 0] [0, 1, 2, 3, 4, 5, 6, 7, 8, 9, 10, 11] 0 (by decide) (by decide) rfl rfl rfl)
    exact p_nil
   refine p_share m_laurellaw01_TideHigher_Q23 (fun g => ∀ (b_40 : Nat) (L_99 : VL) (L_100 : VL) (L_101 : VL) (L_102 : VL) (L_103 : VL) (L_104 : VL) (L_105 : VL) (L_106 : VL) (L_107 : VL), vk 2 L_99 (RW.enc t31.table) → vk 1 L_100 (RI.enc t31.floors) → vk 3 L_101 (RS.enc t31.sills) → vk 2 L_102 (RW.enc t33.table) → vk 1 L_103 (RI.enc t33.floors) → vk 3 L_104 (RS.enc t33.sills) → vk 2 L_105 (RW.enc t35.table) → vk 1 L_106 (RI.enc t35.floors) → vk 3 L_107 (RS.enc t35.sills) → g [(1, .int .u8 which1), (2, .int .u8 much2), (3, .int .u8 when3), (10, ptr b 0), (11, ptr b_40 0), (31, .agg #[sL L_99, .int .i64 t31.wind.lo, .int .i64 t31.wind.hi, sL L_100, sL L_101]), (33, .agg #[sL L_102, .int .i64 t33.wind.lo, .int .i64 t33.wind.hi, sL L_103, sL L_104]), (35, .agg #[sL L_105, .int .i64 t35.wind.lo, .int .i64 t35.wind.hi, sL L_106, sL L_107])] [(b, .cells #[sL l_1.1, .int .i64 t29.r0.wind.lo, .int .i64 t29.r0.wind.hi, sL l_1.2.1, sL l_1.2.2] 29 (0, 0)), (l, .cells #[.slice qa0 na0 ca0, .int .i64 t29.b0_1, .int .u32 t29.b0_2] 138 (0, 0)), (b_40, .cells #[slv none 0 0, .int .i64 0, .int .i64 0, slv none 0 0, slv none 0 0] 29 (0, 0))] [vL 68 L_99 (RW.enc t31.table), vL 3 L_100 (RI.enc t31.floors), vL 51 L_101 (RS.enc t31.sills), vL 68 L_102 (RW.enc t33.table), vL 3 L_103 (RI.enc t33.floors), vL 51 L_104 (RS.enc t33.sills), vL 68 L_105 (RW.enc t35.table), vL 3 L_106 (RI.enc t35.floors), vL 51 L_107 (RS.enc t35.sills), vL 68 l_1.1 (RW.enc t29.r0.table), vL 3 l_1.2.1 (RI.enc t29.r0.floors), vL 51 l_1.2.2 (RS.enc t29.r0.sills)]) ?_ (fun h174 => ?_)
   ·intro b_40 L_99 L_100 L_101 L_102 L_103 L_104 L_105 L_106 L_107 h165 h166 h167 h168 h169 h170 h171 h172 h173
    refine p_br ?_
    refine p_alt rfl ?_ ?_
    ·refine g_allocV (fun w => Try.zeroValue29 w) rfl (fun b_41 h175 => ?_)
     refine p_next (fun w hh => hh.sel [1, 2] [9, 10, 11] 0 (by decide) (by decide) rfl rfl rfl) ?_
     exact p_shr (h95 b_40 b_41 L_99 L_100 L_101 L_102 L_103 L_104 L_105 L_106 L_107 h165 h166 h167 h168 h169 h170 h171 h172 h173) ((.cons rfl (.cons rfl (.cons rfl (.cons rfl (.cons rfl (.cons rfl (.cons rfl (.cons rfl (.cons rfl .nil)))))))))) (fun w hh => hh.sel [1, 2, 3, 0] [0, 1, 2, 3, 4, 5, 6, 7, 8, 9, 10, 11] 0 (by decide) (by decide) rfl rfl rfl)
    refine p_alt rfl ?_ ?_
    ·refine g_allocV (fun w => Try.zeroValue29 w) rfl (fun b_42 h176 => ?_)
     refine p_next (fun w hh => hh.sel [1, 2] [9, 10, 11] 0 (by decide) (by decide) rfl rfl rfl) ?_
     exact p_shr (h84 b_40 b_42 L_99 L_100 L_101 L_102 L_103 L_104 L_105 L_106 L_107 h165 h166 h167 h168 h169 h170 h171 h172 h173) ((.cons rfl (.cons rfl (.cons rfl (.cons rfl (.cons rfl (.cons rfl (.cons rfl (.cons rfl (.cons rfl .nil)))))))))) (fun w hh => hh.sel [1, 2, 3, 0] [0, 1, 2, 3, 4, 5, 6, 7, 8, 9, 10, 11] 0 (by decide) (by decide) rfl rfl rfl)
    exact p_nil
   refine p_share m_laurellaw01_TideHigher_Q0 (fun g => ∀ (b_43 : Nat) (b_44 : Nat) (b_45 : Nat), g [(1, .int .u8 which1), (2, .int .u8 much2), (3, .int .u8 when3), (10, ptr b 0), (11, ptr b_43 0), (12, ptr b_44 0), (13, ptr b_45 0), (30, .agg #[sL l_1.1, .int .i64 t29.r0.wind.lo, .int .i64 t29.r0.wind.hi, sL l_1.2.1, sL l_1.2.2]), (32, .agg #[sL l_1.1, .int .i64 t29.r0.wind.lo, .int .i64 t29.r0.wind.hi, sL l_1.2.1, sL l_1.2.2]), (34, .agg #[sL l_1.1, .int .i64 t29.r0.wind.lo, .int .i64 t29.r0.wind.hi, sL l_1.2.1, sL l_1.2.2])] [(b, .cells #[sL l_1.1, .int .i64 t29.r0.wind.lo, .int .i64 t29.r0.wind.hi, sL l_1.2.1, sL l_1.2.2] 29 (0, 0)), (l, .cells #[.slice qa0 na0 ca0, .int .i64 t29.b0_1, .int .u32 t29.b0_2] 138 (0, 0)), (b_43, .cells #[slv none 0 0, .int .i64 0, .int .i64 0, slv none 0 0, slv none 0 0] 29 (0, 0)), (b_44, .cells #[slv none 0 0, .int .i64 0, .int .i64 0, slv none 0 0, slv none 0 0] 29 (0, 0)), (b_45, .cells #[slv none 0 0, .int .i64 0, .int .i64 0, slv none 0 0, slv none 0 0] 29 (0, 0))] [vL 68 l_1.1 (RW.enc t29.r0.table), vL 3 l_1.2.1 (RI.enc t29.r0.floors), vL 51 l_1.2.2 (RS.enc t29.r0.sills)]) ?_ (fun h177 => ?_)
   ·intro b_43 b_44 b_45
    refine p_one rfl ?_
    refine g_callH [] [] rfl rfl rfl rfl rfl rfl rfl (fun a w => Try.call25 a w) (fun w hh => c_laurellaw01_Own t29.r0 (qA l_1.1.q) l_1.1.n l_1.1.cap (qA l_1.2.1.q) l_1.2.1.n l_1.2.1.cap (qA l_1.2.2.q) l_1.2.2.n l_1.2.2.cap w (HV.callee (S0 := []) (vs0 := []) hh (roC (hh.vsepA (S0 := []) (vs0 := []) 0 rfl h5) (roC (hh.vsepA (S0 := []) (vs0 := []) 1 rfl h6) (roC (hh.vsepA (S0 := []) (vs0 := []) 2 rfl h7) roN)))) (vlen RW h5 rfl) (AOK.q (vne h5)) (h5).hle (vlen RI h6 rfl) (AOK.q (vne h6)) (h6).hle (vlen RS h7 rfl) (AOK.q (vne h7)) (h7).hle h20) (fun l_8 h178 => ?_)
    obtain ⟨h179, h180, h181⟩ := h178
    refine g_sel (S' := [_, _, _, _, _]) (vs' := [_, _, _, _, _, _]) [0, 1, 2, 3, 4] [0, 1, 2, 3, 4, 5] 0 (by decide) (by decide) rfl rfl rfl ?_
    refine p_next (fun w hh => hh.sel [0, 1] [3, 4, 5] 0 (by decide) (by decide) rfl rfl rfl) ?_
    exact p_shr (h100 b_43 b_44 b_45 l_8.1 l_8.2.1 l_8.2.2 h179 h180 h181) ((.cons rfl (.cons rfl (.cons rfl (.cons rfl (.cons rfl (.cons rfl (.cons rfl (.cons rfl (.cons rfl (.cons rfl .nil))))))))))) (fun w hh => hh)
   refine p_share m_laurellaw01_TideHigher_Q5 (fun g => ∀ (b_46 : Nat) (b_47 : Nat) (L_108 : VL) (L_109 : VL) (L_110 : VL), vk 2 L_108 (RW.enc t31.table) → vk 1 L_109 (RI.enc t31.floors) → vk 3 L_110 (RS.enc t31.sills) → g [(1, .int .u8 which1), (2, .int .u8 much2), (3, .int .u8 when3), (10, ptr b 0), (12, ptr b_46 0), (13, ptr b_47 0), (31, .agg #[sL L_108, .int .i64 t31.wind.lo, .int .i64 t31.wind.hi, sL L_109, sL L_110]), (32, .agg #[sL l_1.1, .int .i64 t29.r0.wind.lo, .int .i64 t29.r0.wind.hi, sL l_1.2.1, sL l_1.2.2]), (34, .agg #[sL l_1.1, .int .i64 t29.r0.wind.lo, .int .i64 t29.r0.wind.hi, sL l_1.2.1, sL l_1.2.2])] [(b, .cells #[sL l_1.1, .int .i64 t29.r0.wind.lo, .int .i64 t29.r0.wind.hi, sL l_1.2.1, sL l_1.2.2] 29 (0, 0)), (l, .cells #[.slice qa0 na0 ca0, .int .i64 t29.b0_1, .int .u32 t29.b0_2] 138 (0, 0)), (b_46, .cells #[slv none 0 0, .int .i64 0, .int .i64 0, slv none 0 0, slv none 0 0] 29 (0, 0)), (b_47, .cells #[slv none 0 0, .int .i64 0, .int .i64 0, slv none 0 0, slv none 0 0] 29 (0, 0))] [vL 68 L_108 (RW.enc t31.table), vL 3 L_109 (RI.enc t31.floors), vL 51 L_110 (RS.enc t31.sills), vL 68 l_1.1 (RW.enc t29.r0.table), vL 3 l_1.2.1 (RI.enc t29.r0.floors), vL 51 l_1.2.2 (RS.enc t29.r0.sills)]) ?_ (fun h185 => ?_)
   ·intro b_46 b_47 L_108 L_109 L_110 h182 h183 h184
    refine p_br ?_
    refine p_alt rfl ?_ ?_
    ·refine g_callH [] [] rfl rfl rfl rfl rfl rfl rfl (fun a w => Try.call25 a w) (fun w hh => c_laurellaw01_Own t29.r0 (qA l_1.1.q) l_1.1.n l_1.1.cap (qA l_1.2.1.q) l_1.2.1.n l_1.2.1.cap (qA l_1.2.2.q) l_1.2.2.n l_1.2.2.cap w (HV.callee (S0 := []) (vs0 := []) hh (roC (hh.vsepA (S0 := []) (vs0 := []) 3 rfl h5) (roC (hh.vsepA (S0 := []) (vs0 := []) 4 rfl h6) (roC (hh.vsepA (S0 := []) (vs0 := []) 5 rfl h7) roN)))) (vlen RW h5 rfl) (AOK.q (vne h5)) (h5).hle (vlen RI h6 rfl) (AOK.q (vne h6)) (h6).hle (vlen RS h7 rfl) (AOK.q (vne h7)) (h7).hle h21) (fun l_9 h186 => ?_)
     obtain ⟨h187, h188, h189⟩ := h186
     refine g_sel (S' := [_, _, _, _]) (vs' := [_, _, _, _, _, _, _, _, _]) [0, 1, 2, 3] [0, 1, 2, 3, 4, 5, 6, 7, 8] 0 (by decide) (by decide) rfl rfl rfl ?_
     refine p_next (fun w hh => hh.sel [0, 1] [6, 7, 8] 0 (by decide) (by decide) rfl rfl rfl) ?_
     exact p_shr (h111 b_46 b_47 L_108 L_109 L_110 l_9.1 l_9.2.1 l_9.2.2 h182 h183 h184 h187 h188 h189) ((.cons rfl (.cons rfl (.cons rfl (.cons rfl (.cons rfl (.cons rfl (.cons rfl (.cons rfl (.cons rfl .nil)))))))))) (fun w hh => hh.sel [0, 1, 2, 3] [3, 4, 5, 0, 1, 2, 6, 7, 8] 0 (by decide) (by decide) rfl rfl rfl)
    refine p_alt rfl ?_ ?_
    ·refine g_allocV (fun w => Try.zeroValue29 w) rfl (fun b_48 h190 => ?_)
     refine p_next (fun w hh => hh.sel [1, 2] [3, 4, 5] 0 (by decide) (by decide) rfl rfl rfl) ?_
     exact p_shr (h100 b_48 b_46 b_47 L_108 L_109 L_110 h182 h183 h184) ((.cons rfl (.cons rfl (.cons rfl (.cons rfl (.cons rfl (.cons rfl (.cons rfl (.cons rfl (.cons rfl (.cons rfl .nil))))))))))) (fun w hh => hh.sel [1, 2, 0, 3, 4] [0, 1, 2, 3, 4, 5] 0 (by decide) (by decide) rfl rfl rfl)
    exact p_nil
   refine p_share m_laurellaw01_TideHigher_Q9 (fun g => ∀ (b_49 : Nat) (b_50 : Nat) (L_111 : VL) (L_112 : VL) (L_113 : VL), vk 2 L_111 (RW.enc t31.table) → vk 1 L_112 (RI.enc t31.floors) → vk 3 L_113 (RS.enc t31.sills) → g [(1, .int .u8 which1), (2, .int .u8 much2), (3, .int .u8 when3), (10, ptr b 0), (11, ptr b_49 0), (13, ptr b_50 0), (31, .agg #[sL L_111, .int .i64 t31.wind.lo, .int .i64 t31.wind.hi, sL L_112, sL L_113]), (32, .agg #[sL l_1.1, .int .i64 t29.r0.wind.lo, .int .i64 t29.r0.wind.hi, sL l_1.2.1, sL l_1.2.2]), (34, .agg #[sL l_1.1, .int .i64 t29.r0.wind.lo, .int .i64 t29.r0.wind.hi, sL l_1.2.1, sL l_1.2.2])] [(b, .cells #[sL l_1.1, .int .i64 t29.r0.wind.lo, .int .i64 t29.r0.wind.hi, sL l_1.2.1, sL l_1.2.2] 29 (0, 0)), (l, .cells #[.slice qa0 na0 ca0, .int .i64 t29.b0_1, .int .u32 t29.b0_2] 138 (0, 0)), (b_49, .cells #[slv none 0 0, .int .i64 0, .int .i64 0, slv none 0 0, slv none 0 0] 29 (0, 0)), (b_50, .cells #[slv none 0 0, .int .i64 0, .int .i64 0, slv none 0 0, slv none 0 0] 29 (0, 0))] [vL 68 L_111 (RW.enc t31.table), vL 3 L_112 (RI.enc t31.floors), vL 51 L_113 (RS.enc t31.sills), vL 68 l_1.1 (RW.enc t29.r0.table), vL 3 l_1.2.1 (RI.enc t29.r0.floors), vL 51 l_1.2.2 (RS.enc t29.r0.sills)]) ?_ (fun h194 => ?_)
   ·intro b_49 b_50 L_111 L_112 L_113 h191 h192 h193
    refine p_br ?_
    refine p_alt rfl ?_ ?_
    ·refine g_callH [] [] rfl rfl rfl rfl rfl rfl rfl (fun a w => Try.call25 a w) (fun w hh => c_laurellaw01_Own t29.r0 (qA l_1.1.q) l_1.1.n l_1.1.cap (qA l_1.2.1.q) l_1.2.1.n l_1.2.1.cap (qA l_1.2.2.q) l_1.2.2.n l_1.2.2.cap w (HV.callee (S0 := []) (vs0 := []) hh (roC (hh.vsepA (S0 := []) (vs0 := []) 3 rfl h5) (roC (hh.vsepA (S0 := []) (vs0 := []) 4 rfl h6) (roC (hh.vsepA (S0 := []) (vs0 := []) 5 rfl h7) roN)))) (vlen RW h5 rfl) (AOK.q (vne h5)) (h5).hle (vlen RI h6 rfl) (AOK.q (vne h6)) (h6).hle (vlen RS h7 rfl) (AOK.q (vne h7)) (h7).hle h21) (fun l_10 h195 => ?_)
     obtain ⟨h196, h197, h198⟩ := h195
     refine g_sel (S' := [_, _, _, _]) (vs' := [_, _, _, _, _, _, _, _, _]) [0, 1, 2, 3] [0, 1, 2, 3, 4, 5, 6, 7, 8] 0 (by decide) (by decide) rfl rfl rfl ?_
     refine p_next (fun w hh => hh.sel [0, 1] [6, 7, 8] 0 (by decide) (by decide) rfl rfl rfl) ?_
     exact p_shr (h123 b_49 b_50 L_111 L_112 L_113 l_10.1 l_10.2.1 l_10.2.2 h191 h192 h193 h196 h197 h198) ((.cons rfl (.cons rfl (.cons rfl (.cons rfl (.cons rfl (.cons rfl (.cons rfl (.cons rfl (.cons rfl .nil)))))))))) (fun w hh => hh.sel [0, 1, 2, 3] [3, 4, 5, 0, 1, 2, 6, 7, 8] 0 (by decide) (by decide) rfl rfl rfl)
    refine p_alt rfl ?_ ?_
    ·refine g_allocV (fun w => Try.zeroValue29 w) rfl (fun b_51 h199 => ?_)
     refine p_next (fun w hh => hh.sel [1, 2] [3, 4, 5] 0 (by decide) (by decide) rfl rfl rfl) ?_
     exact p_shr (h100 b_49 b_51 b_50 L_111 L_112 L_113 h191 h192 h193) ((.cons rfl (.cons rfl (.cons rfl (.cons rfl (.cons rfl (.cons rfl (.cons rfl (.cons rfl (.cons rfl (.cons rfl .nil))))))))))) (fun w hh => hh.sel [1, 2, 3, 0, 4] [0, 1, 2, 3, 4, 5] 0 (by decide) (by decide) rfl rfl rfl)
    exact p_nil
   refine p_share m_laurellaw01_TideHigher_Q17 (fun g => ∀ (b_52 : Nat) (b_53 : Nat) (L_114 : VL) (L_115 : VL) (L_116 : VL), vk 2 L_114 (RW.enc t31.table) → vk 1 L_115 (RI.enc t31.floors) → vk 3 L_116 (RS.enc t31.sills) → g [(1, .int .u8 which1), (2, .int .u8 much2), (3, .int .u8 when3), (10, ptr b 0), (11, ptr b_52 0), (12, ptr b_53 0), (31, .agg #[sL L_114, .int .i64 t31.wind.lo, .int .i64 t31.wind.hi, sL L_115, sL L_116]), (32, .agg #[sL l_1.1, .int .i64 t29.r0.wind.lo, .int .i64 t29.r0.wind.hi, sL l_1.2.1, sL l_1.2.2]), (34, .agg #[sL l_1.1, .int .i64 t29.r0.wind.lo, .int .i64 t29.r0.wind.hi, sL l_1.2.1, sL l_1.2.2])] [(b, .cells #[sL l_1.1, .int .i64 t29.r0.wind.lo, .int .i64 t29.r0.wind.hi, sL l_1.2.1, sL l_1.2.2] 29 (0, 0)), (l, .cells #[.slice qa0 na0 ca0, .int .i64 t29.b0_1, .int .u32 t29.b0_2] 138 (0, 0)), (b_52, .cells #[slv none 0 0, .int .i64 0, .int .i64 0, slv none 0 0, slv none 0 0] 29 (0, 0)), (b_53, .cells #[slv none 0 0, .int .i64 0, .int .i64 0, slv none 0 0, slv none 0 0] 29 (0, 0))] [vL 68 L_114 (RW.enc t31.table), vL 3 L_115 (RI.enc t31.floors), vL 51 L_116 (RS.enc t31.sills), vL 68 l_1.1 (RW.enc t29.r0.table), vL 3 l_1.2.1 (RI.enc t29.r0.floors), vL 51 l_1.2.2 (RS.enc t29.r0.sills)]) ?_ (fun h203 => ?_)
   ·intro b_52 b_53 L_114 L_115 L_116 h200 h201 h202
    refine p_br ?_
    refine p_alt rfl ?_ ?_
    ·refine g_callH [] [] rfl rfl rfl rfl rfl rfl rfl (fun a w => Try.call25 a w) (fun w hh => c_laurellaw01_Own t29.r0 (qA l_1.1.q) l_1.1.n l_1.1.cap (qA l_1.2.1.q) l_1.2.1.n l_1.2.1.cap (qA l_1.2.2.q) l_1.2.2.n l_1.2.2.cap w (HV.callee (S0 := []) (vs0 := []) hh (roC (hh.vsepA (S0 := []) (vs0 := []) 3 rfl h5) (roC (hh.vsepA (S0 := []) (vs0 := []) 4 rfl h6) (roC (hh.vsepA (S0 := []) (vs0 := []) 5 rfl h7) roN)))) (vlen RW h5 rfl) (AOK.q (vne h5)) (h5).hle (vlen RI h6 rfl) (AOK.q (vne h6)) (h6).hle (vlen RS h7 rfl) (AOK.q (vne h7)) (h7).hle h21) (fun l_11 h204 => ?_)
     obtain ⟨h205, h206, h207⟩ := h204
     refine g_sel (S' := [_, _, _, _]) (vs' := [_, _, _, _, _, _, _, _, _]) [0, 1, 2, 3] [0, 1, 2, 3, 4, 5, 6, 7, 8] 0 (by decide) (by decide) rfl rfl rfl ?_
     refine p_next (fun w hh => hh.sel [0, 1] [6, 7, 8] 0 (by decide) (by decide) rfl rfl rfl) ?_
     exact p_shr (h135 b_52 b_53 L_114 L_115 L_116 l_11.1 l_11.2.1 l_11.2.2 h200 h201 h202 h205 h206 h207) ((.cons rfl (.cons rfl (.cons rfl (.cons rfl (.cons rfl (.cons rfl (.cons rfl (.cons rfl (.cons rfl .nil)))))))))) (fun w hh => hh.sel [0, 1, 2, 3] [3, 4, 5, 0, 1, 2, 6, 7, 8] 0 (by decide) (by decide) rfl rfl rfl)
    refine p_alt rfl ?_ ?_
    ·refine g_allocV (fun w => Try.zeroValue29 w) rfl (fun b_54 h208 => ?_)
     refine p_next (fun w hh => hh.sel [1, 2] [3, 4, 5] 0 (by decide) (by decide) rfl rfl rfl) ?_
     exact p_shr (h100 b_52 b_53 b_54 L_114 L_115 L_116 h200 h201 h202) ((.cons rfl (.cons rfl (.cons rfl (.cons rfl (.cons rfl (.cons rfl (.cons rfl (.cons rfl (.cons rfl (.cons rfl .nil))))))))))) (fun w hh => hh.sel [1, 2, 3, 4, 0] [0, 1, 2, 3, 4, 5] 0 (by decide) (by decide) rfl rfl rfl)
    exact p_nil
   refine p_share m_laurellaw01_TideHigher_Q12 (fun g => ∀ (b_55 : Nat) (L_117 : VL) (L_118 : VL) (L_119 : VL) (L_120 : VL) (L_121 : VL) (L_122 : VL), vk 2 L_117 (RW.enc t31.table) → vk 1 L_118 (RI.enc t31.floors) → vk 3 L_119 (RS.enc t31.sills) → vk 2 L_120 (RW.enc t33.table) → vk 1 L_121 (RI.enc t33.floors) → vk 3 L_122 (RS.enc t33.sills) → g [(1, .int .u8 which1), (2, .int .u8 much2), (3, .int .u8 when3), (10, ptr b 0), (13, ptr b_55 0), (31, .agg #[sL L_117, .int .i64 t31.wind.lo, .int .i64 t31.wind.hi, sL L_118, sL L_119]), (33, .agg #[sL L_120, .int .i64 t33.wind.lo, .int .i64 t33.wind.hi, sL L_121, sL L_122]), (34, .agg #[sL l_1.1, .int .i64 t29.r0.wind.lo, .int .i64 t29.r0.wind.hi, sL l_1.2.1, sL l_1.2.2])] [(b, .cells #[sL l_1.1, .int .i64 t29.r0.wind.lo, .int .i64 t29.r0.wind.hi, sL l_1.2.1, sL l_1.2.2] 29 (0, 0)), (l, .cells #[.slice qa0 na0 ca0, .int .i64 t29.b0_1, .int .u32 t29.b0_2] 138 (0, 0)), (b_55, .cells #[slv none 0 0, .int .i64 0, .int .i64 0, slv none 0 0, slv none 0 0] 29 (0, 0))] [vL 68 L_117 (RW.enc t31.table), vL 3 L_118 (RI.enc t31.floors), vL 51 L_119 (RS.enc t31.sills), vL 68 L_120 (RW.enc t33.table), vL 3 L_121 (RI.enc t33.floors), vL 51 L_122 (RS.enc t33.sills), vL 68 l_1.1 (RW.enc t29.r0.table), vL 3 l_1.2.1 (RI.enc t29.r0.floors), vL 51 l_1.2.2 (RS.enc t29.r0.sills)]) ?_ (fun h215 => ?_)
   ·intro b_55 L_117 L_118 L_119 L_120 L_121 L_122 h209 h210 h211 h212 h213 h214
    refine p_br ?_
    refine p_alt rfl ?_ ?_
    ·refine g_callH [] [] rfl rfl rfl rfl rfl rfl rfl (fun a w => Try.call25 a w) (fun w hh => c_laurellaw01_Own t29.r0 (qA l_1.1.q) l_1.1.n l_1.1.cap (qA l_1.2.1.q) l_1.2.1.n l_1.2.1.cap (qA l_1.2.2.q) l_1.2.2.n l_1.2.2.cap w (HV.callee (S0 := []) (vs0 := []) hh (roC (hh.vsepA (S0 := []) (vs0 := []) 6 rfl h5) (roC (hh.vsepA (S0 := []) (vs0 := []) 7 rfl h6) (roC (hh.vsepA (S0 := []) (vs0 := []) 8 rfl h7) roN)))) (vlen RW h5 rfl) (AOK.q (vne h5)) (h5).hle (vlen RI h6 rfl) (AOK.q (vne h6)) (h6).hle (vlen RS h7 rfl) (AOK.q (vne h7)) (h7).hle h22) (fun l_12 h216 => ?_)
     obtain ⟨h217, h218, h219⟩ := h216
     refine g_sel (S' := [_, _, _]) (vs' := [_, _, _, _, _, _, _, _, _, _, _, _]) [0, 1, 2] [0, 1, 2, 3, 4, 5, 6, 7, 8, 9, 10, 11] 0 (by decide) (by decide) rfl rfl rfl ?_
     refine p_next (fun w hh => hh.sel [0, 1] [9, 10, 11] 0 (by decide) (by decide) rfl rfl rfl) ?_
     exact p_shr (h150 b_55 L_117 L_118 L_119 L_120 L_121 L_122 l_12.1 l_12.2.1 l_12.2.2 h209 h210 h211 h212 h213 h214 h217 h218 h219) ((.cons rfl (.cons rfl (.cons rfl (.cons rfl (.cons rfl (.cons rfl (.cons rfl (.cons rfl .nil))))))))) (fun w hh => hh.sel [0, 1, 2] [3, 4, 5, 6, 7, 8, 0, 1, 2, 9, 10, 11] 0 (by decide) (by decide) rfl rfl rfl)
    refine p_alt rfl ?_ ?_
    ·refine g_allocV (fun w => Try.zeroValue29 w) rfl (fun b_56 h220 => ?_)
     refine p_next (fun w hh => hh.sel [1, 2] [6, 7, 8] 0 (by decide) (by decide) rfl rfl rfl) ?_
     exact p_shr (h123 b_56 b_55 L_117 L_118 L_119 L_120 L_121 L_122 h209 h210 h211 h212 h213 h214) ((.cons rfl (.cons rfl (.cons rfl (.cons rfl (.cons rfl (.cons rfl (.cons rfl (.cons rfl (.cons rfl .nil)))))))))) (fun w hh => hh.sel [1, 2, 0, 3] [0, 1, 2, 3, 4, 5, 6, 7, 8] 0 (by decide) (by decide) rfl rfl rfl)
    refine p_alt rfl ?_ ?_
    ·refine g_allocV (fun w => Try.zeroValue29 w) rfl (fun b_57 h221 => ?_)
     refine p_next (fun w hh => hh.sel [1, 2] [6, 7, 8] 0 (by decide) (by decide) rfl rfl rfl) ?_
     exact p_shr (h111 b_57 b_55 L_117 L_118 L_119 L_120 L_121 L_122 h209 h210 h211 h212 h213 h214) ((.cons rfl (.cons rfl (.cons rfl (.cons rfl (.cons rfl (.cons rfl (.cons rfl (.cons rfl (.cons rfl .nil)))))))))) (fun w hh => hh.sel [1, 2, 0, 3] [0, 1, 2, 3, 4, 5, 6, 7, 8] 0 (by decide) (by decide) rfl rfl rfl)
    exact p_nil
   refine p_share m_laurellaw01_TideHigher_Q20 (fun g => ∀ (b_58 : Nat) (L_123 : VL) (L_124 : VL) (L_125 : VL) (L_126 : VL) (L_127 : VL) (L_128 : VL), vk 2 L_123 (RW.enc t31.table) → vk 1 L_124 (RI.enc t31.floors) → vk 3 L_125 (RS.enc t31.sills) → vk 2 L_126 (RW.enc t33.table) → vk 1 L_127 (RI.enc t33.floors) → vk 3 L_128 (RS.enc t33.sills) → g [(1, .int .u8 which1), (2, .int .u8 much2), (3, .int .u8 when3), (10, ptr b 0), (12, ptr b_58 0), (31, .agg #[sL L_123, .int .i64 t31.wind.lo, .int .i64 t31.wind.hi, sL L_124, sL L_125]), (33, .agg #[sL L_126, .int .i64 t33.wind.lo, .int .i64 t33.wind.hi, sL L_127, sL L_128]), (34, .agg #[sL l_1.1, .int .i64 t29.r0.wind.lo, .int .i64 t29.r0.wind.hi, sL l_1.2.1, sL l_1.2.2])] [(b, .cells #[sL l_1.1, .int .i64 t29.r0.wind.lo, .int .i64 t29.r0.wind.hi, sL l_1.2.1, sL l_1.2.2] 29 (0, 0)), (l, .cells #[.slice qa0 na0 ca0, .int .i64 t29.b0_1, .int .u32 t29.b0_2] 138 (0, 0)), (b_58, .cells #[slv none 0 0, .int .i64 0, .int .i64 0, slv none 0 0, slv none 0 0] 29 (0, 0))] [vL 68 L_123 (RW.enc t31.table), vL 3 L_124 (RI.enc t31.floors), vL 51 L_125 (RS.enc t31.sills), vL 68 L_126 (RW.enc t33.table), vL 3 L_127 (RI.enc t33.floors), vL 51 L_128 (RS.enc t33.sills), vL 68 l_1.1 (RW.enc t29.r0.table), vL 3 l_1.2.1 (RI.enc t29.r0.floors), vL 51 l_1.2.2 (RS.enc t29.r0.sills)]) ?_ (fun h228 => ?_)
   ·intro b_58 L_123 L_124 L_125 L_126 L_127 L_128 h222 h223 h224 h225 h226 h227
    refine p_br ?_
    refine p_alt rfl ?_ ?_
    ·refine g_callH [] [] rfl rfl rfl rfl rfl rfl rfl (fun a w => Try.call25 a w) (fun w hh => c_laurellaw01_Own t29.r0 (qA l_1.1.q) l_1.1.n l_1.1.cap (qA l_1.2.1.q) l_1.2.1.n l_1.2.1.cap (qA l_1.2.2.q) l_1.2.2.n l_1.2.2.cap w (HV.callee (S0 := []) (vs0 := []) hh (roC (hh.vsepA (S0 := []) (vs0 := []) 6 rfl h5) (roC (hh.vsepA (S0 := []) (vs0 := []) 7 rfl h6) (roC (hh.vsepA (S0 := []) (vs0 := []) 8 rfl h7) roN)))) (vlen RW h5 rfl) (AOK.q (vne h5)) (h5).hle (vlen RI h6 rfl) (AOK.q (vne h6)) (h6).hle (vlen RS h7 rfl) (AOK.q (vne h7)) (h7).hle h22) (fun l_13 h229 => ?_)
     obtain ⟨h230, h231, h232⟩ := h229
     refine g_sel (S' := [_, _, _]) (vs' := [_, _, _, _, _, _, _, _, _, _, _, _]) [0, 1, 2] [0, 1, 2, 3, 4, 5, 6, 7, 8, 9, 10, 11] 0 (by decide) (by decide) rfl rfl rfl ?_
     refine p_next (fun w hh => hh.sel [0, 1] [9, 10, 11] 0 (by decide) (by decide) rfl rfl rfl) ?_
     exact p_shr (h162 b_58 L_123 L_124 L_125 L_126 L_127 L_128 l_13.1 l_13.2.1 l_13.2.2 h222 h223 h224 h225 h226 h227 h230 h231 h232) ((.cons rfl (.cons rfl (.cons rfl (.cons rfl (.cons rfl (.cons rfl (.cons rfl (.cons rfl .nil))))))))) (fun w hh => hh.sel [0, 1, 2] [3, 4, 5, 6, 7, 8, 0, 1, 2, 9, 10, 11] 0 (by decide) (by decide) rfl rfl rfl)
    refine p_alt rfl ?_ ?_
    ·refine g_allocV (fun w => Try.zeroValue29 w) rfl (fun b_59 h233 => ?_)
     refine p_next (fun w hh => hh.sel [1, 2] [6, 7, 8] 0 (by decide) (by decide) rfl rfl rfl) ?_
     exact p_shr (h135 b_59 b_58 L_123 L_124 L_125 L_126 L_127 L_128 h222 h223 h224 h225 h226 h227) ((.cons rfl (.cons rfl (.cons rfl (.cons rfl (.cons rfl (.cons rfl (.cons rfl (.cons rfl (.cons rfl .nil)))))))))) (fun w hh => hh.sel [1, 2, 0, 3] [0, 1, 2, 3, 4, 5, 6, 7, 8] 0 (by decide) (by decide) rfl rfl rfl)
    refine p_alt rfl ?_ ?_
    ·refine g_allocV (fun w => Try.zeroValue29 w) rfl (fun b_60 h234 => ?_)
     refine p_next (fun w hh => hh.sel [1, 2] [6, 7, 8] 0 (by decide) (by decide) rfl rfl rfl) ?_
     exact p_shr (h111 b_58 b_60 L_123 L_124 L_125 L_126 L_127 L_128 h222 h223 h224 h225 h226 h227) ((.cons rfl (.cons rfl (.cons rfl (.cons rfl (.cons rfl (.cons rfl (.cons rfl (.cons rfl (.cons rfl .nil)))))))))) (fun w hh => hh.sel [1, 2, 3, 0] [0, 1, 2, 3, 4, 5, 6, 7, 8] 0 (by decide) (by decide) rfl rfl rfl)
    exact p_nil
   refine p_share m_laurellaw01_TideHigher_Q24 (fun g => ∀ (b_61 : Nat) (L_129 : VL) (L_130 : VL) (L_131 : VL) (L_132 : VL) (L_133 : VL) (L_134 : VL), vk 2 L_129 (RW.enc t31.table) → vk 1 L_130 (RI.enc t31.floors) → vk 3 L_131 (RS.enc t31.sills) → vk 2 L_132 (RW.enc t33.table) → vk 1 L_133 (RI.enc t33.floors) → vk 3 L_134 (RS.enc t33.sills) → g [(1, .int .u8 which1), (2, .int .u8 much2), (3, .int .u8 when3), (10, ptr b 0), (11, ptr b_61 0), (31, .agg #[sL L_129, .int .i64 t31.wind.lo, .int .i64 t31.wind.hi, sL L_130, sL L_131]), (33, .agg #[sL L_132, .int .i64 t33.wind.lo, .int .i64 t33.wind.hi, sL L_133, sL L_134]), (34, .agg #[sL l_1.1, .int .i64 t29.r0.wind.lo, .int .i64 t29.r0.wind.hi, sL l_1.2.1, sL l_1.2.2])] [(b, .cells #[sL l_1.1, .int .i64 t29.r0.wind.lo, .int .i64 t29.r0.wind.hi, sL l_1.2.1, sL l_1.2.2] 29 (0, 0)), (l, .cells #[.slice qa0 na0 ca0, .int .i64 t29.b0_1, .int .u32 t29.b0_2] 138 (0, 0)), (b_61, .cells #[slv none 0 0, .int .i64 0, .int .i64 0, slv none 0 0, slv none 0 0] 29 (0, 0))] [vL 68 L_129 (RW.enc t31.table), vL 3 L_130 (RI.enc t31.floors), vL 51 L_131 (RS.enc t31.sills), vL 68 L_132 (RW.enc t33.table), vL 3 L_133 (RI.enc t33.floors), vL 51 L_134 (RS.enc t33.sills), vL 68 l_1.1 (RW.enc t29.r0.table), vL 3 l_1.2.1 (RI.enc t29.r0.floors), vL 51 l_1.2.2 (RS.enc t29.r0.sills)]) ?_ (fun h241 => ?_)
   ·intro b_61 L_129 L_130 L_131 L_132 L_133 L_134 h235 h236 h237 h238 h239 h240
    refine p_br ?_
    refine p_alt rfl ?_ ?_
    ·refine g_callH [] [] rfl rfl rfl rfl rfl rfl rfl (fun a w => Try.call25 a w) (fun w hh => c_laurellaw01_Own t29.r0 (qA l_1.1.q) l_1.1.n l_1.1.cap (qA l_1.2.1.q) l_1.2.1.n l_1.2.1.cap (qA l_1.2.2.q) l_1.2.2.n l_1.2.2.cap w (HV.callee (S0 := []) (vs0 := []) hh (roC (hh.vsepA (S0 := []) (vs0 := []) 6 rfl h5) (roC (hh.vsepA (S0 := []) (vs0 := []) 7 rfl h6) (roC (hh.vsepA (S0 := []) (vs0 := []) 8 rfl h7) roN)))) (vlen RW h5 rfl) (AOK.q (vne h5)) (h5).hle (vlen RI h6 rfl) (AOK.q (vne h6)) (h6).hle (vlen RS h7 rfl) (AOK.q (vne h7)) (h7).hle h22) (fun l_14 h242 => ?_)
     obtain ⟨h243, h244, h245⟩ := h242
     refine g_sel (S' := [_, _, _]) (vs' := [_, _, _, _, _, _, _, _, _, _, _, _]) [0, 1, 2] [0, 1, 2, 3, 4, 5, 6, 7, 8, 9, 10, 11] 0 (by decide) (by decide) rfl rfl rfl ?_
     refine p_next (fun w hh => hh.sel [0, 1] [9, 10, 11] 0 (by decide) (by decide) rfl rfl rfl) ?_
     exact p_shr (h174 b_61 L_129 L_130 L_131 L_132 L_133 L_134 l_14.1 l_14.2.1 l_14.2.2 h235 h236 h237 h238 h239 h240 h243 h244 h245) ((.cons rfl (.cons rfl (.cons rfl (.cons rfl (.cons rfl (.cons rfl (.cons rfl (.cons rfl .nil))))))))) (fun w hh => hh.sel [0, 1, 2] [3, 4, 5, 6, 7, 8, 0, 1, 2, 9, 10, 11] 0 (by decide) (by decide) rfl rfl rfl)
    refine p_alt rfl ?_ ?_
    ·refine g_allocV (fun w => Try.zeroValue29 w) rfl (fun b_62 h246 => ?_)
     refine p_next (fun w hh => hh.sel [1, 2] [6, 7, 8] 0 (by decide) (by decide) rfl rfl rfl) ?_
     exact p_shr (h135 b_61 b_62 L_129 L_130 L_131 L_132 L_133 L_134 h235 h236 h237 h238 h239 h240) ((.cons rfl (.cons rfl (.cons rfl (.cons rfl (.cons rfl (.cons rfl (.cons rfl (.cons rfl (.cons rfl .nil)))))))))) (fun w hh => hh.sel [1, 2, 3, 0] [0, 1, 2, 3, 4, 5, 6, 7, 8] 0 (by decide) (by decide) rfl rfl rfl)
    refine p_alt rfl ?_ ?_
    ·refine g_allocV (fun w => Try.zeroValue29 w) rfl (fun b_63 h247 => ?_)
     refine p_next (fun w hh => hh.sel [1, 2] [6, 7, 8] 0 (by decide) (by decide) rfl rfl rfl) ?_
     exact p_shr (h123 b_61 b_63 L_129 L_130 L_131 L_132 L_133 L_134 h235 h236 h237 h238 h239 h240) ((.cons rfl (.cons rfl (.cons rfl (.cons rfl (.cons rfl (.cons rfl (.cons rfl (.cons rfl (.cons rfl .nil)))))))))) (fun w hh => hh.sel [1, 2, 3, 0] [0, 1, 2, 3, 4, 5, 6, 7, 8] 0 (by decide) (by decide) rfl rfl rfl)
    exact p_nil
   refine p_share m_laurellaw01_TideHigher_Q6 (fun g => ∀ (b_64 : Nat) (b_65 : Nat), g [(1, .int .u8 which1), (2, .int .u8 much2), (3, .int .u8 when3), (10, ptr b 0), (12, ptr b_64 0), (13, ptr b_65 0), (30, .agg #[sL l_1.1, .int .i64 t29.r0.wind.lo, .int .i64 t29.r0.wind.hi, sL l_1.2.1, sL l_1.2.2]), (32, .agg #[sL l_1.1, .int .i64 t29.r0.wind.lo, .int .i64 t29.r0.wind.hi, sL l_1.2.1, sL l_1.2.2]), (34, .agg #[sL l_1.1, .int .i64 t29.r0.wind.lo, .int .i64 t29.r0.wind.hi, sL l_1.2.1, sL l_1.2.2])] [(b, .cells #[sL l_1.1, .int .i64 t29.r0.wind.lo, .int .i64 t29.r0.wind.hi, sL l_1.2.1, sL l_1.2.2] 29 (0, 0)), (l, .cells #[.slice qa0 na0 ca0, .int .i64 t29.b0_1, .int .u32 t29.b0_2] 138 (0, 0)), (b_64, .cells #[slv none 0 0, .int .i64 0, .int .i64 0, slv none 0 0, slv none 0 0] 29 (0, 0)), (b_65, .cells #[slv none 0 0, .int .i64 0, .int .i64 0, slv none 0 0, slv none 0 0] 29 (0, 0))] [vL 68 l_1.1 (RW.enc t29.r0.table), vL 3 l_1.2.1 (RI.enc t29.r0.floors), vL 51 l_1.2.2 (RS.enc t29.r0.sills)]) ?_ (fun h248 => ?_)
   ·intro b_64 b_65
    refine p_br ?_
    refine p_alt rfl ?_ ?_
    ·refine g_callH [] [] rfl rfl rfl rfl rfl rfl rfl (fun a w => Try.call25 a w) (fun w hh => c_laurellaw01_Own t29.r0 (qA l_1.1.q) l_1.1.n l_1.1.cap (qA l_1.2.1.q) l_1.2.1.n l_1.2.1.cap (qA l_1.2.2.q) l_1.2.2.n l_1.2.2.cap w (HV.callee (S0 := []) (vs0 := []) hh (roC (hh.vsepA (S0 := []) (vs0 := []) 0 rfl h5) (roC (hh.vsepA (S0 := []) (vs0 := []) 1 rfl h6) (roC (hh.vsepA (S0 := []) (vs0 := []) 2 rfl h7) roN)))) (vlen RW h5 rfl) (AOK.q (vne h5)) (h5).hle (vlen RI h6 rfl) (AOK.q (vne h6)) (h6).hle (vlen RS h7 rfl) (AOK.q (vne h7)) (h7).hle h20) (fun l_15 h249 => ?_)
     obtain ⟨h250, h251, h252⟩ := h249
     refine g_sel (S' := [_, _, _, _]) (vs' := [_, _, _, _, _, _]) [0, 1, 2, 3] [0, 1, 2, 3, 4, 5] 0 (by decide) (by decide) rfl rfl rfl ?_
     refine p_next (fun w hh => hh.sel [0, 1] [3, 4, 5] 0 (by decide) (by decide) rfl rfl rfl) ?_
     exact p_shr (h185 b_64 b_65 l_15.1 l_15.2.1 l_15.2.2 h250 h251 h252) ((.cons rfl (.cons rfl (.cons rfl (.cons rfl (.cons rfl (.cons rfl (.cons rfl (.cons rfl (.cons rfl .nil)))))))))) (fun w hh => hh)
    refine p_alt rfl ?_ ?_
    ·refine g_allocV (fun w => Try.zeroValue29 w) rfl (fun b_66 h253 => ?_)
     refine p_next (fun w hh => hh.sel [1, 2] [0, 1, 2] 0 (by decide) (by decide) rfl rfl rfl) ?_
     exact p_shr (h177 b_66 b_64 b_65) ((.cons rfl (.cons rfl (.cons rfl (.cons rfl (.cons rfl (.cons rfl (.cons rfl (.cons rfl (.cons rfl (.cons rfl .nil))))))))))) (fun w hh => hh.sel [1, 2, 0, 3, 4] [0, 1, 2] 0 (by decide) (by decide) rfl rfl rfl)
    exact p_nil
   refine p_share m_laurellaw01_TideHigher_Q10 (fun g => ∀ (b_67 : Nat) (b_68 : Nat), g [(1, .int .u8 which1), (2, .int .u8 much2), (3, .int .u8 when3), (10, ptr b 0), (11, ptr b_67 0), (13, ptr b_68 0), (30, .agg #[sL l_1.1, .int .i64 t29.r0.wind.lo, .int .i64 t29.r0.wind.hi, sL l_1.2.1, sL l_1.2.2]), (32, .agg #[sL l_1.1, .int .i64 t29.r0.wind.lo, .int .i64 t29.r0.wind.hi, sL l_1.2.1, sL l_1.2.2]), (34, .agg #[sL l_1.1, .int .i64 t29.r0.wind.lo, .int .i64 t29.r0.wind.hi, sL l_1.2.1, sL l_1.2.2])] [(b, .cells #[sL l_1.1, .int .i64 t29.r0.wind.lo, .int .i64 t29.r0.wind.hi, sL l_1.2.1, sL l_1.2.2] 29 (0, 0)), (l, .cells #[.slice qa0 na0 ca0, .int .i64 t29.b0_1, .int .u32 t29.b0_2] 138 (0, 0)), (b_67, .cells #[slv none 0 0, .int .i64 0, .int .i64 0, slv none 0 0, slv none 0 0] 29 (0, 0)), (b_68, .cells #[slv none 0 0, .int .i64 0, .int .i64 0, slv none 0 0, slv none 0 0] 29 (0, 0))] [vL 68 l_1.1 (RW.enc t29.r0.table), vL 3 l_1.2.1 (RI.enc t29.r0.floors), vL 51 l_1.2.2 (RS.enc t29.r0.sills)]) ?_ (fun h254 => ?_)
   ·intro b_67 b_68
    refine p_br ?_
    refine p_alt rfl ?_ ?_
    ·refine g_callH [] [] rfl rfl rfl rfl rfl rfl rfl (fun a w => Try.call25 a w) (fun w hh => c_laurellaw01_Own t29.r0 (qA l_1.1.q) l_1.1.n l_1.1.cap (qA l_1.2.1.q) l_1.2.1.n l_1.2.1.cap (qA l_1.2.2.q) l_1.2.2.n l_1.2.2.cap w (HV.callee (S0 := []) (vs0 := []) hh (roC (hh.vsepA (S0 := []) (vs0 := []) 0 rfl h5) (roC (hh.vsepA (S0 := []) (vs0 := []) 1 rfl h6) (roC (hh.vsepA (S0 := []) (vs0 := []) 2 rfl h7) roN)))) (vlen RW h5 rfl) (AOK.q (vne h5)) (h5).hle (vlen RI h6 rfl) (AOK.q (vne h6)) (h6).hle (vlen RS h7 rfl) (AOK.q (vne h7)) (h7).hle h20) (fun l_16 h255 => ?_)
     obtain ⟨h256, h257, h258⟩ := h255
     refine g_sel (S' := [_, _, _, _]) (vs' := [_, _, _, _, _, _]) [0, 1, 2, 3] [0, 1, 2, 3, 4, 5] 0 (by decide) (by decide) rfl rfl rfl ?_
     refine p_next (fun w hh => hh.sel [0, 1] [3, 4, 5] 0 (by decide) (by decide) rfl rfl rfl) ?_
     exact p_shr (h194 b_67 b_68 l_16.1 l_16.2.1 l_16.2.2 h256 h257 h258) ((.cons rfl (.cons rfl (.cons rfl (.cons rfl (.cons rfl (.cons rfl (.cons rfl (.cons rfl (.cons rfl .nil)))))))))) (fun w hh => hh)
    refine p_alt rfl ?_ ?_
    ·refine g_allocV (fun w => Try.zeroValue29 w) rfl (fun b_69 h259 => ?_)
     refine p_next (fun w hh => hh.sel [1, 2] [0, 1, 2] 0 (by decide) (by decide) rfl rfl rfl) ?_
     exact p_shr (h177 b_67 b_69 b_68) ((.cons rfl (.cons rfl (.cons rfl (.cons rfl (.cons rfl (.cons rfl (.cons rfl (.cons rfl (.cons rfl (.cons rfl .nil))))))))))) (fun w hh => hh.sel [1, 2, 3, 0, 4] [0, 1, 2] 0 (by decide) (by decide) rfl rfl rfl)
    exact p_nil
   refine p_share m_laurellaw01_TideHigher_Q18 (fun g => ∀ (b_70 : Nat) (b_71 : Nat), g [(1, .int .u8 which1), (2, .int .u8 much2), (3, .int .u8 when3), (10, ptr b 0), (11, ptr b_70 0), (12, ptr b_71 0), (30, .agg #[sL l_1.1, .int .i64 t29.r0.wind.lo, .int .i64 t29.r0.wind.hi, sL l_1.2.1, sL l_1.2.2]), (32, .agg #[sL l_1.1, .int .i64 t29.r0.wind.lo, .int .i64 t29.r0.wind.hi, sL l_1.2.1, sL l_1.2.2]), (34, .agg #[sL l_1.1, .int .i64 t29.r0.wind.lo, .int .i64 t29.r0.wind.hi, sL l_1.2.1, sL l_1.2.2])] [(b, .cells #[sL l_1.1, .int .i64 t29.r0.wind.lo, .int .i64 t29.r0.wind.hi, sL l_1.2.1, sL l_1.2.2] 29 (0, 0)), (l, .cells #[.slice qa0 na0 ca0, .int .i64 t29.b0_1, .int .u32 t29.b0_2] 138 (0, 0)), (b_70, .cells #[slv none 0 0, .int .i64 0, .int .i64 0, slv none 0 0, slv none 0 0] 29 (0, 0)), (b_71, .cells #[slv none 0 0, .int .i64 0, .int .i64 0, slv none 0 0, slv none 0 0] 29 (0, 0))] [vL 68 l_1.1 (RW.enc t29.r0.table), vL 3 l_1.2.1 (RI.enc t29.r0.floors), vL 51 l_1.2.2 (RS.enc t29.r0.sills)]) ?_ (fun h260 => ?_)
   ·intro b_70 b_71
    refine p_br ?_
    refine p_alt rfl ?_ ?_
    ·refine g_callH [] [] rfl rfl rfl rfl rfl rfl rfl (fun a w => Try.call25 a w) (fun w hh => c_laurellaw01_Own t29.r0 (qA l_1.1.q) l_1.1.n l_1.1.cap (qA l_1.2.1.q) l_1.2.1.n l_1.2.1.cap (qA l_1.2.2.q) l_1.2.2.n l_1.2.2.cap w (HV.callee (S0 := []) (vs0 := []) hh (roC (hh.vsepA (S0 := []) (vs0 := []) 0 rfl h5) (roC (hh.vsepA (S0 := []) (vs0 := []) 1 rfl h6) (roC (hh.vsepA (S0 := []) (vs0 := []) 2 rfl h7) roN)))) (vlen RW h5 rfl) (AOK.q (vne h5)) (h5).hle (vlen RI h6 rfl) (AOK.q (vne h6)) (h6).hle (vlen RS h7 rfl) (AOK.q (vne h7)) (h7).hle h20) (fun l_17 h261 => ?_)
     obtain ⟨h262, h263, h264⟩ := h261
     refine g_sel (S' := [_, _, _, _]) (vs' := [_, _, _, _, _, _]) [0, 1, 2, 3] [0, 1, 2, 3, 4, 5] 0 (by decide) (by decide) rfl rfl rfl ?_
     refine p_next (fun w hh => hh.sel [0, 1] [3, 4, 5] 0 (by decide) (by decide) rfl rfl rfl) ?_
     exact p_shr (h203 b_70 b_71 l_17.1 l_17.2.1 l_17.2.2 h262 h263 h264) ((.cons rfl (.cons rfl (.cons rfl (.cons rfl (.cons rfl (.cons rfl (.cons rfl (.cons rfl (.cons rfl .nil)))))))))) (fun w hh => hh)
    refine p_alt rfl ?_ ?_
    ·refine g_allocV (fun w => Try.zeroValue29 w) rfl (fun b_72 h265 => ?_)
     refine p_next (fun w hh => hh.sel [1, 2] [0, 1, 2] 0 (by decide) (by decide) rfl rfl rfl) ?_
     exact p_shr (h177 b_70 b_71 b_72) ((.cons rfl (.cons rfl (.cons rfl (.cons rfl (.cons rfl (.cons rfl (.cons rfl (.cons rfl (.cons rfl (.cons rfl .nil))))))))))) (fun w hh => hh.sel [1, 2, 3, 4, 0] [0, 1, 2] 0 (by decide) (by decide) rfl rfl rfl)
    exact p_nil
   refine p_share m_laurellaw01_TideHigher_Q13 (fun g => ∀ (b_73 : Nat) (L_135 : VL) (L_136 : VL) (L_137 : VL), vk 2 L_135 (RW.enc t31.table) → vk 1 L_136 (RI.enc t31.floors) → vk 3 L_137 (RS.enc t31.sills) → g [(1, .int .u8 which1), (2, .int .u8 much2), (3, .int .u8 when3), (10, ptr b 0), (13, ptr b_73 0), (31, .agg #[sL L_135, .int .i64 t31.wind.lo, .int .i64 t31.wind.hi, sL L_136, sL L_137]), (32, .agg #[sL l_1.1, .int .i64 t29.r0.wind.lo, .int .i64 t29.r0.wind.hi, sL l_1.2.1, sL l_1.2.2]), (34, .agg #[sL l_1.1, .int .i64 t29.r0.wind.lo, .int .i64 t29.r0.wind.hi, sL l_1.2.1, sL l_1.2.2])] [(b, .cells #[sL l_1.1, .int .i64 t29.r0.wind.lo, .int .i64 t29.r0.wind.hi, sL l_1.2.1, sL l_1.2.2] 29 (0, 0)), (l, .cells #[.slice qa0 na0 ca0, .int .i64 t29.b0_1, .int .u32 t29.b0_2] 138 (0, 0)), (b_73, .cells #[slv none 0 0, .int .i64 0, .int .i64 0, slv none 0 0, slv none 0 0] 29 (0, 0))] [vL 68 L_135 (RW.enc t31.table), vL 3 L_136 (RI.enc t31.floors), vL 51 L_137 (RS.enc t31.sills), vL 68 l_1.1 (RW.enc t29.r0.table), vL 3 l_1.2.1 (RI.enc t29.r0.floors), vL 51 l_1.2.2 (RS.enc t29.r0.sills)]) ?_ (fun h269 => ?_)
   ·intro b_73 L_135 L_136 L_137 h266 h267 h268
    refine p_br ?_
    refine p_alt rfl ?_ ?_
    ·refine g_callH [] [] rfl rfl rfl rfl rfl rfl rfl (fun a w => Try.call25 a w) (fun w hh => c_laurellaw01_Own t29.r0 (qA l_1.1.q) l_1.1.n l_1.1.cap (qA l_1.2.1.q) l_1.2.1.n l_1.2.1.cap (qA l_1.2.2.q) l_1.2.2.n l_1.2.2.cap w (HV.callee (S0 := []) (vs0 := []) hh (roC (hh.vsepA (S0 := []) (vs0 := []) 3 rfl h5) (roC (hh.vsepA (S0 := []) (vs0 := []) 4 rfl h6) (roC (hh.vsepA (S0 := []) (vs0 := []) 5 rfl h7) roN)))) (vlen RW h5 rfl) (AOK.q (vne h5)) (h5).hle (vlen RI h6 rfl) (AOK.q (vne h6)) (h6).hle (vlen RS h7 rfl) (AOK.q (vne h7)) (h7).hle h21) (fun l_18 h270 => ?_)
     obtain ⟨h271, h272, h273⟩ := h270
     refine g_sel (S' := [_, _, _]) (vs' := [_, _, _, _, _, _, _, _, _]) [0, 1, 2] [0, 1, 2, 3, 4, 5, 6, 7, 8] 0 (by decide) (by decide) rfl rfl rfl ?_
     refine p_next (fun w hh => hh.sel [0, 1] [6, 7, 8] 0 (by decide) (by decide) rfl rfl rfl) ?_
     exact p_shr (h215 b_73 L_135 L_136 L_137 l_18.1 l_18.2.1 l_18.2.2 h266 h267 h268 h271 h272 h273) ((.cons rfl (.cons rfl (.cons rfl (.cons rfl (.cons rfl (.cons rfl (.cons rfl (.cons rfl .nil))))))))) (fun w hh => hh.sel [0, 1, 2] [3, 4, 5, 0, 1, 2, 6, 7, 8] 0 (by decide) (by decide) rfl rfl rfl)
    refine p_alt rfl ?_ ?_
    ·refine g_allocV (fun w => Try.zeroValue29 w) rfl (fun b_74 h274 => ?_)
     refine p_next (fun w hh => hh.sel [1, 2] [3, 4, 5] 0 (by decide) (by decide) rfl rfl rfl) ?_
     exact p_shr (h194 b_74 b_73 L_135 L_136 L_137 h266 h267 h268) ((.cons rfl (.cons rfl (.cons rfl (.cons rfl (.cons rfl (.cons rfl (.cons rfl (.cons rfl (.cons rfl .nil)))))))))) (fun w hh => hh.sel [1, 2, 0, 3] [0, 1, 2, 3, 4, 5] 0 (by decide) (by decide) rfl rfl rfl)
    refine p_alt rfl ?_ ?_
    ·refine g_allocV (fun w => Try.zeroValue29 w) rfl (fun b_75 h275 => ?_)
     refine p_next (fun w hh => hh.sel [1, 2] [3, 4, 5] 0 (by decide) (by decide) rfl rfl rfl) ?_
     exact p_shr (h185 b_75 b_73 L_135 L_136 L_137 h266 h267 h268) ((.cons rfl (.cons rfl (.cons rfl (.cons rfl (.cons rfl (.cons rfl (.cons rfl (.cons rfl (.cons rfl .nil)))))))))) (fun w hh => hh.sel [1, 2, 0, 3] [0, 1, 2, 3, 4, 5] 0 (by decide) (by decide) rfl rfl rfl)
    exact p_nil
   refine p_share m_laurellaw01_TideHigher_Q21 (fun g => ∀ (b_76 : Nat) (L_138 : VL) (L_139 : VL) (L_140 : VL), vk 2 L_138 (RW.enc t31.table) → vk 1 L_139 (RI.enc t31.floors) → vk 3 L_140 (RS.enc t31.sills) → g [(1, .int .u8 which1), (2, .int .u8 much2), (3, .int .u8 when3), (10, ptr b 0), (12, ptr b_76 0), (31, .agg #[sL L_138, .int .i64 t31.wind.lo, .int .i64 t31.wind.hi, sL L_139, sL L_140]), (32, .agg #[sL l_1.1, .int .i64 t29.r0.wind.lo, .int .i64 t29.r0.wind.hi, sL l_1.2.1, sL l_1.2.2]), (34, .agg #[sL l_1.1, .int .i64 t29.r0.wind.lo, .int .i64 t29.r0.wind.hi, sL l_1.2.1, sL l_1.2.2])] [(b, .cells #[sL l_1.1, .int .i64 t29.r0.wind.lo, .int .i64 t29.r0.wind.hi, sL l_1.2.1, sL l_1.2.2] 29 (0, 0)), (l, .cells #[.slice qa0 na0 ca0, .int .i64 t29.b0_1, .int .u32 t29.b0_2] 138 (0, 0)), (b_76, .cells #[slv none 0 0, .int .i64 0, .int .i64 0, slv none 0 0, slv none 0 0] 29 (0, 0))] [vL 68 L_138 (RW.enc t31.table), vL 3 L_139 (RI.enc t31.floors), vL 51 L_140 (RS.enc t31.sills), vL 68 l_1.1 (RW.enc t29.r0.table), vL 3 l_1.2.1 (RI.enc t29.r0.floors), vL 51 l_1.2.2 (RS.enc t29.r0.sills)]) ?_ (fun h279 => ?_)
   ·intro b_76 L_138 L_139 L_140 h276 h277 h278
    refine p_br ?_
    refine p_alt rfl ?_ ?_
    ·refine g_callH [] [] rfl rfl rfl rfl rfl rfl rfl (fun a w => Try.call25 a w) (fun w hh => c_laurellaw01_Own t29.r0 (qA l_1.1.q) l_1.1.n l_1.1.cap (qA l_1.2.1.q) l_1.2.1.n l_1.2.1.cap (qA l_1.2.2.q) l_1.2.2.n l_1.2.2.cap w (HV.callee (S0 := []) (vs0 := []) hh (roC (hh.vsepA (S0 := []) (vs0 := []) 3 rfl h5) (roC (hh.vsepA (S0 := []) (vs0 := []) 4 rfl h6) (roC (hh.vsepA (S0 := []) (vs0 := []) 5 rfl h7) roN)))) (vlen RW h5 rfl) (AOK.q (vne h5)) (h5).hle (vlen RI h6 rfl) (AOK.q (vne h6)) (h6).hle (vlen RS h7 rfl) (AOK.q (vne h7)) (h7).hle h21) (fun l_19 h280 => ?_)
     obtain ⟨h281, h282, h283⟩ := h280
     refine g_sel (S' := [_, _, _]) (vs' := [_, _, _, _, _, _, _, _, _]) [0, 1, 2] [0, 1, 2, 3, 4, 5, 6, 7, 8] 0 (by decide) (by decide) rfl rfl rfl ?_
     refine p_next (fun w hh => hh.sel [0, 1] [6, 7, 8] 0 (by decide) (by decide) rfl rfl rfl) ?_
     exact p_shr (h228 b_76 L_138 L_139 L_140 l_19.1 l_19.2.1 l_19.2.2 h276 h277 h278 h281 h282 h283) ((.cons rfl (.cons rfl (.cons rfl (.cons rfl (.cons rfl (.cons rfl (.cons rfl (.cons rfl .nil))))))))) (fun w hh => hh.sel [0, 1, 2] [3, 4, 5, 0, 1, 2, 6, 7, 8] 0 (by decide) (by decide) rfl rfl rfl)
    refine p_alt rfl ?_ ?_
    ·refine g_allocV (fun w => Try.zeroValue29 w) rfl (fun b_77 h284 => ?_)
     refine p_next (fun w hh => hh.sel [1, 2] [3, 4, 5] 0 (by decide) (by decide) rfl rfl rfl) ?_
     exact p_shr (h203 b_77 b_76 L_138 L_139 L_140 h276 h277 h278) ((.cons rfl (.cons rfl (.cons rfl (.cons rfl (.cons rfl (.cons rfl (.cons rfl (.cons rfl (.cons rfl .nil)))))))))) (fun w hh => hh.sel [1, 2, 0, 3] [0, 1, 2, 3, 4, 5] 0 (by decide) (by decide) rfl rfl rfl)
    refine p_alt rfl ?_ ?_
    ·refine g_allocV (fun w => Try.zeroValue29 w) rfl (fun b_78 h285 => ?_)
     refine p_next (fun w hh => hh.sel [1, 2] [3, 4, 5] 0 (by decide) (by decide) rfl rfl rfl) ?_
     exact p_shr (h185 b_76 b_78 L_138 L_139 L_140 h276 h277 h278) ((.cons rfl (.cons rfl (.cons rfl (.cons rfl (.cons rfl (.cons rfl (.cons rfl (.cons rfl (.cons rfl .nil)))))))))) (fun w hh => hh.sel [1, 2, 3, 0] [0, 1, 2, 3, 4, 5] 0 (by decide) (by decide) rfl rfl rfl)
    exact p_nil
   refine p_share m_laurellaw01_TideHigher_Q25 (fun g => ∀ (b_79 : Nat) (L_141 : VL) (L_142 : VL) (L_143 : VL), vk 2 L_141 (RW.enc t31.table) → vk 1 L_142 (RI.enc t31.floors) → vk 3 L_143 (RS.enc t31.sills) → g [(1, .int .u8 which1), (2, .int .u8 much2), (3, .int .u8 when3), (10, ptr b 0), (11, ptr b_79 0), (31, .agg #[sL L_141, .int .i64 t31.wind.lo, .int .i64 t31.wind.hi, sL L_142, sL L_143]), (32, .agg #[sL l_1.1, .int .i64 t29.r0.wind.lo, .int .i64 t29.r0.wind.hi, sL l_1.2.1, sL l_1.2.2]), (34, .agg #[sL l_1.1, .int .i64 t29.r0.wind.lo, .int .i64 t29.r0.wind.hi, sL l_1.2.1, sL l_1.2.2])] [(b, .cells #[sL l_1.1, .int .i64 t29.r0.wind.lo, .int .i64 t29.r0.wind.hi, sL l_1.2.1, sL l_1.2.2] 29 (0, 0)), (l, .cells #[.slice qa0 na0 ca0, .int .i64 t29.b0_1, .int .u32 t29.b0_2] 138 (0, 0)), (b_79, .cells #[slv none 0 0, .int .i64 0, .int .i64 0, slv none 0 0, slv none 0 0] 29 (0, 0))] [vL 68 L_141 (RW.enc t31.table), vL 3 L_142 (RI.enc t31.floors), vL 51 L_143 (RS.enc t31.sills), vL 68 l_1.1 (RW.enc t29.r0.table), vL 3 l_1.2.1 (RI.enc t29.r0.floors), vL 51 l_1.2.2 (RS.enc t29.r0.sills)]) ?_ (fun h289 => ?_)
   ·intro b_79 L_141 L_142 L_143 h286 h287 h288
    refine p_br ?_
    refine p_alt rfl ?_ ?_
    ·refine g_callH [] [] rfl rfl rfl rfl rfl rfl rfl (fun a w => Try.call25 a w) (fun w hh => c_laurellaw01_Own t29.r0 (qA l_1.1.q) l_1.1.n l_1.1.cap (qA l_1.2.1.q) l_1.2.1.n l_1.2.1.cap (qA l_1.2.2.q) l_1.2.2.n l_1.2.2.cap w (HV.callee (S0 := []) (vs0 := []) hh (roC (hh.vsepA (S0 := []) (vs0 := []) 3 rfl h5) (roC (hh.vsepA (S0 := []) (vs0 := []) 4 rfl h6) (roC (hh.vsepA (S0 := []) (vs0 := []) 5 rfl h7) roN)))) (vlen RW h5 rfl) (AOK.q (vne h5)) (h5).hle (vlen RI h6 rfl) (AOK.q (vne h6)) (h6).hle (vlen RS h7 rfl) (AOK.q (vne h7)) (h7).hle h21) (fun l_20 h290 => ?_)
     obtain ⟨h291, h292, h293⟩ := h290
     refine g_sel (S' := [_, _, _]) (vs' := [_, _, _, _, _, _, _, _, _]) [0, 1, 2] [0, 1, 2, 3, 4, 5, 6, 7, 8] 0 (by decide) (by decide) rfl rfl rfl ?_
     refine p_next (fun w hh => hh.sel [0, 1] [6, 7, 8] 0 (by decide) (by decide) rfl rfl rfl) ?_
     exact p_shr (h241 b_79 L_141 L_142 L_143 l_20.1 l_20.2.1 l_20.2.2 h286 h287 h288 h291 h292 h293) ((.cons rfl (.cons rfl (.cons rfl (.cons rfl (.cons rfl (.cons rfl (.cons rfl (.cons rfl .nil))))))))) (fun w hh => hh.sel [0, 1, 2] [3, 4, 5, 0, 1, 2, 6, 7, 8] 0 (by decide) (by decide) rfl rfl rfl)
    refine p_alt rfl ?_ ?_
    ·refine g_allocV (fun w => Try.zeroValue29 w) rfl (fun b_80 h294 => ?_)
     refine p_next (fun w hh => hh.sel [1, 2] [3, 4, 5] 0 (by decide) (by decide) rfl rfl rfl) ?_
     exact p_shr (h203 b_79 b_80 L_141 L_142 L_143 h286 h287 h288) ((.cons rfl (.cons rfl (.cons rfl (.cons rfl (.cons rfl (.cons rfl (.cons rfl (.cons rfl (.cons rfl .nil)))))))))) (fun w hh => hh.sel [1, 2, 3, 0] [0, 1, 2, 3, 4, 5] 0 (by decide) (by decide) rfl rfl rfl)
    refine p_alt rfl ?_ ?_
    ·refine g_allocV (fun w => Try.zeroValue29 w) rfl (fun b_81 h295 => ?_)
     refine p_next (fun w hh => hh.sel [1, 2] [3, 4, 5] 0 (by decide) (by decide) rfl rfl rfl) ?_
     exact p_shr (h194 b_79 b_81 L_141 L_142 L_143 h286 h287 h288) ((.cons rfl (.cons rfl (.cons rfl (.cons rfl (.cons rfl (.cons rfl (.cons rfl (.cons rfl (.cons rfl .nil)))))))))) (fun w hh => hh.sel [1, 2, 3, 0] [0, 1, 2, 3, 4, 5] 0 (by decide) (by decide) rfl rfl rfl)
    exact p_nil
   refine p_br ?_
   refine p_alt rfl ?_ ?_
   ·refine g_callH [] [] rfl rfl rfl rfl rfl rfl rfl (fun a w => Try.call25 a w) (fun w hh => c_laurellaw01_Own t29.r0 (qA l_1.1.q) l_1.1.n l_1.1.cap (qA l_1.2.1.q) l_1.2.1.n l_1.2.1.cap (qA l_1.2.2.q) l_1.2.2.n l_1.2.2.cap w (HV.callee (S0 := []) (vs0 := []) hh (roC (hh.vsepA (S0 := []) (vs0 := []) 0 rfl h5) (roC (hh.vsepA (S0 := []) (vs0 := []) 1 rfl h6) (roC (hh.vsepA (S0 := []) (vs0 := []) 2 rfl h7) roN)))) (vlen RW h5 rfl) (AOK.q (vne h5)) (h5).hle (vlen RI h6 rfl) (AOK.q (vne h6)) (h6).hle (vlen RS h7 rfl) (AOK.q (vne h7)) (h7).hle h20) (fun l_21 h296 => ?_)
    obtain ⟨h297, h298, h299⟩ := h296
    refine g_sel (S' := [_, _]) (vs' := [_, _, _, _, _, _]) [0, 1] [0, 1, 2, 3, 4, 5] 0 (by decide) (by decide) rfl rfl rfl ?_
    refine p_next (fun w hh => hh.sel [0, 1] [3, 4, 5] 0 (by decide) (by decide) rfl rfl rfl) ?_
    refine p_br ?_
    refine p_alt rfl ?_ ?_
    ·refine g_callH [] [] rfl rfl rfl rfl rfl rfl rfl (fun a w => Try.call25 a w) (fun w hh => c_laurellaw01_Own t29.r0 (qA l_1.1.q) l_1.1.n l_1.1.cap (qA l_1.2.1.q) l_1.2.1.n l_1.2.1.cap (qA l_1.2.2.q) l_1.2.2.n l_1.2.2.cap w (HV.callee (S0 := []) (vs0 := []) hh (roC (hh.vsepA (S0 := []) (vs0 := []) 3 rfl h5) (roC (hh.vsepA (S0 := []) (vs0 := []) 4 rfl h6) (roC (hh.vsepA (S0 := []) (vs0 := []) 5 rfl h7) roN)))) (vlen RW h5 rfl) (AOK.q (vne h5)) (h5).hle (vlen RI h6 rfl) (AOK.q (vne h6)) (h6).hle (vlen RS h7 rfl) (AOK.q (vne h7)) (h7).hle h21) (fun l_22 h300 => ?_)
     obtain ⟨h301, h302, h303⟩ := h300
     refine g_sel (S' := [_, _]) (vs' := [_, _, _, _, _, _, _, _, _]) [0, 1] [0, 1, 2, 3, 4, 5, 6, 7, 8] 0 (by decide) (by decide) rfl rfl rfl ?_
     refine p_next (fun w hh => hh.sel [0, 1] [6, 7, 8] 0 (by decide) (by decide) rfl rfl rfl) ?_
     refine p_br ?_
     refine p_alt rfl ?_ ?_
     ·refine g_callH [] [] rfl rfl rfl rfl rfl rfl rfl (fun a w => Try.call25 a w) (fun w hh => c_laurellaw01_Own t29.r0 (qA l_1.1.q) l_1.1.n l_1.1.cap (qA l_1.2.1.q) l_1.2.1.n l_1.2.1.cap (qA l_1.2.2.q) l_1.2.2.n l_1.2.2.cap w (HV.callee (S0 := []) (vs0 := []) hh (roC (hh.vsepA (S0 := []) (vs0 := []) 6 rfl h5) (roC (hh.vsepA (S0 := []) (vs0 := []) 7 rfl h6) (roC (hh.vsepA (S0 := []) (vs0 := []) 8 rfl h7) roN)))) (vlen RW h5 rfl) (AOK.q (vne h5)) (h5).hle (vlen RI h6 rfl) (AOK.q (vne h6)) (h6).hle (vlen RS h7 rfl) (AOK.q (vne h7)) (h7).hle h22) (fun l_23 h304 => ?_)
      obtain ⟨h305, h306, h307⟩ := h304
      refine g_sel (S' := [_, _]) (vs' := [_, _, _, _, _, _, _, _, _, _, _, _]) [0, 1] [0, 1, 2, 3, 4, 5, 6, 7, 8, 9, 10, 11] 0 (by decide) (by decide) rfl rfl rfl ?_
      refine p_next (fun w hh => hh.sel [0, 1] [9, 10, 11] 0 (by decide) (by decide) rfl rfl rfl) ?_
      refine p_br ?_
      refine p_alt rfl ?_ ?_
      ·refine g_allocV (fun w => Try.zeroValue29 w) rfl (fun b_82 h308 => ?_)
       refine p_next (fun w hh => hh.sel [1, 2] [9, 10, 11] 0 (by decide) (by decide) rfl rfl rfl) ?_
       exact p_shr (h174 b_82 l_21.1 l_21.2.1 l_21.2.2 l_22.1 l_22.2.1 l_22.2.2 l_23.1 l_23.2.1 l_23.2.2 h297 h298 h299 h301 h302 h303 h305 h306 h307) ((.cons rfl (.cons rfl (.cons rfl (.cons rfl (.cons rfl (.cons rfl (.cons rfl (.cons rfl .nil))))))))) (fun w hh => hh.sel [1, 2, 0] [6, 7, 8, 3, 4, 5, 0, 1, 2, 9, 10, 11] 0 (by decide) (by decide) rfl rfl rfl)
      refine p_alt rfl ?_ ?_
      ·refine g_allocV (fun w => Try.zeroValue29 w) rfl (fun b_83 h309 => ?_)
       refine p_next (fun w hh => hh.sel [1, 2] [9, 10, 11] 0 (by decide) (by decide) rfl rfl rfl) ?_
       exact p_shr (h162 b_83 l_21.1 l_21.2.1 l_21.2.2 l_22.1 l_22.2.1 l_22.2.2 l_23.1 l_23.2.1 l_23.2.2 h297 h298 h299 h301 h302 h303 h305 h306 h307) ((.cons rfl (.cons rfl (.cons rfl (.cons rfl (.cons rfl (.cons rfl (.cons rfl (.cons rfl .nil))))))))) (fun w hh => hh.sel [1, 2, 0] [6, 7, 8, 3, 4, 5, 0, 1, 2, 9, 10, 11] 0 (by decide) (by decide) rfl rfl rfl)
      refine p_alt rfl ?_ ?_
      ·refine g_allocV (fun w => Try.zeroValue29 w) rfl (fun b_84 h310 => ?_)
       refine p_next (fun w hh => hh.sel [1, 2] [9, 10, 11] 0 (by decide) (by decide) rfl rfl rfl) ?_
       exact p_shr (h150 b_84 l_21.1 l_21.2.1 l_21.2.2 l_22.1 l_22.2.1 l_22.2.2 l_23.1 l_23.2.1 l_23.2.2 h297 h298 h299 h301 h302 h303 h305 h306 h307) ((.cons rfl (.cons rfl (.cons rfl (.cons rfl (.cons rfl (.cons rfl (.cons rfl (.cons rfl .nil))))))))) (fun w hh => hh.sel [1, 2, 0] [6, 7, 8, 3, 4, 5, 0, 1, 2, 9, 10, 11] 0 (by decide) (by decide) rfl rfl rfl)
      exact p_nil
     refine p_alt rfl ?_ ?_
     ·refine g_allocV (fun w => Try.zeroValue29 w) rfl (fun b_85 h311 => ?_)
      refine p_next (fun w hh => hh.sel [1, 2] [6, 7, 8] 0 (by decide) (by decide) rfl rfl rfl) ?_
      exact p_shr (h241 b_85 l_21.1 l_21.2.1 l_21.2.2 l_22.1 l_22.2.1 l_22.2.2 h297 h298 h299 h301 h302 h303) ((.cons rfl (.cons rfl (.cons rfl (.cons rfl (.cons rfl (.cons rfl (.cons rfl (.cons rfl .nil))))))))) (fun w hh => hh.sel [1, 2, 0] [3, 4, 5, 0, 1, 2, 6, 7, 8] 0 (by decide) (by decide) rfl rfl rfl)
     refine p_alt rfl ?_ ?_
     ·refine g_allocV (fun w => Try.zeroValue29 w) rfl (fun b_86 h312 => ?_)
      refine p_next (fun w hh => hh.sel [1, 2] [6, 7, 8] 0 (by decide) (by decide) rfl rfl rfl) ?_
      exact p_shr (h228 b_86 l_21.1 l_21.2.1 l_21.2.2 l_22.1 l_22.2.1 l_22.2.2 h297 h298 h299 h301 h302 h303) ((.cons rfl (.cons rfl (.cons rfl (.cons rfl (.cons rfl (.cons rfl (.cons rfl (.cons rfl .nil))))))))) (fun w hh => hh.sel [1, 2, 0] [3, 4, 5, 0, 1, 2, 6, 7, 8] 0 (by decide) (by decide) rfl rfl rfl)
     refine p_alt rfl ?_ ?_
     ·refine g_allocV (fun w => Try.zeroValue29 w) rfl (fun b_87 h313 => ?_)
      refine p_next (fun w hh => hh.sel [1, 2] [6, 7, 8] 0 (by decide) (by decide) rfl rfl rfl) ?_
      exact p_shr (h215 b_87 l_21.1 l_21.2.1 l_21.2.2 l_22.1 l_22.2.1 l_22.2.2 h297 h298 h299 h301 h302 h303) ((.cons rfl (.cons rfl (.cons rfl (.cons rfl (.cons rfl (.cons rfl (.cons rfl (.cons rfl .nil))))))))) (fun w hh => hh.sel [1, 2, 0] [3, 4, 5, 0, 1, 2, 6, 7, 8] 0 (by decide) (by decide) rfl rfl rfl)
     exact p_nil
    refine p_alt rfl ?_ ?_
    ·refine g_allocV (fun w => Try.zeroValue29 w) rfl (fun b_88 h314 => ?_)
     refine p_next (fun w hh => hh.sel [1, 2] [3, 4, 5] 0 (by decide) (by decide) rfl rfl rfl) ?_
     exact p_shr (h289 b_88 l_21.1 l_21.2.1 l_21.2.2 h297 h298 h299) ((.cons rfl (.cons rfl (.cons rfl (.cons rfl (.cons rfl (.cons rfl (.cons rfl (.cons rfl .nil))))))))) (fun w hh => hh.sel [1, 2, 0] [0, 1, 2, 3, 4, 5] 0 (by decide) (by decide) rfl rfl rfl)
    refine p_alt rfl ?_ ?_
    ·refine g_allocV (fun w => Try.zeroValue29 w) rfl (fun b_89 h315 => ?_)
     refine p_next (fun w hh => hh.sel [1, 2] [3, 4, 5] 0 (by decide) (by decide) rfl rfl rfl) ?_
     exact p_shr (h279 b_89 l_21.1 l_21.2.1 l_21.2.2 h297 h298 h299) ((.cons rfl (.cons rfl (.cons rfl (.cons rfl (.cons rfl (.cons rfl (.cons rfl (.cons rfl .nil))))))))) (fun w hh => hh.sel [1, 2, 0] [0, 1, 2, 3, 4, 5] 0 (by decide) (by decide) rfl rfl rfl)
    refine p_alt rfl ?_ ?_
    ·refine g_allocV (fun w => Try.zeroValue29 w) rfl (fun b_90 h316 => ?_)
     refine p_next (fun w hh => hh.sel [1, 2] [3, 4, 5] 0 (by decide) (by decide) rfl rfl rfl) ?_
     exact p_shr (h269 b_90 l_21.1 l_21.2.1 l_21.2.2 h297 h298 h299) ((.cons rfl (.cons rfl (.cons rfl (.cons rfl (.cons rfl (.cons rfl (.cons rfl (.cons rfl .nil))))))))) (fun w hh => hh.sel [1, 2, 0] [0, 1, 2, 3, 4, 5] 0 (by decide) (by decide) rfl rfl rfl)
    exact p_nil
   refine p_alt rfl ?_ ?_
   ·refine g_allocV (fun w => Try.zeroValue29 w) rfl (fun b_91 h317 => ?_)
    refine p_next (fun w hh => hh.sel [1, 2] [0, 1, 2] 0 (by decide) (by decide) rfl rfl rfl) ?_
    refine p_br ?_
    refine p_alt rfl ?_ ?_
    ·refine g_callH [] [] rfl rfl rfl rfl rfl rfl rfl (fun a w => Try.call25 a w) (fun w hh => c_laurellaw01_Own t29.r0 (qA l_1.1.q) l_1.1.n l_1.1.cap (qA l_1.2.1.q) l_1.2.1.n l_1.2.1.cap (qA l_1.2.2.q) l_1.2.2.n l_1.2.2.cap w (HV.callee (S0 := []) (vs0 := []) hh (roC (hh.vsepA (S0 := []) (vs0 := []) 0 rfl h5) (roC (hh.vsepA (S0 := []) (vs0 := []) 1 rfl h6) (roC (hh.vsepA (S0 := []) (vs0 := []) 2 rfl h7) roN)))) (vlen RW h5 rfl) (AOK.q (vne h5)) (h5).hle (vlen RI h6 rfl) (AOK.q (vne h6)) (h6).hle (vlen RS h7 rfl) (AOK.q (vne h7)) (h7).hle h20) (fun l_24 h318 => ?_)
     obtain ⟨h319, h320, h321⟩ := h318
     refine g_sel (S' := [_, _, _]) (vs' := [_, _, _, _, _, _]) [0, 1, 2] [0, 1, 2, 3, 4, 5] 0 (by decide) (by decide) rfl rfl rfl ?_
     refine p_next (fun w hh => hh.sel [1, 2] [3, 4, 5] 0 (by decide) (by decide) rfl rfl rfl) ?_
     exact p_shr (h289 b_91 l_24.1 l_24.2.1 l_24.2.2 h319 h320 h321) ((.cons rfl (.cons rfl (.cons rfl (.cons rfl (.cons rfl (.cons rfl (.cons rfl (.cons rfl .nil))))))))) (fun w hh => hh.sel [1, 2, 0] [0, 1, 2, 3, 4, 5] 0 (by decide) (by decide) rfl rfl rfl)
    refine p_alt rfl ?_ ?_
    ·refine g_allocV (fun w => Try.zeroValue29 w) rfl (fun b_92 h322 => ?_)
     refine p_next (fun w hh => hh.sel [2, 3] [0, 1, 2] 0 (by decide) (by decide) rfl rfl rfl) ?_
     exact p_shr (h260 b_91 b_92) ((.cons rfl (.cons rfl (.cons rfl (.cons rfl (.cons rfl (.cons rfl (.cons rfl (.cons rfl (.cons rfl .nil)))))))))) (fun w hh => hh.sel [2, 3, 1, 0] [0, 1, 2] 0 (by decide) (by decide) rfl rfl rfl)
    refine p_alt rfl ?_ ?_
    ·refine g_allocV (fun w => Try.zeroValue29 w) rfl (fun b_93 h323 => ?_)
     refine p_next (fun w hh => hh.sel [2, 3] [0, 1, 2] 0 (by decide) (by decide) rfl rfl rfl) ?_
     exact p_shr (h254 b_91 b_93) ((.cons rfl (.cons rfl (.cons rfl (.cons rfl (.cons rfl (.cons rfl (.cons rfl (.cons rfl (.cons rfl .nil)))))))))) (fun w hh => hh.sel [2, 3, 1, 0] [0, 1, 2] 0 (by decide) (by decide) rfl rfl rfl)
    exact p_nil
   refine p_alt rfl ?_ ?_
   ·refine g_allocV (fun w => Try.zeroValue29 w) rfl (fun b_94 h324 => ?_)
    refine p_next (fun w hh => hh.sel [1, 2] [0, 1, 2] 0 (by decide) (by decide) rfl rfl rfl) ?_
    refine p_br ?_
    refine p_alt rfl ?_ ?_
    ·refine g_callH [] [] rfl rfl rfl rfl rfl rfl rfl (fun a w => Try.call25 a w) (fun w hh => c_laurellaw01_Own t29.r0 (qA l_1.1.q) l_1.1.n l_1.1.cap (qA l_1.2.1.q) l_1.2.1.n l_1.2.1.cap (qA l_1.2.2.q) l_1.2.2.n l_1.2.2.cap w (HV.callee (S0 := []) (vs0 := []) hh (roC (hh.vsepA (S0 := []) (vs0 := []) 0 rfl h5) (roC (hh.vsepA (S0 := []) (vs0 := []) 1 rfl h6) (roC (hh.vsepA (S0 := []) (vs0 := []) 2 rfl h7) roN)))) (vlen RW h5 rfl) (AOK.q (vne h5)) (h5).hle (vlen RI h6 rfl) (AOK.q (vne h6)) (h6).hle (vlen RS h7 rfl) (AOK.q (vne h7)) (h7).hle h20) (fun l_25 h325 => ?_)
     obtain ⟨h326, h327, h328⟩ := h325
     refine g_sel (S' := [_, _, _]) (vs' := [_, _, _, _, _, _]) [0, 1, 2] [0, 1, 2, 3, 4, 5] 0 (by decide) (by decide) rfl rfl rfl ?_
     refine p_next (fun w hh => hh.sel [1, 2] [3, 4, 5] 0 (by decide) (by decide) rfl rfl rfl) ?_
     exact p_shr (h279 b_94 l_25.1 l_25.2.1 l_25.2.2 h326 h327 h328) ((.cons rfl (.cons rfl (.cons rfl (.cons rfl (.cons rfl (.cons rfl (.cons rfl (.cons rfl .nil))))))))) (fun w hh => hh.sel [1, 2, 0] [0, 1, 2, 3, 4, 5] 0 (by decide) (by decide) rfl rfl rfl)
    refine p_alt rfl ?_ ?_
    ·refine g_allocV (fun w => Try.zeroValue29 w) rfl (fun b_95 h329 => ?_)
     refine p_next (fun w hh => hh.sel [2, 3] [0, 1, 2] 0 (by decide) (by decide) rfl rfl rfl) ?_
     exact p_shr (h260 b_95 b_94) ((.cons rfl (.cons rfl (.cons rfl (.cons rfl (.cons rfl (.cons rfl (.cons rfl (.cons rfl (.cons rfl .nil)))))))))) (fun w hh => hh.sel [2, 3, 0, 1] [0, 1, 2] 0 (by decide) (by decide) rfl rfl rfl)
    refine p_alt rfl ?_ ?_
    ·refine g_allocV (fun w => Try.zeroValue29 w) rfl (fun b_96 h330 => ?_)
     refine p_next (fun w hh => hh.sel [2, 3] [0, 1, 2] 0 (by decide) (by decide) rfl rfl rfl) ?_
     exact p_shr (h248 b_94 b_96) ((.cons rfl (.cons rfl (.cons rfl (.cons rfl (.cons rfl (.cons rfl (.cons rfl (.cons rfl (.cons rfl .nil)))))))))) (fun w hh => hh.sel [2, 3, 1, 0] [0, 1, 2] 0 (by decide) (by decide) rfl rfl rfl)
    exact p_nil
   refine p_alt rfl ?_ ?_
   ·refine g_allocV (fun w => Try.zeroValue29 w) rfl (fun b_97 h331 => ?_)
    refine p_next (fun w hh => hh.sel [1, 2] [0, 1, 2] 0 (by decide) (by decide) rfl rfl rfl) ?_
    refine p_br ?_
    refine p_alt rfl ?_ ?_
    ·refine g_callH [] [] rfl rfl rfl rfl rfl rfl rfl (fun a w => Try.call25 a w) (fun w hh => c_laurellaw01_Own t29.r0 (qA l_1.1.q) l_1.1.n l_1.1.cap (qA l_1.2.1.q) l_1.2.1.n l_1.2.1.cap (qA l_1.2.2.q) l_1.2.2.n l_1.2.2.cap w (HV.callee (S0 := []) (vs0 := []) hh (roC (hh.vsepA (S0 := []) (vs0 := []) 0 rfl h5) (roC (hh.vsepA (S0 := []) (vs0 := []) 1 rfl h6) (roC (hh.vsepA (S0 := []) (vs0 := []) 2 rfl h7) roN)))) (vlen RW h5 rfl) (AOK.q (vne h5)) (h5).hle (vlen RI h6 rfl) (AOK.q (vne h6)) (h6).hle (vlen RS h7 rfl) (AOK.q (vne h7)) (h7).hle h20) (fun l_26 h332 => ?_)
     obtain ⟨h333, h334, h335⟩ := h332
     refine g_sel (S' := [_, _, _]) (vs' := [_, _, _, _, _, _]) [0, 1, 2] [0, 1, 2, 3, 4, 5] 0 (by decide) (by decide) rfl rfl rfl ?_
     refine p_next (fun w hh => hh.sel [1, 2] [3, 4, 5] 0 (by decide) (by decide) rfl rfl rfl) ?_
     exact p_shr (h269 b_97 l_26.1 l_26.2.1 l_26.2.2 h333 h334 h335) ((.cons rfl (.cons rfl (.cons rfl (.cons rfl (.cons rfl (.cons rfl (.cons rfl (.cons rfl .nil))))))))) (fun w hh => hh.sel [1, 2, 0] [0, 1, 2, 3, 4, 5] 0 (by decide) (by decide) rfl rfl rfl)
    refine p_alt rfl ?_ ?_
    ·refine g_allocV (fun w => Try.zeroValue29 w) rfl (fun b_98 h336 => ?_)
     refine p_next (fun w hh => hh.sel [2, 3] [0, 1, 2] 0 (by decide) (by decide) rfl rfl rfl) ?_
     exact p_shr (h254 b_98 b_97) ((.cons rfl (.cons rfl (.cons rfl (.cons rfl (.cons rfl (.cons rfl (.cons rfl (.cons rfl (.cons rfl .nil)))))))))) (fun w hh => hh.sel [2, 3, 0, 1] [0, 1, 2] 0 (by decide) (by decide) rfl rfl rfl)
    refine p_alt rfl ?_ ?_
    ·refine g_allocV (fun w => Try.zeroValue29 w) rfl (fun b_99 h337 => ?_)
     refine p_next (fun w hh => hh.sel [2, 3] [0, 1, 2] 0 (by decide) (by decide) rfl rfl rfl) ?_
     exact p_shr (h248 b_99 b_97) ((.cons rfl (.cons rfl (.cons rfl (.cons rfl (.cons rfl (.cons rfl (.cons rfl (.cons rfl (.cons rfl .nil)))))))))) (fun w hh => hh.sel [2, 3, 0, 1] [0, 1, 2] 0 (by decide) (by decide) rfl rfl rfl)
    exact p_nil
   exact p_nil
  ·intro l_2 hj
   obtain ⟨h11, h12, h13, h14, h15, h16, h17, h18, h19⟩ := hj
   replace hm := h10
   refine g_n_then ?_
   refine g_seq ?_
   obtain ⟨o_1, h338, h339⟩ := bindO hm
   refine g_cut (ι := Unit) (fun l_27 => VOK 3 l_2.2.2.2.2.2.1.n l_2.2.2.2.2.2.1.cap (RS.enc o_1) l_2.2.2.2.2.2.1.sp l_2.2.2.2.2.2.1.q) (fun l_27 => [(1, .int .u8 which1), (2, .int .u8 much2), (3, .int .u8 when3), (10, ptr b 0), (11, ptr l_2.1 0), (12, ptr l_2.2.1 0), (13, ptr l_2.2.2.1 0)]) (fun l_27 => [(b, .cells #[slv l_1.1.q l_1.1.n l_1.1.cap, .int .i64 t29.r0.wind.lo, .int .i64 t29.r0.wind.hi, slv l_1.2.1.q l_1.2.1.n l_1.2.1.cap, slv l_1.2.2.q l_1.2.2.n l_1.2.2.cap] 29 (0, 0)), (l, .cells #[.slice qa0 na0 ca0, .int .i64 t29.b0_1, .int .u32 t29.b0_2] 138 (0, 0)), (l_2.1, .cells #[slv l_2.2.2.2.1.q l_2.2.2.2.1.n l_2.2.2.2.1.cap, .int .i64 o.sill11.wind.lo, .int .i64 o.sill11.wind.hi, slv l_2.2.2.2.2.1.q l_2.2.2.2.2.1.n l_2.2.2.2.2.1.cap, slv l_2.2.2.2.2.2.1.q l_2.2.2.2.2.2.1.n l_2.2.2.2.2.2.1.cap] 29 (0, 0)), (l_2.2.1, .cells #[slv l_2.2.2.2.2.2.2.1.q l_2.2.2.2.2.2.2.1.n l_2.2.2.2.2.2.2.1.cap, .int .i64 o.floor12.wind.lo, .int .i64 o.floor12.wind.hi, slv l_2.2.2.2.2.2.2.2.1.q l_2.2.2.2.2.2.2.2.1.n l_2.2.2.2.2.2.2.2.1.cap, slv l_2.2.2.2.2.2.2.2.2.1.q l_2.2.2.2.2.2.2.2.2.1.n l_2.2.2.2.2.2.2.2.2.1.cap] 29 (0, 0)), (l_2.2.2.1, .cells #[slv l_2.2.2.2.2.2.2.2.2.2.1.q l_2.2.2.2.2.2.2.2.2.2.1.n l_2.2.2.2.2.2.2.2.2.2.1.cap, .int .i64 o.more13.wind.lo, .int .i64 o.more13.wind.hi, slv l_2.2.2.2.2.2.2.2.2.2.2.1.q l_2.2.2.2.2.2.2.2.2.2.2.1.n l_2.2.2.2.2.2.2.2.2.2.2.1.cap, slv l_2.2.2.2.2.2.2.2.2.2.2.2.q l_2.2.2.2.2.2.2.2.2.2.2.2.n l_2.2.2.2.2.2.2.2.2.2.2.2.cap] 29 (0, 0))]) (fun l_27 => [⟨68, RW.enc t29.r0.table, l_1.1.sp, l_1.1.q⟩, ⟨3, RI.enc t29.r0.floors, l_1.2.1.sp, l_1.2.1.q⟩, ⟨51, RS.enc t29.r0.sills, l_1.2.2.sp, l_1.2.2.q⟩, ⟨68, RW.enc o.sill11.table, l_2.2.2.2.1.sp, l_2.2.2.2.1.q⟩, ⟨3, RI.enc o.sill11.floors, l_2.2.2.2.2.1.sp, l_2.2.2.2.2.1.q⟩, ⟨51, RS.enc o_1, l_2.2.2.2.2.2.1.sp, l_2.2.2.2.2.2.1.q⟩, ⟨68, RW.enc o.floor12.table, l_2.2.2.2.2.2.2.1.sp, l_2.2.2.2.2.2.2.1.q⟩, ⟨3, RI.enc o.floor12.floors, l_2.2.2.2.2.2.2.2.1.sp, l_2.2.2.2.2.2.2.2.1.q⟩, ⟨51, RS.enc o.floor12.sills, l_2.2.2.2.2.2.2.2.2.1.sp, l_2.2.2.2.2.2.2.2.2.1.q⟩, ⟨68, RW.enc o.more13.table, l_2.2.2.2.2.2.2.2.2.2.1.sp, l_2.2.2.2.2.2.2.2.2.2.1.q⟩, ⟨3, RI.enc o.more13.floors, l_2.2.2.2.2.2.2.2.2.2.2.1.sp, l_2.2.2.2.2.2.2.2.2.2.2.1.q⟩, ⟨51, RS.enc o.more13.sills, l_2.2.2.2.2.2.2.2.2.2.2.2.sp, l_2.2.2.2.2.2.2.2.2.2.2.2.q⟩]) ?_ ?_
   ·replace hm := h338
    refine g_seq ?_
    refine g_region ?_
    refine g_val rfl rfl rfl (fun w _ => v_fieldAddr 4 (Try.runUnderlying29 w) rfl (Try.sizeOf27 w) rfl) ?_
    refine g_val rfl rfl rfl (fun w hh => v_load (Try.isAgg27 w) rfl (hh.cell 0 rfl rfl)) ?_
    refine g_val rfl rfl rfl (fun w _ => v_lenN (vlen RS h7 rfl) (Try.runUnderlying27 w) rfl) ?_
    refine g_val rfl rfl rfl (fun _ _ => v_gtr rfl rfl) ?_
    refine g_nil ?_
    refine g_n_then ?_
    refine g_cond rfl (fun h341 => ?_) (fun h341 => ?_)
    ·replace hm := ifT (of_decide_eq_true h341) hm
     refine g_draw (some 17) (.free 0 (.hoist 1 (.free 2 (.free 3 (.free 4 (.hoist 5 (.free 6 (.free 7 (.free 8 (.free 9 (.hoist 10 (.free 11 (.free 12 (.free 13 (.free 14 (.free 15 (.free 16 (.last 17 .done)))))))))))))))))) _ rfl (by decide +kernel) (fun w k hh => hh.draw k) (fun w hh => hh) ?_
     refine p_free rfl rfl rfl rfl (fun w _ => v_fieldAddr 4 (Try.runUnderlying29 w) rfl (Try.sizeOf27 w) rfl) ?_
     refine p_hoist rfl rfl rfl rfl (fun w hh => v_load (Try.isAgg27 w) rfl (hh.cell 2 rfl rfl)) ?_
     refine p_free rfl rfl rfl rfl (fun _ _ => v_move rfl) ?_
     refine p_free rfl rfl rfl rfl (fun w _ => v_conv (Try.runUnderlying5 w) (Try.runUnderlying3 w) rfl) ?_
     refine p_free rfl rfl rfl rfl (fun w _ => v_fieldAddr 4 (Try.runUnderlying29 w) rfl (Try.sizeOf27 w) rfl) ?_
     refine p_hoist rfl rfl rfl rfl (fun w hh => v_load (Try.isAgg27 w) rfl (hh.cell 0 rfl rfl)) ?_
     refine p_free rfl rfl rfl rfl (fun w _ => v_lenN (vlen RS h7 rfl) (Try.runUnderlying27 w) rfl) ?_
     obtain ⟨t47, h342, hm⟩ := bindO hm
     refine p_free rfl rfl rfl rfl (fun _ _ => v_remc h342 rfl rfl) ?_
     obtain ⟨t48, h343, hm⟩ := bindO hm
     refine p_free rfl rfl rfl rfl (fun w _ => v_ixA h343 (Try.runUnderlying27 w) (Try.sizeOf51 w) rfl rfl (vlen RS h13 rfl) (vne h13)) ?_
     refine p_free rfl rfl rfl rfl (fun w _ => v_fieldAddr 2 (Try.runUnderlying51 w) rfl (Try.sizeOf3 w) rfl) ?_
     refine p_hoist rfl rfl rfl rfl (fun w hh => v_ldE RS 2 h343 (Try.isAgg3 w) rfl (hh.vseg 5 rfl h13) rfl rfl) ?_
     refine p_free rfl rfl rfl rfl (fun _ _ => v_move rfl) ?_
     refine p_free rfl rfl rfl rfl (fun w _ => v_conv (Try.runUnderlying5 w) (Try.runUnderlying3 w) rfl) ?_
     obtain ⟨t53, h344, hm⟩ := bindO hm
     refine p_free rfl rfl rfl rfl (fun _ _ => v_remc h344 rfl rfl) ?_
     obtain ⟨t54, h345, hm⟩ := bindO hm
     refine p_free rfl rfl rfl rfl (fun _ _ => v_addc h345 rfl rfl) ?_
     obtain ⟨t55, h346, hm⟩ := bindO hm
     refine p_free rfl rfl rfl rfl (fun w _ => v_ixA h346 (Try.runUnderlying27 w) (Try.sizeOf51 w) rfl rfl (vlen RS h13 rfl) (vne h13)) ?_
     refine p_free rfl rfl rfl rfl (fun w _ => v_fieldAddr 2 (Try.runUnderlying51 w) rfl (Try.sizeOf3 w) rfl) ?_
     refine p_last rfl ?_
     obtain ⟨sill11_sills, hsill11_sills, hm⟩ := bindO hm
     refine g_vst RS 5 2 (⟨t55.a, t55.b, t54⟩ : Sill) (fun w => Try.sizeOf3 w) rfl rfl rfl rfl h13 rfl rfl rfl h346 rfl rfl (Option.some.inj hsill11_sills) (fun h347 => ?_)
     refine g_sel (S' := [_, _, _, _, _]) (vs' := [_, _, _, _, _, _, _, _, _, _, _, _]) [0, 1, 2, 3, 4] [0, 1, 2, 3, 4, 5, 6, 7, 8, 9, 10, 11] 0 (by decide) (by decide) rfl rfl rfl ?_
     refine p_nextL ?_
     refine p_done ?_
     obtain rfl := Option.some.inj hm
     exact g_leaf () (h347) ((.cons rfl (.cons rfl (.cons rfl (.cons rfl (.cons rfl (.cons rfl (.cons rfl .nil)))))))) (fun w hh => hh)
    ·replace hm := ifF (of_decide_eq_false h341) hm
     refine g_skip ?_
     obtain rfl := Option.some.inj hm
     exact g_leaf () (h13) ((.cons rfl (.cons rfl (.cons rfl (.cons rfl (.cons rfl (.cons rfl (.cons rfl .nil)))))))) (fun w hh => hh)
   ·intro l_27 hj
    have h340 := hj
    replace hm := h339
    refine g_n_then ?_
    refine g_seq ?_
    refine g_draw (some 15) (.free 0 (.hoist 1 (.free 2 (.free 3 (.free 4 (.hoist 5 (.free 6 (.free 7 (.free 8 (.hoist 9 (.free 10 (.free 11 (.free 12 (.free 13 (.free 14 (.last 15 .done)))))))))))))))) _ rfl (by decide +kernel) (fun w k hh => hh.draw k) (fun w hh => hh) ?_
    refine p_free rfl rfl rfl rfl (fun w _ => v_fieldAddr 3 (Try.runUnderlying29 w) rfl (Try.sizeOf26 w) rfl) ?_
    refine p_hoist rfl rfl rfl rfl (fun w hh => v_load (Try.isAgg26 w) rfl (hh.cell 3 rfl rfl)) ?_
    refine p_free rfl rfl rfl rfl (fun _ _ => v_move rfl) ?_
    refine p_free rfl rfl rfl rfl (fun w _ => v_conv (Try.runUnderlying5 w) (Try.runUnderlying3 w) rfl) ?_
    refine p_free rfl rfl rfl rfl (fun w _ => v_fieldAddr 3 (Try.runUnderlying29 w) rfl (Try.sizeOf26 w) rfl) ?_
    refine p_hoist rfl rfl rfl rfl (fun w hh => v_load (Try.isAgg26 w) rfl (hh.cell 0 rfl rfl)) ?_
    refine p_free rfl rfl rfl rfl (fun w _ => v_lenN (vlen RI h6 rfl) (Try.runUnderlying26 w) rfl) ?_
    obtain ⟨t64, h348, hm⟩ := bindO hm
    refine p_free rfl rfl rfl rfl (fun _ _ => v_remc h348 rfl rfl) ?_
    obtain ⟨t65, h349, hm⟩ := bindO hm
    refine p_free rfl rfl rfl rfl (fun w _ => v_ixA h349 (Try.runUnderlying26 w) (Try.sizeOf3 w) rfl rfl (vlen RI h15 rfl) (vne h15)) ?_
    refine p_hoist rfl rfl rfl rfl (fun w hh => v_ldE RI 0 h349 (Try.isAgg3 w) rfl (hh.vseg 7 rfl h15) rfl (Nat.add_zero _).symm) ?_
    refine p_free rfl rfl rfl rfl (fun _ _ => v_move rfl) ?_
    refine p_free rfl rfl rfl rfl (fun w _ => v_conv (Try.runUnderlying5 w) (Try.runUnderlying3 w) rfl) ?_
    obtain ⟨t69, h350, hm⟩ := bindO hm
    refine p_free rfl rfl rfl rfl (fun _ _ => v_remc h350 rfl rfl) ?_
    obtain ⟨t70, h351, hm⟩ := bindO hm
    refine p_free rfl rfl rfl rfl (fun _ _ => v_addc h351 rfl rfl) ?_
    obtain ⟨t71, h352, hm⟩ := bindO hm
    refine p_free rfl rfl rfl rfl (fun w _ => v_ixA h352 (Try.runUnderlying26 w) (Try.sizeOf3 w) rfl rfl (vlen RI h15 rfl) (vne h15)) ?_
    refine p_last rfl ?_
    obtain ⟨floor12_floors, hfloor12_floors, hm⟩ := bindO hm
    refine g_vst RI 7 0 t70 (fun w => Try.sizeOf3 w) rfl rfl rfl rfl h15 rfl (Nat.add_zero _).symm rfl h352 rfl rfl (Option.some.inj hfloor12_floors) (fun h353 => ?_)
    refine g_sel (S' := [_, _, _, _, _]) (vs' := [_, _, _, _, _, _, _, _, _, _, _, _]) [0, 1, 2, 3, 4] [0, 1, 2, 3, 4, 5, 6, 7, 8, 9, 10, 11] 0 (by decide) (by decide) rfl rfl rfl ?_
    refine p_nextL ?_
    refine p_done ?_
    refine g_n_then ?_
    refine g_seq ?_
    refine g_draw (some 15) (.free 0 (.hoist 1 (.free 2 (.free 3 (.free 4 (.hoist 5 (.free 6 (.free 7 (.free 8 (.free 9 (.free 10 (.free 11 (.one 12 (.one 13 (.free 14 (.last 15 .done)))))))))))))))) (HV _ _ [(b, .cells #[slv l_1.1.q l_1.1.n l_1.1.cap, .int .i64 t29.r0.wind.lo, .int .i64 t29.r0.wind.hi, slv l_1.2.1.q l_1.2.1.n l_1.2.1.cap, slv l_1.2.2.q l_1.2.2.n l_1.2.2.cap] 29 (0, 0)), (l, .cells #[.slice qa0 na0 ca0, .int .i64 t29.b0_1, .int .u32 t29.b0_2] 138 (0, 0)), (l_2.1, .cells #[slv l_2.2.2.2.1.q l_2.2.2.2.1.n l_2.2.2.2.1.cap, .int .i64 o.sill11.wind.lo, .int .i64 o.sill11.wind.hi, slv l_2.2.2.2.2.1.q l_2.2.2.2.2.1.n l_2.2.2.2.2.1.cap, slv l_2.2.2.2.2.2.1.q l_2.2.2.2.2.2.1.n l_2.2.2.2.2.2.1.cap] 29 (0, 0)), (l_2.2.1, .cells #[slv l_2.2.2.2.2.2.2.1.q l_2.2.2.2.2.2.2.1.n l_2.2.2.2.2.2.2.1.cap, .int .i64 o.floor12.wind.lo, .int .i64 o.floor12.wind.hi, slv l_2.2.2.2.2.2.2.2.1.q l_2.2.2.2.2.2.2.2.1.n l_2.2.2.2.2.2.2.2.1.cap, slv l_2.2.2.2.2.2.2.2.2.1.q l_2.2.2.2.2.2.2.2.2.1.n l_2.2.2.2.2.2.2.2.2.1.cap] 29 (0, 0)), (l_2.2.2.1, .cells #[slv l_2.2.2.2.2.2.2.2.2.2.1.q l_2.2.2.2.2.2.2.2.2.2.1.n l_2.2.2.2.2.2.2.2.2.2.1.cap, .int .i64 o.more13.wind.lo, .int .i64 o.more13.wind.hi, slv l_2.2.2.2.2.2.2.2.2.2.2.1.q l_2.2.2.2.2.2.2.2.2.2.2.1.n l_2.2.2.2.2.2.2.2.2.2.2.1.cap, slv l_2.2.2.2.2.2.2.2.2.2.2.2.q l_2.2.2.2.2.2.2.2.2.2.2.2.n l_2.2.2.2.2.2.2.2.2.2.2.2.cap] 29 (0, 0))] [⟨68, RW.enc t29.r0.table, l_1.1.sp, l_1.1.q⟩, ⟨3, RI.enc t29.r0.floors, l_1.2.1.sp, l_1.2.1.q⟩, ⟨51, RS.enc t29.r0.sills, l_1.2.2.sp, l_1.2.2.q⟩, ⟨68, RW.enc o.sill11.table, l_2.2.2.2.1.sp, l_2.2.2.2.1.q⟩, ⟨3, RI.enc o.sill11.floors, l_2.2.2.2.2.1.sp, l_2.2.2.2.2.1.q⟩, ⟨51, RS.enc o_1, l_2.2.2.2.2.2.1.sp, l_2.2.2.2.2.2.1.q⟩, ⟨68, RW.enc o.floor12.table, l_2.2.2.2.2.2.2.1.sp, l_2.2.2.2.2.2.2.1.q⟩, ⟨3, RI.enc floor12_floors, l_2.2.2.2.2.2.2.2.1.sp, l_2.2.2.2.2.2.2.2.1.q⟩, ⟨51, RS.enc o.floor12.sills, l_2.2.2.2.2.2.2.2.2.1.sp, l_2.2.2.2.2.2.2.2.2.1.q⟩, ⟨68, RW.enc o.more13.table, l_2.2.2.2.2.2.2.2.2.2.1.sp, l_2.2.2.2.2.2.2.2.2.2.1.q⟩, ⟨3, RI.enc o.more13.floors, l_2.2.2.2.2.2.2.2.2.2.2.1.sp, l_2.2.2.2.2.2.2.2.2.2.2.1.q⟩] _) rfl (by decide +kernel) (fun w k hh => hh.draw k) (fun w hh => hh.sel [0, 1, 2, 3, 4] [0, 1, 2, 3, 4, 5, 6, 7, 8, 9, 10] 0 (by decide) (by decide) rfl rfl rfl) ?_
    refine p_free rfl rfl rfl rfl (fun w _ => v_fieldAddr 4 (Try.runUnderlying29 w) rfl (Try.sizeOf27 w) rfl) ?_
    refine p_hoist rfl rfl rfl rfl (fun w hh => v_load (Try.isAgg27 w) rfl (hh.cell 4 rfl rfl)) ?_
    refine p_free rfl rfl rfl rfl (fun _ _ => v_move rfl) ?_
    refine p_free rfl rfl rfl rfl (fun w _ => v_conv (Try.runUnderlying5 w) (Try.runUnderlying3 w) rfl) ?_
    refine p_free rfl rfl rfl rfl (fun w _ => v_fieldAddr 3 (Try.runUnderlying29 w) rfl (Try.sizeOf26 w) rfl) ?_
    refine p_hoist rfl rfl rfl rfl (fun w hh => v_load (Try.isAgg26 w) rfl (hh.cell 0 rfl rfl)) ?_
    refine p_free rfl rfl rfl rfl (fun w _ => v_lenN (vlen RI h6 rfl) (Try.runUnderlying26 w) rfl) ?_
    obtain ⟨t79, h354, hm⟩ := bindO hm
    refine p_free rfl rfl rfl rfl (fun _ _ => v_remc h354 rfl rfl) ?_
    refine p_free rfl rfl rfl rfl (fun _ _ => v_move rfl) ?_
    refine p_free rfl rfl rfl rfl (fun w _ => v_conv (Try.runUnderlying5 w) (Try.runUnderlying3 w) rfl) ?_
    obtain ⟨t82, h355, hm⟩ := bindO hm
    refine p_free rfl rfl rfl rfl (fun _ _ => v_remc h355 rfl rfl) ?_
    refine p_free rfl rfl rfl rfl (fun _ _ => v_build (vs := [(0, _), (1, _), (2, _)]) (cells := [_, _, _]) rfl rfl) ?_
    refine p_one rfl ?_
    refine g_vlit RS [(⟨-1, t79, t82⟩ : Sill)] (ps := [(0, _)]) (cells := [_, _, _]) (fun w => Try.runUnderlying27 w) (fun w => Try.sizeOf51 w) (fun w => Try.zeroValue51 w) rfl rfl rfl rfl rfl rfl rfl rfl (fun L_144 h356 => ?_)
    refine p_next (fun w hh => hh.sel [0, 1, 2, 3, 4] [1, 2, 3, 4, 5, 6, 7, 8, 9, 10, 11] 0 (by decide) (by decide) rfl rfl rfl) ?_
    refine p_one rfl ?_
    obtain ⟨t85, h357, hm⟩ := bindO hm
    refine g_vapp RS 12 h357 Try.underlying27 gxinf51 rfl rfl rfl rfl rfl h19 rfl rfl (vlen RS h356 rfl) (AOK.q (vne h356)) (fun w hh => (hh.vsegA 0 rfl h356)) rfl (fun L_145 h358 h358n => ?_)
    refine g_sel (S' := [_, _, _, _, _]) (vs' := [_, _, _, _, _, _, _, _, _, _, _, _, _]) [0, 1, 2, 3, 4] [0, 1, 2, 3, 4, 5, 6, 7, 8, 9, 10, 11, 12] 0 (by decide) (by decide) rfl rfl rfl ?_
    refine p_next (fun w hh => hh.sel [0, 1, 2, 3, 4] [1, 2, 3, 4, 5, 6, 7, 8, 9, 10, 11] 0 (by decide) (by decide) rfl rfl rfl) ?_
    refine p_free rfl rfl rfl rfl (fun w _ => v_fieldAddr 4 (Try.runUnderlying29 w) rfl (Try.sizeOf27 w) rfl) ?_
    refine p_last rfl ?_
    refine g_stS (cs' := #[_, _, _, _, _]) (S' := [_, _, _, _, _]) 4 (fun w => Try.sizeOf27 w) rfl rfl rfl rfl rfl rfl rfl ?_
    refine p_nextL ?_
    refine p_done ?_
    refine g_n_then ?_
    refine g_seq ?_
    refine g_draw none (.hoist 0 (.free 2 (.free 3 (.hoist 4 (.hoist 6 (.one 1 (.one 5 (.one 7 (.free 8 (.free 9 (.free 10 (.free 11 (.free 12 .done))))))))))))) _ rfl (by decide +kernel) (fun w k hh => hh.draw k) (fun w hh => hh) ?_
    refine p_hoist rfl rfl rfl rfl (fun w hh => v_loadAgg (vs := [_, _, _, _, _]) (Try.isAgg29 w) (Try.sizeOf29 w) rfl (hh.cells 0 rfl rfl)) ?_
    refine p_free rfl rfl rfl rfl (fun _ _ => v_move rfl) ?_
    refine p_free rfl rfl rfl rfl (fun w _ => v_conv (Try.runUnderlying5 w) (Try.runUnderlying3 w) rfl) ?_
    refine p_hoist rfl rfl rfl rfl (fun w hh => v_loadAgg (vs := [_, _, _, _, _]) (Try.isAgg29 w) (Try.sizeOf29 w) rfl (hh.cells 0 rfl rfl)) ?_
    refine p_hoist rfl rfl rfl rfl (fun w hh => v_loadAgg (vs := [_, _, _, _, _]) (Try.isAgg29 w) (Try.sizeOf29 w) rfl (hh.cells 0 rfl rfl)) ?_
    refine p_one rfl ?_
    obtain ⟨t88, h359, hm⟩ := bindO hm
    refine g_callH [] [] rfl rfl rfl rfl rfl rfl rfl (fun a w => Try.call26 a w) (fun w hh => c_laurellaw01_first t29.r0 (qA l_1.1.q) l_1.1.n l_1.1.cap (qA l_1.2.1.q) l_1.2.1.n l_1.2.1.cap (qA l_1.2.2.q) l_1.2.2.n l_1.2.2.cap w (HV.callee (S0 := []) (vs0 := []) hh (roC (hh.vsepA (S0 := []) (vs0 := []) 1 rfl h5) (roC (hh.vsepA (S0 := []) (vs0 := []) 2 rfl h6) (roC (hh.vsepA (S0 := []) (vs0 := []) 3 rfl h7) roN)))) (vlen RW h5 rfl) (AOK.q (vne h5)) (h5).hle (vlen RI h6 rfl) (AOK.q (vne h6)) (h6).hle (vlen RS h7 rfl) (AOK.q (vne h7)) (h7).hle h359) (fun l_28 h360 => ?_)
    refine p_next (fun w hh => hh) ?_
    refine p_one rfl ?_
    obtain ⟨t92, h361, hm⟩ := bindO hm
    refine g_callH [] [] rfl rfl rfl rfl rfl rfl rfl (fun a w => Try.call27 a w) (fun w hh => c_laurellaw01_last t29.r0 (qA l_1.1.q) l_1.1.n l_1.1.cap (qA l_1.2.1.q) l_1.2.1.n l_1.2.1.cap (qA l_1.2.2.q) l_1.2.2.n l_1.2.2.cap w (HV.callee (S0 := []) (vs0 := []) hh (roC (hh.vsepA (S0 := []) (vs0 := []) 1 rfl h5) (roC (hh.vsepA (S0 := []) (vs0 := []) 2 rfl h6) (roC (hh.vsepA (S0 := []) (vs0 := []) 3 rfl h7) roN)))) (vlen RW h5 rfl) (AOK.q (vne h5)) (h5).hle (vlen RI h6 rfl) (AOK.q (vne h6)) (h6).hle (vlen RS h7 rfl) (AOK.q (vne h7)) (h7).hle h361) (fun l_29 h362 => ?_)
    refine p_next (fun w hh => hh) ?_
    refine p_one rfl ?_
    obtain ⟨t94, h363, hm⟩ := bindO hm
    refine g_callH [] [] rfl rfl rfl rfl rfl rfl rfl (fun a w => Try.call26 a w) (fun w hh => c_laurellaw01_first t29.r0 (qA l_1.1.q) l_1.1.n l_1.1.cap (qA l_1.2.1.q) l_1.2.1.n l_1.2.1.cap (qA l_1.2.2.q) l_1.2.2.n l_1.2.2.cap w (HV.callee (S0 := []) (vs0 := []) hh (roC (hh.vsepA (S0 := []) (vs0 := []) 1 rfl h5) (roC (hh.vsepA (S0 := []) (vs0 := []) 2 rfl h6) (roC (hh.vsepA (S0 := []) (vs0 := []) 3 rfl h7) roN)))) (vlen RW h5 rfl) (AOK.q (vne h5)) (h5).hle (vlen RI h6 rfl) (AOK.q (vne h6)) (h6).hle (vlen RS h7 rfl) (AOK.q (vne h7)) (h7).hle h363) (fun l_30 h364 => ?_)
    refine p_next (fun w hh => hh) ?_
    obtain ⟨t95, h365, hm⟩ := bindO hm
    refine p_free rfl rfl rfl rfl (fun _ _ => v_subc h365 rfl rfl) ?_
    obtain ⟨t96, h366, hm⟩ := bindO hm
    refine p_free rfl rfl rfl rfl (fun _ _ => v_addc h366 rfl rfl) ?_
    obtain ⟨t97, h367, hm⟩ := bindO hm
    refine p_free rfl rfl rfl rfl (fun _ _ => v_remc h367 rfl rfl) ?_
    obtain ⟨t98, h368, hm⟩ := bindO hm
    refine p_free rfl rfl rfl rfl (fun _ _ => v_addc h368 rfl rfl) ?_
    refine p_free rfl rfl rfl rfl (fun _ _ => v_assign rfl) ?_
    refine p_done ?_
    refine g_n_then ?_
    refine g_seq ?_
    refine g_region ?_
    refine g_val rfl rfl rfl (fun w hh => v_loadAgg (vs := [_, _, _, _, _]) (Try.isAgg29 w) (Try.sizeOf29 w) rfl (hh.cells 0 rfl rfl)) ?_
    refine g_val rfl rfl rfl (fun _ _ => v_move rfl) ?_
    obtain ⟨t102, h369, hm⟩ := bindO hm
    refine g_callN rfl rfl rfl rfl rfl rfl rfl (fun a w => Try.call28 a w) (fun w hh => cx_All t29.r0 t98 l_1.1.q l_1.1.n l_1.1.cap l_1.2.1.q l_1.2.1.n l_1.2.1.cap l_1.2.2.q l_1.2.2.n l_1.2.2.cap w (HV.callee (S0 := []) (vs0 := []) hh (roC (hh.vsep (S0 := []) (vs0 := []) 1 rfl h5) (roC (hh.vsep (S0 := []) (vs0 := []) 2 rfl h6) (roC (hh.vsep (S0 := []) (vs0 := []) 3 rfl h7) roN)))) (vlen RW h5 rfl) (vne h5) (h5).hle (vlen RI h6 rfl) (vne h6) (h6).hle (vlen RS h7 rfl) (vne h7) (h7).hle h369) (fun l_31 h370 => ?_)
    refine g_val rfl rfl rfl (fun _ _ => v_move rfl) ?_
    refine g_val rfl rfl rfl (fun _ _ => v_extract rfl rfl) ?_
    refine g_val rfl rfl rfl (fun _ _ => v_extract rfl rfl) ?_
    refine g_val rfl rfl rfl (fun _ _ => v_assign rfl) ?_
    refine g_val rfl rfl rfl (fun _ _ => v_assign rfl) ?_
    refine g_nil ?_
    refine g_n_then ?_
    refine g_seq ?_
    refine g_seq ?_
    obtain ⟨o_2, h371, h372⟩ := bindO hm
    refine g_cut (ι := Unit) (fun l_32 => True) (fun l_32 => [(10, ptr b 0), (11, ptr l_2.1 0), (12, ptr l_2.2.1 0), (13, ptr l_2.2.2.1 0), (14, .int .i64 t98), (15, slv l_31.1 t102.1.length l_31.2), (114, .bool o_2)]) (fun l_32 => [(b, .cells #[slv l_1.1.q l_1.1.n l_1.1.cap, .int .i64 t29.r0.wind.lo, .int .i64 t29.r0.wind.hi, slv l_1.2.1.q l_1.2.1.n l_1.2.1.cap, slv l_1.2.2.q l_1.2.2.n l_1.2.2.cap] 29 (0, 0)), (l, .cells #[.slice qa0 na0 ca0, .int .i64 t29.b0_1, .int .u32 t29.b0_2] 138 (0, 0)), (l_2.1, .cells #[slv l_2.2.2.2.1.q l_2.2.2.2.1.n l_2.2.2.2.1.cap, .int .i64 o.sill11.wind.lo, .int .i64 o.sill11.wind.hi, slv l_2.2.2.2.2.1.q l_2.2.2.2.2.1.n l_2.2.2.2.2.1.cap, slv l_2.2.2.2.2.2.1.q l_2.2.2.2.2.2.1.n l_2.2.2.2.2.2.1.cap] 29 (0, 0)), (l_2.2.1, .cells #[slv l_2.2.2.2.2.2.2.1.q l_2.2.2.2.2.2.2.1.n l_2.2.2.2.2.2.2.1.cap, .int .i64 o.floor12.wind.lo, .int .i64 o.floor12.wind.hi, slv l_2.2.2.2.2.2.2.2.1.q l_2.2.2.2.2.2.2.2.1.n l_2.2.2.2.2.2.2.2.1.cap, slv l_2.2.2.2.2.2.2.2.2.1.q l_2.2.2.2.2.2.2.2.2.1.n l_2.2.2.2.2.2.2.2.2.1.cap] 29 (0, 0)), (l_2.2.2.1, .cells #[slv l_2.2.2.2.2.2.2.2.2.2.1.q l_2.2.2.2.2.2.2.2.2.2.1.n l_2.2.2.2.2.2.2.2.2.2.1.cap, .int .i64 o.more13.wind.lo, .int .i64 o.more13.wind.hi, slv l_2.2.2.2.2.2.2.2.2.2.2.1.q l_2.2.2.2.2.2.2.2.2.2.2.1.n l_2.2.2.2.2.2.2.2.2.2.2.1.cap, slv L_145.q L_145.n L_145.cap] 29 (0, 0))]) (fun l_32 => [⟨68, RW.enc t29.r0.table, l_1.1.sp, l_1.1.q⟩, ⟨3, RI.enc t29.r0.floors, l_1.2.1.sp, l_1.2.1.q⟩, ⟨51, RS.enc t29.r0.sills, l_1.2.2.sp, l_1.2.2.q⟩, ⟨68, RW.enc o.sill11.table, l_2.2.2.2.1.sp, l_2.2.2.2.1.q⟩, ⟨3, RI.enc o.sill11.floors, l_2.2.2.2.2.1.sp, l_2.2.2.2.2.1.q⟩, ⟨51, RS.enc o_1, l_2.2.2.2.2.2.1.sp, l_2.2.2.2.2.2.1.q⟩, ⟨68, RW.enc o.floor12.table, l_2.2.2.2.2.2.2.1.sp, l_2.2.2.2.2.2.2.1.q⟩, ⟨3, RI.enc floor12_floors, l_2.2.2.2.2.2.2.2.1.sp, l_2.2.2.2.2.2.2.2.1.q⟩, ⟨51, RS.enc o.floor12.sills, l_2.2.2.2.2.2.2.2.2.1.sp, l_2.2.2.2.2.2.2.2.2.1.q⟩, ⟨68, RW.enc o.more13.table, l_2.2.2.2.2.2.2.2.2.2.1.sp, l_2.2.2.2.2.2.2.2.2.2.1.q⟩, ⟨3, RI.enc o.more13.floors, l_2.2.2.2.2.2.2.2.2.2.2.1.sp, l_2.2.2.2.2.2.2.2.2.2.2.1.q⟩, ⟨51, RS.enc t85, L_145.sp, L_145.q⟩]) ?_ ?_
    ·replace hm := h371
     refine g_region ?_
     refine g_val rfl rfl rfl (fun _ _ => v_move rfl) ?_
     refine g_val rfl rfl rfl (fun _ _ => v_neq rfl rfl) ?_
     refine g_val rfl rfl rfl (fun _ _ => v_move rfl) ?_
     refine g_case 107 rfl (fun h373 => ?_) (fun h373 => ?_)
     ·replace hm := ifF (of_ndec_true h373) hm
      refine g_skipG rfl rfl rfl rfl rfl rfl ?_
      refine g_skipG rfl rfl rfl rfl rfl rfl ?_
      refine g_skipG rfl rfl rfl rfl rfl rfl ?_
      refine g_skipG rfl rfl rfl rfl rfl rfl ?_
      refine g_skipG rfl rfl rfl rfl rfl rfl ?_
      refine g_skipG rfl rfl rfl rfl rfl rfl ?_
      refine g_val rfl rfl rfl (fun _ _ => v_pickT rfl rfl) ?_
      refine g_nil ?_
      obtain rfl := Option.some.inj hm
      exact g_leaf () (trivial) ((.cons rfl (.cons rfl (.cons rfl (.cons rfl (.cons rfl (.cons rfl (.cons rfl .nil)))))))) (fun w hh => hh.sel [0, 1, 2, 3, 4] [1, 2, 3, 4, 5, 6, 7, 8, 9, 10, 11, 12] 0 (by decide) (by decide) rfl rfl rfl)
     ·replace hm := ifT (of_ndec_false h373) hm
      refine v_unguard rfl rfl ?_
      refine g_val rfl rfl rfl (fun _ _ => v_move rfl) ?_
      refine v_unguard rfl rfl ?_
      refine g_val rfl rfl rfl (fun w _ => v_lenN rfl (Try.runUnderlying43 w) rfl) ?_
      refine v_unguard rfl rfl ?_
      refine g_val rfl rfl rfl (fun w _ => v_fieldAddr 3 (Try.runUnderlying29 w) rfl (Try.sizeOf26 w) rfl) ?_
      refine v_unguard rfl rfl ?_
      refine g_val rfl rfl rfl (fun w hh => v_load (Try.isAgg26 w) rfl (hh.cell 0 rfl rfl)) ?_
      refine v_unguard rfl rfl ?_
      refine g_val rfl rfl rfl (fun w _ => v_lenN (vlen RI h6 rfl) (Try.runUnderlying26 w) rfl) ?_
      refine v_unguard rfl rfl ?_
      refine g_val rfl rfl rfl (fun _ _ => v_neq rfl rfl) ?_
      refine g_val rfl rfl rfl (fun _ _ => v_pickF rfl rfl) ?_
      refine g_nil ?_
      obtain rfl := Option.some.inj hm
      exact g_leaf () (trivial) ((.cons rfl (.cons rfl (.cons rfl (.cons rfl (.cons rfl (.cons rfl (.cons rfl .nil)))))))) (fun w hh => hh.sel [0, 1, 2, 3, 4] [1, 2, 3, 4, 5, 6, 7, 8, 9, 10, 11, 12] 0 (by decide) (by decide) rfl rfl rfl)
    ·intro l_32 hj
     replace hm := h372
     refine g_n_then ?_
     refine g_cond rfl (fun h374 => ?_) (fun h374 => ?_)
     ·replace hm := ifT (h374) hm
      refine g_seq ?_
      refine g_region ?_
      refine g_val rfl rfl rfl (fun _ _ => v_assign rfl) ?_
      refine g_nil ?_
      refine g_n_then ?_
      refine g_ret ?_
      refine g_r_then ?_
      obtain rfl := Option.some.inj hm
      refine g_done rfl (fun w hh => (.tmp rfl .nil)) (fun w hh => ⟨(), rfl, trivial, hh.sel [] [] 2 (by decide) (by decide) rfl rfl rfl⟩)
     ·replace hm := ifF ((fun hh => Bool.noConfusion ((h374).symm.trans hh))) hm
      refine g_skip ?_
      refine g_n_then ?_
      refine g_seq ?_
      refine g_seq ?_
      refine g_region ?_
      refine g_val rfl rfl rfl (fun w hh => v_loadAgg (vs := [_, _, _, _, _]) (Try.isAgg29 w) (Try.sizeOf29 w) rfl (hh.cells 2 rfl rfl)) ?_
      refine g_val rfl rfl rfl (fun w hh => v_loadAgg (vs := [_, _, _, _, _]) (Try.isAgg29 w) (Try.sizeOf29 w) rfl (hh.cells 3 rfl rfl)) ?_
      refine g_val rfl rfl rfl (fun w hh => v_loadAgg (vs := [_, _, _, _, _]) (Try.isAgg29 w) (Try.sizeOf29 w) rfl (hh.cells 4 rfl rfl)) ?_
      refine g_litS (ps := [(0, _), (1, _), (2, _)]) (cells := [_, _, _, _, _, _, _, _, _, _, _, _, _, _, _]) (fun w => Try.runUnderlying52 w) (fun w => Try.sizeOf29 w) (fun w => Try.zeroValue29 w) rfl rfl rfl rfl rfl (fun b_100 h376 => ?_)
      refine g_val rfl rfl rfl (fun w _ => v_lenS (Try.runUnderlying52 w) rfl) ?_
      refine g_val rfl rfl rfl (fun _ _ => v_move rfl) ?_
      refine g_nil ?_
      refine g_n_then ?_
      refine g_block ?_
      refine g_unr 4 ?_
      refine g_unrS ?_
      refine g_seq ?_
      refine g_region ?_
      refine g_val rfl rfl rfl (fun _ _ => v_lss rfl rfl) ?_
      refine g_nil ?_
      refine g_n_then ?_
      refine g_seq ?_
      refine g_condT rfl rfl ?_
      refine g_skip ?_
      refine g_n_then ?_
      refine g_seq ?_
      refine g_block ?_
      refine g_seq ?_
      refine g_region ?_
      refine g_val rfl rfl rfl (fun _ _ => v_move rfl) ?_
      refine g_val rfl rfl rfl (fun w _ => v_ixS (o := 0) (Try.runUnderlying52 w) (Try.sizeOf29 w) rfl rfl 0 rfl rfl rfl) ?_
      refine g_val rfl rfl rfl (fun w hh => v_loadAgg (vs := [_, _, _, _, _]) (Try.isAgg29 w) (Try.sizeOf29 w) rfl (hh.cells 0 rfl rfl)) ?_
      refine g_allocV (fun w => Try.zeroValue29 w) rfl (fun b_101 h377 => ?_)
      refine g_val rfl rfl rfl (fun _ _ => v_assign rfl) ?_
      refine g_stSA (us := #[_, _, _, _, _]) (cs' := [_, _, _, _, _]) (S' := [_, _, _, _, _, _, _]) 0 (fun w => Try.sizeOf29 w) rfl rfl rfl rfl rfl rfl rfl ?_
      refine g_nil ?_
      refine g_n_then ?_
      refine g_seq ?_
      refine g_region ?_
      refine g_val rfl rfl rfl (fun w hh => v_loadAgg (vs := [_, _, _, _, _]) (Try.isAgg29 w) (Try.sizeOf29 w) rfl (hh.cells 0 rfl rfl)) ?_
      refine g_val rfl rfl rfl (fun _ _ => v_move rfl) ?_
      obtain ⟨t128, h378, hm⟩ := bindO hm
      refine g_callN rfl rfl rfl rfl rfl rfl rfl (fun a w => Try.call28 a w) (fun w hh => cx_All (⟨o.sill11.table, o.sill11.wind, o.sill11.floors, o_1⟩ : Sands) t98 l_2.2.2.2.1.q l_2.2.2.2.1.n l_2.2.2.2.1.cap l_2.2.2.2.2.1.q l_2.2.2.2.2.1.n l_2.2.2.2.2.1.cap l_2.2.2.2.2.2.1.q l_2.2.2.2.2.2.1.n l_2.2.2.2.2.2.1.cap w (HV.callee (S0 := []) (vs0 := []) hh (roC (hh.vsep (S0 := []) (vs0 := []) 3 rfl h11) (roC (hh.vsep (S0 := []) (vs0 := []) 4 rfl h12) (roC (hh.vsep (S0 := []) (vs0 := []) 5 rfl h340) roN)))) (vlen RW h11 rfl) (vne h11) (h11).hle (vlen RI h12 rfl) (vne h12) (h12).hle (vlen RS h340 rfl) (vne h340) (h340).hle h378) (fun l_33 h379 => ?_)
      refine g_val rfl rfl rfl (fun _ _ => v_move rfl) ?_
      refine g_val rfl rfl rfl (fun _ _ => v_extract rfl rfl) ?_
      refine g_val rfl rfl rfl (fun _ _ => v_extract rfl rfl) ?_
      refine g_val rfl rfl rfl (fun _ _ => v_assign rfl) ?_
      refine g_val rfl rfl rfl (fun _ _ => v_assign rfl) ?_
      refine g_nil ?_
      refine g_n_then ?_
      refine g_seq ?_
      refine g_seq ?_
      obtain ⟨o_3, h380, h381⟩ := bindO hm
      refine g_cut (ι := Unit) (fun l_34 => True) (fun l_34 => [(10, ptr b 0), (14, .int .i64 t98), (15, slv l_31.1 t102.1.length l_31.2), (17, .int .i64 0), (18, ptr b_101 0), (19, slv l_33.1 t128.1.length l_33.2), (118, slv (some (b_100, 0)) 3 3), (119, .int .i64 3), (120, .int .i64 0), (139, .bool o_3)]) (fun l_34 => [(b_101, .cells #[slv l_2.2.2.2.1.q l_2.2.2.2.1.n l_2.2.2.2.1.cap, .int .i64 o.sill11.wind.lo, .int .i64 o.sill11.wind.hi, slv l_2.2.2.2.2.1.q l_2.2.2.2.2.1.n l_2.2.2.2.2.1.cap, slv l_2.2.2.2.2.2.1.q l_2.2.2.2.2.2.1.n l_2.2.2.2.2.2.1.cap] 29 (0, 0)), (b_100, .cells #[slv l_2.2.2.2.1.q l_2.2.2.2.1.n l_2.2.2.2.1.cap, .int .i64 o.sill11.wind.lo, .int .i64 o.sill11.wind.hi, slv l_2.2.2.2.2.1.q l_2.2.2.2.2.1.n l_2.2.2.2.2.1.cap, slv l_2.2.2.2.2.2.1.q l_2.2.2.2.2.2.1.n l_2.2.2.2.2.2.1.cap, slv l_2.2.2.2.2.2.2.1.q l_2.2.2.2.2.2.2.1.n l_2.2.2.2.2.2.2.1.cap, .int .i64 o.floor12.wind.lo, .int .i64 o.floor12.wind.hi, slv l_2.2.2.2.2.2.2.2.1.q l_2.2.2.2.2.2.2.2.1.n l_2.2.2.2.2.2.2.2.1.cap, slv l_2.2.2.2.2.2.2.2.2.1.q l_2.2.2.2.2.2.2.2.2.1.n l_2.2.2.2.2.2.2.2.2.1.cap, slv l_2.2.2.2.2.2.2.2.2.2.1.q l_2.2.2.2.2.2.2.2.2.2.1.n l_2.2.2.2.2.2.2.2.2.2.1.cap, .int .i64 o.more13.wind.lo, .int .i64 o.more13.wind.hi, slv l_2.2.2.2.2.2.2.2.2.2.2.1.q l_2.2.2.2.2.2.2.2.2.2.2.1.n l_2.2.2.2.2.2.2.2.2.2.2.1.cap, slv L_145.q L_145.n L_145.cap] 29 (0, 0)), (b, .cells #[slv l_1.1.q l_1.1.n l_1.1.cap, .int .i64 t29.r0.wind.lo, .int .i64 t29.r0.wind.hi, slv l_1.2.1.q l_1.2.1.n l_1.2.1.cap, slv l_1.2.2.q l_1.2.2.n l_1.2.2.cap] 29 (0, 0)), (l, .cells #[.slice qa0 na0 ca0, .int .i64 t29.b0_1, .int .u32 t29.b0_2] 138 (0, 0)), (l_2.1, .cells #[slv l_2.2.2.2.1.q l_2.2.2.2.1.n l_2.2.2.2.1.cap, .int .i64 o.sill11.wind.lo, .int .i64 o.sill11.wind.hi, slv l_2.2.2.2.2.1.q l_2.2.2.2.2.1.n l_2.2.2.2.2.1.cap, slv l_2.2.2.2.2.2.1.q l_2.2.2.2.2.2.1.n l_2.2.2.2.2.2.1.cap] 29 (0, 0)), (l_2.2.1, .cells #[slv l_2.2.2.2.2.2.2.1.q l_2.2.2.2.2.2.2.1.n l_2.2.2.2.2.2.2.1.cap, .int .i64 o.floor12.wind.lo, .int .i64 o.floor12.wind.hi, slv l_2.2.2.2.2.2.2.2.1.q l_2.2.2.2.2.2.2.2.1.n l_2.2.2.2.2.2.2.2.1.cap, slv l_2.2.2.2.2.2.2.2.2.1.q l_2.2.2.2.2.2.2.2.2.1.n l_2.2.2.2.2.2.2.2.2.1.cap] 29 (0, 0)), (l_2.2.2.1, .cells #[slv l_2.2.2.2.2.2.2.2.2.2.1.q l_2.2.2.2.2.2.2.2.2.2.1.n l_2.2.2.2.2.2.2.2.2.2.1.cap, .int .i64 o.more13.wind.lo, .int .i64 o.more13.wind.hi, slv l_2.2.2.2.2.2.2.2.2.2.2.1.q l_2.2.2.2.2.2.2.2.2.2.2.1.n l_2.2.2.2.2.2.2.2.2.2.2.1.cap, slv L_145.q L_145.n L_145.cap] 29 (0, 0))]) (fun l_34 => [⟨68, RW.enc o.sill11.table, l_2.2.2.2.1.sp, l_2.2.2.2.1.q⟩, ⟨3, RI.enc o.sill11.floors, l_2.2.2.2.2.1.sp, l_2.2.2.2.2.1.q⟩, ⟨51, RS.enc o_1, l_2.2.2.2.2.2.1.sp, l_2.2.2.2.2.2.1.q⟩, ⟨68, RW.enc o.floor12.table, l_2.2.2.2.2.2.2.1.sp, l_2.2.2.2.2.2.2.1.q⟩, ⟨3, RI.enc floor12_floors, l_2.2.2.2.2.2.2.2.1.sp, l_2.2.2.2.2.2.2.2.1.q⟩, ⟨51, RS.enc o.floor12.sills, l_2.2.2.2.2.2.2.2.2.1.sp, l_2.2.2.2.2.2.2.2.2.1.q⟩, ⟨68, RW.enc o.more13.table, l_2.2.2.2.2.2.2.2.2.2.1.sp, l_2.2.2.2.2.2.2.2.2.2.1.q⟩, ⟨3, RI.enc o.more13.floors, l_2.2.2.2.2.2.2.2.2.2.2.1.sp, l_2.2.2.2.2.2.2.2.2.2.2.1.q⟩, ⟨51, RS.enc t85, L_145.sp, L_145.q⟩, ⟨68, RW.enc t29.r0.table, l_1.1.sp, l_1.1.q⟩, ⟨3, RI.enc t29.r0.floors, l_1.2.1.sp, l_1.2.1.q⟩, ⟨51, RS.enc t29.r0.sills, l_1.2.2.sp, l_1.2.2.q⟩]) ?_ ?_
      ·replace hm := h380
       refine g_region ?_
       refine g_val rfl rfl rfl (fun _ _ => v_move rfl) ?_
       refine g_val rfl rfl rfl (fun _ _ => v_neq rfl rfl) ?_
       refine g_val rfl rfl rfl (fun _ _ => v_move rfl) ?_
       refine g_case 133 rfl (fun h382 => ?_) (fun h382 => ?_)
       ·replace hm := ifF (of_ndec_true h382) hm
        refine g_skipG rfl rfl rfl rfl rfl rfl ?_
        refine g_skipG rfl rfl rfl rfl rfl rfl ?_
        refine g_skipG rfl rfl rfl rfl rfl rfl ?_
        refine g_skipG rfl rfl rfl rfl rfl rfl ?_
        refine g_skipG rfl rfl rfl rfl rfl rfl ?_
        refine g_val rfl rfl rfl (fun _ _ => v_pickT rfl rfl) ?_
        refine g_nil ?_
        obtain rfl := Option.some.inj hm
        exact g_leaf () (trivial) ((.cons rfl (.cons rfl (.cons rfl (.cons rfl (.cons rfl (.cons rfl (.cons rfl (.cons rfl (.cons rfl (.cons rfl .nil))))))))))) (fun w hh => hh.sel [0, 1, 2, 3, 4, 5, 6] [3, 4, 5, 6, 7, 8, 9, 10, 11, 0, 1, 2] 0 (by decide) (by decide) rfl rfl rfl)
       ·replace hm := ifT (of_ndec_false h382) hm
        refine v_unguard rfl rfl ?_
        refine g_val rfl rfl rfl (fun _ _ => v_move rfl) ?_
        refine v_unguard rfl rfl ?_
        refine g_val rfl rfl rfl (fun w _ => v_lenN rfl (Try.runUnderlying43 w) rfl) ?_
        refine v_unguard rfl rfl ?_
        refine g_val rfl rfl rfl (fun _ _ => v_move rfl) ?_
        refine v_unguard rfl rfl ?_
        refine g_val rfl rfl rfl (fun w _ => v_lenN rfl (Try.runUnderlying43 w) rfl) ?_
        refine v_unguard rfl rfl ?_
        refine g_val rfl rfl rfl (fun _ _ => v_neq rfl rfl) ?_
        refine g_val rfl rfl rfl (fun _ _ => v_pickF rfl rfl) ?_
        refine g_nil ?_
        obtain rfl := Option.some.inj hm
        exact g_leaf () (trivial) ((.cons rfl (.cons rfl (.cons rfl (.cons rfl (.cons rfl (.cons rfl (.cons rfl (.cons rfl (.cons rfl (.cons rfl .nil))))))))))) (fun w hh => hh.sel [0, 1, 2, 3, 4, 5, 6] [3, 4, 5, 6, 7, 8, 9, 10, 11, 0, 1, 2] 0 (by decide) (by decide) rfl rfl rfl)
      ·intro l_34 hj
       replace hm := h381
       refine g_n_then ?_
       refine g_cond rfl (fun h383 => ?_) (fun h383 => ?_)
       ·replace hm := ifT (h383) hm
        refine g_seq ?_
        refine g_region ?_
        refine g_val rfl rfl rfl (fun _ _ => v_assign rfl) ?_
        refine g_nil ?_
        refine g_n_then ?_
        refine g_ret ?_
        refine g_r_then ?_
        refine g_r_blk ?_
        refine g_r_then ?_
        refine g_r_then ?_
        refine g_r_blk ?_
        refine g_r_then ?_
        obtain rfl := Option.some.inj hm
        refine g_done rfl (fun w hh => (.tmp rfl .nil)) (fun w hh => ⟨(), rfl, trivial, hh.sel [] [] 3 (by decide) (by decide) rfl rfl rfl⟩)
       ·replace hm := ifF ((fun hh => Bool.noConfusion ((h383).symm.trans hh))) hm
        refine g_skip ?_
        refine g_n_then ?_
        refine g_seq ?_
        refine g_region ?_
        refine g_val rfl rfl rfl (fun w _ => v_fieldAddr 3 (Try.runUnderlying29 w) rfl (Try.sizeOf26 w) rfl) ?_
        refine g_val rfl rfl rfl (fun w hh => v_load (Try.isAgg26 w) rfl (hh.cell 2 rfl rfl)) ?_
        refine g_val rfl rfl rfl (fun w _ => v_lenN (vlen RI h6 rfl) (Try.runUnderlying26 w) rfl) ?_
        refine g_val rfl rfl rfl (fun _ _ => v_move rfl) ?_
        refine g_nil ?_
        refine g_n_then ?_
        obtain ⟨o_4, h384, h385⟩ := bindO hm
        refine g_cut (ι := Unit) (fun j => o_4 = .inl j) (fun j => [(10, ptr b 0), (14, .int .i64 t98), (15, slv l_31.1 t102.1.length l_31.2), (118, slv (some (b_100, 0)) 3 3), (119, .int .i64 3), (120, .int .i64 0)]) (fun j => [(b_101, .cells #[slv l_2.2.2.2.1.q l_2.2.2.2.1.n l_2.2.2.2.1.cap, .int .i64 o.sill11.wind.lo, .int .i64 o.sill11.wind.hi, slv l_2.2.2.2.2.1.q l_2.2.2.2.2.1.n l_2.2.2.2.2.1.cap, slv l_2.2.2.2.2.2.1.q l_2.2.2.2.2.2.1.n l_2.2.2.2.2.2.1.cap] 29 (0, 0)), (b_100, .cells #[slv l_2.2.2.2.1.q l_2.2.2.2.1.n l_2.2.2.2.1.cap, .int .i64 o.sill11.wind.lo, .int .i64 o.sill11.wind.hi, slv l_2.2.2.2.2.1.q l_2.2.2.2.2.1.n l_2.2.2.2.2.1.cap, slv l_2.2.2.2.2.2.1.q l_2.2.2.2.2.2.1.n l_2.2.2.2.2.2.1.cap, slv l_2.2.2.2.2.2.2.1.q l_2.2.2.2.2.2.2.1.n l_2.2.2.2.2.2.2.1.cap, .int .i64 o.floor12.wind.lo, .int .i64 o.floor12.wind.hi, slv l_2.2.2.2.2.2.2.2.1.q l_2.2.2.2.2.2.2.2.1.n l_2.2.2.2.2.2.2.2.1.cap, slv l_2.2.2.2.2.2.2.2.2.1.q l_2.2.2.2.2.2.2.2.2.1.n l_2.2.2.2.2.2.2.2.2.1.cap, slv l_2.2.2.2.2.2.2.2.2.2.1.q l_2.2.2.2.2.2.2.2.2.2.1.n l_2.2.2.2.2.2.2.2.2.2.1.cap, .int .i64 o.more13.wind.lo, .int .i64 o.more13.wind.hi, slv l_2.2.2.2.2.2.2.2.2.2.2.1.q l_2.2.2.2.2.2.2.2.2.2.2.1.n l_2.2.2.2.2.2.2.2.2.2.2.1.cap, slv L_145.q L_145.n L_145.cap] 29 (0, 0)), (b, .cells #[slv l_1.1.q l_1.1.n l_1.1.cap, .int .i64 t29.r0.wind.lo, .int .i64 t29.r0.wind.hi, slv l_1.2.1.q l_1.2.1.n l_1.2.1.cap, slv l_1.2.2.q l_1.2.2.n l_1.2.2.cap] 29 (0, 0)), (l, .cells #[.slice qa0 na0 ca0, .int .i64 t29.b0_1, .int .u32 t29.b0_2] 138 (0, 0)), (l_2.1, .cells #[slv l_2.2.2.2.1.q l_2.2.2.2.1.n l_2.2.2.2.1.cap, .int .i64 o.sill11.wind.lo, .int .i64 o.sill11.wind.hi, slv l_2.2.2.2.2.1.q l_2.2.2.2.2.1.n l_2.2.2.2.2.1.cap, slv l_2.2.2.2.2.2.1.q l_2.2.2.2.2.2.1.n l_2.2.2.2.2.2.1.cap] 29 (0, 0)), (l_2.2.1, .cells #[slv l_2.2.2.2.2.2.2.1.q l_2.2.2.2.2.2.2.1.n l_2.2.2.2.2.2.2.1.cap, .int .i64 o.floor12.wind.lo, .int .i64 o.floor12.wind.hi, slv l_2.2.2.2.2.2.2.2.1.q l_2.2.2.2.2.2.2.2.1.n l_2.2.2.2.2.2.2.2.1.cap, slv l_2.2.2.2.2.2.2.2.2.1.q l_2.2.2.2.2.2.2.2.2.1.n l_2.2.2.2.2.2.2.2.2.1.cap] 29 (0, 0)), (l_2.2.2.1, .cells #[slv l_2.2.2.2.2.2.2.2.2.2.1.q l_2.2.2.2.2.2.2.2.2.2.1.n l_2.2.2.2.2.2.2.2.2.2.1.cap, .int .i64 o.more13.wind.lo, .int .i64 o.more13.wind.hi, slv l_2.2.2.2.2.2.2.2.2.2.2.1.q l_2.2.2.2.2.2.2.2.2.2.2.1.n l_2.2.2.2.2.2.2.2.2.2.2.1.cap, slv L_145.q L_145.n L_145.cap] 29 (0, 0))]) (fun j => [⟨68, RW.enc o.sill11.table, l_2.2.2.2.1.sp, l_2.2.2.2.1.q⟩, ⟨3, RI.enc o.sill11.floors, l_2.2.2.2.2.1.sp, l_2.2.2.2.2.1.q⟩, ⟨51, RS.enc o_1, l_2.2.2.2.2.2.1.sp, l_2.2.2.2.2.2.1.q⟩, ⟨68, RW.enc o.floor12.table, l_2.2.2.2.2.2.2.1.sp, l_2.2.2.2.2.2.2.1.q⟩, ⟨3, RI.enc floor12_floors, l_2.2.2.2.2.2.2.2.1.sp, l_2.2.2.2.2.2.2.2.1.q⟩, ⟨51, RS.enc o.floor12.sills, l_2.2.2.2.2.2.2.2.2.1.sp, l_2.2.2.2.2.2.2.2.2.1.q⟩, ⟨68, RW.enc o.more13.table, l_2.2.2.2.2.2.2.2.2.2.1.sp, l_2.2.2.2.2.2.2.2.2.2.1.q⟩, ⟨3, RI.enc o.more13.floors, l_2.2.2.2.2.2.2.2.2.2.2.1.sp, l_2.2.2.2.2.2.2.2.2.2.2.1.q⟩, ⟨51, RS.enc t85, L_145.sp, L_145.q⟩, ⟨68, RW.enc t29.r0.table, l_1.1.sp, l_1.1.q⟩, ⟨3, RI.enc t29.r0.floors, l_1.2.1.sp, l_1.2.1.q⟩, ⟨51, RS.enc t29.r0.sills, l_1.2.2.sp, l_1.2.2.q⟩]) ?_ ?_
        ·replace hm := h384
         refine g_block ?_
         refine g_loopF (ι := Unit) hm (fun s l_35 => True) (fun s l_35 => [(10, ptr b 0), (14, .int .i64 t98), (15, slv l_31.1 t102.1.length l_31.2), (17, .int .i64 0), (18, ptr b_101 0), (19, slv l_33.1 t128.1.length l_33.2), (118, slv (some (b_100, 0)) 3 3), (119, .int .i64 3), (120, .int .i64 0), (142, .int .i64 (t29.r0.floors.length : Int)), (143, .int .i64 s)]) (fun s l_35 => [(b_101, .cells #[slv l_2.2.2.2.1.q l_2.2.2.2.1.n l_2.2.2.2.1.cap, .int .i64 o.sill11.wind.lo, .int .i64 o.sill11.wind.hi, slv l_2.2.2.2.2.1.q l_2.2.2.2.2.1.n l_2.2.2.2.2.1.cap, slv l_2.2.2.2.2.2.1.q l_2.2.2.2.2.2.1.n l_2.2.2.2.2.2.1.cap] 29 (0, 0)), (b_100, .cells #[slv l_2.2.2.2.1.q l_2.2.2.2.1.n l_2.2.2.2.1.cap, .int .i64 o.sill11.wind.lo, .int .i64 o.sill11.wind.hi, slv l_2.2.2.2.2.1.q l_2.2.2.2.2.1.n l_2.2.2.2.2.1.cap, slv l_2.2.2.2.2.2.1.q l_2.2.2.2.2.2.1.n l_2.2.2.2.2.2.1.cap, slv l_2.2.2.2.2.2.2.1.q l_2.2.2.2.2.2.2.1.n l_2.2.2.2.2.2.2.1.cap, .int .i64 o.floor12.wind.lo, .int .i64 o.floor12.wind.hi, slv l_2.2.2.2.2.2.2.2.1.q l_2.2.2.2.2.2.2.2.1.n l_2.2.2.2.2.2.2.2.1.cap, slv l_2.2.2.2.2.2.2.2.2.1.q l_2.2.2.2.2.2.2.2.2.1.n l_2.2.2.2.2.2.2.2.2.1.cap, slv l_2.2.2.2.2.2.2.2.2.2.1.q l_2.2.2.2.2.2.2.2.2.2.1.n l_2.2.2.2.2.2.2.2.2.2.1.cap, .int .i64 o.more13.wind.lo, .int .i64 o.more13.wind.hi, slv l_2.2.2.2.2.2.2.2.2.2.2.1.q l_2.2.2.2.2.2.2.2.2.2.2.1.n l_2.2.2.2.2.2.2.2.2.2.2.1.cap, slv L_145.q L_145.n L_145.cap] 29 (0, 0)), (b, .cells #[slv l_1.1.q l_1.1.n l_1.1.cap, .int .i64 t29.r0.wind.lo, .int .i64 t29.r0.wind.hi, slv l_1.2.1.q l_1.2.1.n l_1.2.1.cap, slv l_1.2.2.q l_1.2.2.n l_1.2.2.cap] 29 (0, 0)), (l, .cells #[.slice qa0 na0 ca0, .int .i64 t29.b0_1, .int .u32 t29.b0_2] 138 (0, 0)), (l_2.1, .cells #[slv l_2.2.2.2.1.q l_2.2.2.2.1.n l_2.2.2.2.1.cap, .int .i64 o.sill11.wind.lo, .int .i64 o.sill11.wind.hi, slv l_2.2.2.2.2.1.q l_2.2.2.2.2.1.n l_2.2.2.2.2.1.cap, slv l_2.2.2.2.2.2.1.q l_2.2.2.2.2.2.1.n l_2.2.2.2.2.2.1.cap] 29 (0, 0)), (l_2.2.1, .cells #[slv l_2.2.2.2.2.2.2.1.q l_2.2.2.2.2.2.2.1.n l_2.2.2.2.2.2.2.1.cap, .int .i64 o.floor12.wind.lo, .int .i64 o.floor12.wind.hi, slv l_2.2.2.2.2.2.2.2.1.q l_2.2.2.2.2.2.2.2.1.n l_2.2.2.2.2.2.2.2.1.cap, slv l_2.2.2.2.2.2.2.2.2.1.q l_2.2.2.2.2.2.2.2.2.1.n l_2.2.2.2.2.2.2.2.2.1.cap] 29 (0, 0)), (l_2.2.2.1, .cells #[slv l_2.2.2.2.2.2.2.2.2.2.1.q l_2.2.2.2.2.2.2.2.2.2.1.n l_2.2.2.2.2.2.2.2.2.2.1.cap, .int .i64 o.more13.wind.lo, .int .i64 o.more13.wind.hi, slv l_2.2.2.2.2.2.2.2.2.2.2.1.q l_2.2.2.2.2.2.2.2.2.2.2.1.n l_2.2.2.2.2.2.2.2.2.2.2.1.cap, slv L_145.q L_145.n L_145.cap] 29 (0, 0))]) (fun s l_35 => [⟨68, RW.enc o.sill11.table, l_2.2.2.2.1.sp, l_2.2.2.2.1.q⟩, ⟨3, RI.enc o.sill11.floors, l_2.2.2.2.2.1.sp, l_2.2.2.2.2.1.q⟩, ⟨51, RS.enc o_1, l_2.2.2.2.2.2.1.sp, l_2.2.2.2.2.2.1.q⟩, ⟨68, RW.enc o.floor12.table, l_2.2.2.2.2.2.2.1.sp, l_2.2.2.2.2.2.2.1.q⟩, ⟨3, RI.enc floor12_floors, l_2.2.2.2.2.2.2.2.1.sp, l_2.2.2.2.2.2.2.2.1.q⟩, ⟨51, RS.enc o.floor12.sills, l_2.2.2.2.2.2.2.2.2.1.sp, l_2.2.2.2.2.2.2.2.2.1.q⟩, ⟨68, RW.enc o.more13.table, l_2.2.2.2.2.2.2.2.2.2.1.sp, l_2.2.2.2.2.2.2.2.2.2.1.q⟩, ⟨3, RI.enc o.more13.floors, l_2.2.2.2.2.2.2.2.2.2.2.1.sp, l_2.2.2.2.2.2.2.2.2.2.2.1.q⟩, ⟨51, RS.enc t85, L_145.sp, L_145.q⟩, ⟨68, RW.enc t29.r0.table, l_1.1.sp, l_1.1.q⟩, ⟨3, RI.enc t29.r0.floors, l_1.2.1.sp, l_1.2.1.q⟩, ⟨51, RS.enc t29.r0.sills, l_1.2.2.sp, l_1.2.2.q⟩]) () (trivial) ((.cons rfl (.cons rfl (.cons rfl (.cons rfl (.cons rfl (.cons rfl (.cons rfl (.cons rfl (.cons rfl (.cons rfl (.cons rfl .nil)))))))))))) (fun w hh => hh) (fun s l_35 r hpl hm h386 => ?_)
         unfold m_laurellaw01_TideHigher_L0 at hm
         refine g_seq ?_
         refine g_region ?_
         refine g_val rfl rfl rfl (fun _ _ => v_lss rfl rfl) ?_
         refine g_nil ?_
         refine g_n_then ?_
         refine g_seq ?_
         refine g_cond rfl (fun h387 => ?_) (fun h387 => ?_)
         ·replace hm := ifT (of_decide_eq_true h387) hm
          refine g_skip ?_
          refine g_n_then ?_
          refine g_seq ?_
          refine g_block ?_
          refine g_seq ?_
          refine g_region ?_
          refine g_val rfl rfl rfl (fun _ _ => v_move rfl) ?_
          refine g_val rfl rfl rfl (fun _ _ => v_assign rfl) ?_
          refine g_nil ?_
          refine g_n_then ?_
          refine g_seq ?_
          refine g_region ?_
          refine g_val rfl rfl rfl (fun w hh => v_loadAgg (vs := [_, _, _, _, _]) (Try.isAgg29 w) (Try.sizeOf29 w) rfl (hh.cells 2 rfl rfl)) ?_
          refine g_val rfl rfl rfl (fun _ _ => v_move rfl) ?_
          obtain ⟨t149, h388, hm⟩ := bindO hm
          refine g_callH [] [] rfl rfl rfl rfl rfl rfl rfl (fun a w => Try.call31 a w) (fun w hh => cx_Gate t29.r0 s l_1.1.q l_1.1.n l_1.1.cap l_1.2.1.q l_1.2.1.n l_1.2.1.cap l_1.2.2.q l_1.2.2.n l_1.2.2.cap w (HV.callee (S0 := []) (vs0 := []) hh (roC (hh.vsep (S0 := []) (vs0 := []) 9 rfl h5) (roC (hh.vsep (S0 := []) (vs0 := []) 10 rfl h6) (roC (hh.vsep (S0 := []) (vs0 := []) 11 rfl h7) roN)))) (vlen RW h5 rfl) (vne h5) (h5).hle (vlen RI h6 rfl) (vne h6) (h6).hle (vlen RS h7 rfl) (vne h7) (h7).hle h388) (fun l_36 h389 => ?_)
          refine g_val rfl rfl rfl (fun _ _ => v_move rfl) ?_
          refine g_val rfl rfl rfl (fun _ _ => v_extract rfl rfl) ?_
          refine g_val rfl rfl rfl (fun _ _ => v_extract rfl rfl) ?_
          refine g_val rfl rfl rfl (fun _ _ => v_assign rfl) ?_
          refine g_val rfl rfl rfl (fun _ _ => v_assign rfl) ?_
          refine g_nil ?_
          refine g_n_then ?_
          refine g_seq ?_
          refine g_region ?_
          refine g_val rfl rfl rfl (fun w hh => v_loadAgg (vs := [_, _, _, _, _]) (Try.isAgg29 w) (Try.sizeOf29 w) rfl (hh.cells 0 rfl rfl)) ?_
          refine g_val rfl rfl rfl (fun _ _ => v_move rfl) ?_
          obtain ⟨t155, h390, hm⟩ := bindO hm
          refine g_callH [] [] rfl rfl rfl rfl rfl rfl rfl (fun a w => Try.call31 a w) (fun w hh => cx_Gate (⟨o.sill11.table, o.sill11.wind, o.sill11.floors, o_1⟩ : Sands) s l_2.2.2.2.1.q l_2.2.2.2.1.n l_2.2.2.2.1.cap l_2.2.2.2.2.1.q l_2.2.2.2.2.1.n l_2.2.2.2.2.1.cap l_2.2.2.2.2.2.1.q l_2.2.2.2.2.2.1.n l_2.2.2.2.2.2.1.cap w (HV.callee (S0 := []) (vs0 := []) hh (roC (hh.vsep (S0 := []) (vs0 := []) 0 rfl h11) (roC (hh.vsep (S0 := []) (vs0 := []) 1 rfl h12) (roC (hh.vsep (S0 := []) (vs0 := []) 2 rfl h340) roN)))) (vlen RW h11 rfl) (vne h11) (h11).hle (vlen RI h12 rfl) (vne h12) (h12).hle (vlen RS h340 rfl) (vne h340) (h340).hle h390) (fun l_37 h391 => ?_)
          refine g_val rfl rfl rfl (fun _ _ => v_move rfl) ?_
          refine g_val rfl rfl rfl (fun _ _ => v_extract rfl rfl) ?_
          refine g_val rfl rfl rfl (fun _ _ => v_extract rfl rfl) ?_
          refine g_val rfl rfl rfl (fun _ _ => v_assign rfl) ?_
          refine g_val rfl rfl rfl (fun _ _ => v_assign rfl) ?_
          refine g_nil ?_
          refine g_n_then ?_
          refine g_seq ?_
          obtain ⟨o_5, h392, h393⟩ := bindO hm
          refine g_cut (ι := Unit) (fun l_38 => True) (fun l_38 => [(10, ptr b 0), (14, .int .i64 t98), (15, slv l_31.1 t102.1.length l_31.2), (17, .int .i64 0), (18, ptr b_101 0), (19, slv l_33.1 t128.1.length l_33.2), (118, slv (some (b_100, 0)) 3 3), (119, .int .i64 3), (120, .int .i64 0), (142, .int .i64 (t29.r0.floors.length : Int)), (143, .int .i64 s), (212, .bool o_5)]) (fun l_38 => [(b_101, .cells #[slv l_2.2.2.2.1.q l_2.2.2.2.1.n l_2.2.2.2.1.cap, .int .i64 o.sill11.wind.lo, .int .i64 o.sill11.wind.hi, slv l_2.2.2.2.2.1.q l_2.2.2.2.2.1.n l_2.2.2.2.2.1.cap, slv l_2.2.2.2.2.2.1.q l_2.2.2.2.2.2.1.n l_2.2.2.2.2.2.1.cap] 29 (0, 0)), (b_100, .cells #[slv l_2.2.2.2.1.q l_2.2.2.2.1.n l_2.2.2.2.1.cap, .int .i64 o.sill11.wind.lo, .int .i64 o.sill11.wind.hi, slv l_2.2.2.2.2.1.q l_2.2.2.2.2.1.n l_2.2.2.2.2.1.cap, slv l_2.2.2.2.2.2.1.q l_2.2.2.2.2.2.1.n l_2.2.2.2.2.2.1.cap, slv l_2.2.2.2.2.2.2.1.q l_2.2.2.2.2.2.2.1.n l_2.2.2.2.2.2.2.1.cap, .int .i64 o.floor12.wind.lo, .int .i64 o.floor12.wind.hi, slv l_2.2.2.2.2.2.2.2.1.q l_2.2.2.2.2.2.2.2.1.n l_2.2.2.2.2.2.2.2.1.cap, slv l_2.2.2.2.2.2.2.2.2.1.q l_2.2.2.2.2.2.2.2.2.1.n l_2.2.2.2.2.2.2.2.2.1.cap, slv l_2.2.2.2.2.2.2.2.2.2.1.q l_2.2.2.2.2.2.2.2.2.2.1.n l_2.2.2.2.2.2.2.2.2.2.1.cap, .int .i64 o.more13.wind.lo, .int .i64 o.more13.wind.hi, slv l_2.2.2.2.2.2.2.2.2.2.2.1.q l_2.2.2.2.2.2.2.2.2.2.2.1.n l_2.2.2.2.2.2.2.2.2.2.2.1.cap, slv L_145.q L_145.n L_145.cap] 29 (0, 0)), (b, .cells #[slv l_1.1.q l_1.1.n l_1.1.cap, .int .i64 t29.r0.wind.lo, .int .i64 t29.r0.wind.hi, slv l_1.2.1.q l_1.2.1.n l_1.2.1.cap, slv l_1.2.2.q l_1.2.2.n l_1.2.2.cap] 29 (0, 0)), (l, .cells #[.slice qa0 na0 ca0, .int .i64 t29.b0_1, .int .u32 t29.b0_2] 138 (0, 0)), (l_2.1, .cells #[slv l_2.2.2.2.1.q l_2.2.2.2.1.n l_2.2.2.2.1.cap, .int .i64 o.sill11.wind.lo, .int .i64 o.sill11.wind.hi, slv l_2.2.2.2.2.1.q l_2.2.2.2.2.1.n l_2.2.2.2.2.1.cap, slv l_2.2.2.2.2.2.1.q l_2.2.2.2.2.2.1.n l_2.2.2.2.2.2.1.cap] 29 (0, 0)), (l_2.2.1, .cells #[slv l_2.2.2.2.2.2.2.1.q l_2.2.2.2.2.2.2.1.n l_2.2.2.2.2.2.2.1.cap, .int .i64 o.floor12.wind.lo, .int .i64 o.floor12.wind.hi, slv l_2.2.2.2.2.2.2.2.1.q l_2.2.2.2.2.2.2.2.1.n l_2.2.2.2.2.2.2.2.1.cap, slv l_2.2.2.2.2.2.2.2.2.1.q l_2.2.2.2.2.2.2.2.2.1.n l_2.2.2.2.2.2.2.2.2.1.cap] 29 (0, 0)), (l_2.2.2.1, .cells #[slv l_2.2.2.2.2.2.2.2.2.2.1.q l_2.2.2.2.2.2.2.2.2.2.1.n l_2.2.2.2.2.2.2.2.2.2.1.cap, .int .i64 o.more13.wind.lo, .int .i64 o.more13.wind.hi, slv l_2.2.2.2.2.2.2.2.2.2.2.1.q l_2.2.2.2.2.2.2.2.2.2.2.1.n l_2.2.2.2.2.2.2.2.2.2.2.1.cap, slv L_145.q L_145.n L_145.cap] 29 (0, 0))]) (fun l_38 => [⟨68, RW.enc o.sill11.table, l_2.2.2.2.1.sp, l_2.2.2.2.1.q⟩, ⟨3, RI.enc o.sill11.floors, l_2.2.2.2.2.1.sp, l_2.2.2.2.2.1.q⟩, ⟨51, RS.enc o_1, l_2.2.2.2.2.2.1.sp, l_2.2.2.2.2.2.1.q⟩, ⟨68, RW.enc o.floor12.table, l_2.2.2.2.2.2.2.1.sp, l_2.2.2.2.2.2.2.1.q⟩, ⟨3, RI.enc floor12_floors, l_2.2.2.2.2.2.2.2.1.sp, l_2.2.2.2.2.2.2.2.1.q⟩, ⟨51, RS.enc o.floor12.sills, l_2.2.2.2.2.2.2.2.2.1.sp, l_2.2.2.2.2.2.2.2.2.1.q⟩, ⟨68, RW.enc o.more13.table, l_2.2.2.2.2.2.2.2.2.2.1.sp, l_2.2.2.2.2.2.2.2.2.2.1.q⟩, ⟨3, RI.enc o.more13.floors, l_2.2.2.2.2.2.2.2.2.2.2.1.sp, l_2.2.2.2.2.2.2.2.2.2.2.1.q⟩, ⟨51, RS.enc t85, L_145.sp, L_145.q⟩, ⟨68, RW.enc t29.r0.table, l_1.1.sp, l_1.1.q⟩, ⟨3, RI.enc t29.r0.floors, l_1.2.1.sp, l_1.2.1.q⟩, ⟨51, RS.enc t29.r0.sills, l_1.2.2.sp, l_1.2.2.q⟩]) ?_ ?_
          ·replace hm := h392
           refine g_draw none (.free 0 (.free 1 (.free 2 (.free 3 (.free 4 (.free 5 (.free 6 (.free 7 (.free 8 (.free 9 (.free 10 (.free 11 (.free 12 (.free 13 (.free 14 (.free 15 (.free 16 (.free 17 (.free 18 (.hoist 19 (.free 20 (.free 21 (.free 22 (.hoist 23 (.free 24 (.free 25 (.free 26 (.free 27 (.free 28 (.free 29 (.free 30 (.free 31 (.free 32 (.free 33 (.free 34 (.free 35 (.free 36 (.free 37 (.free 38 (.free 39 (.free 40 (.free 41 (.free 42 (.free 43 (.free 44 (.free 45 (.hoist 46 (.free 47 (.free 48 (.free 49 (.hoist 50 (.free 51 (.free 52 (.free 53 (.free 54 .done))))))))))))))))))))))))))))))))))))))))))))))))))))))) _ rfl (by decide +kernel) (fun w k hh => hh.draw k) (fun w hh => hh) ?_
           refine p_free rfl rfl rfl rfl (fun _ _ => v_move rfl) ?_
           refine p_free rfl rfl rfl rfl (fun _ _ => v_lss rfl rfl) ?_
           refine p_free rfl rfl rfl rfl (fun _ _ => v_move rfl) ?_
           refine p_freeG rfl rfl rfl rfl rfl rfl (fun _ _ => v_move rfl) ?_
           refine p_freeG rfl rfl rfl rfl rfl rfl (fun _ _ => v_move rfl) ?_
           refine p_freeG rfl rfl rfl rfl rfl rfl (fun _ _ => v_neq rfl rfl) ?_
           refine p_freeG rfl rfl rfl rfl rfl rfl (fun _ _ => v_move rfl) ?_
           refine g_case 164 rfl (fun h394 => ?_) (fun h394 => ?_)
           ·replace hm := ifF (of_ndec_true h394) hm
            refine p_skipF rfl rfl rfl rfl rfl rfl rfl ?_
            refine p_skipF rfl rfl rfl rfl rfl rfl rfl ?_
            refine p_skipF rfl rfl rfl rfl rfl rfl rfl ?_
            refine p_skipUF_ rfl rfl rfl rfl rfl rfl ?_
            refine p_skipUF_ rfl rfl rfl rfl rfl rfl ?_
            refine p_skipUF_ rfl rfl rfl rfl rfl rfl ?_
            refine p_skipF rfl rfl rfl rfl rfl rfl rfl ?_
            refine p_freeG rfl rfl rfl rfl rfl rfl (fun _ _ => v_pickT rfl rfl) ?_
            refine p_freeG rfl rfl rfl rfl rfl rfl (fun _ _ => v_move rfl) ?_
            refine p_skipF rfl rfl rfl rfl rfl rfl rfl ?_
            refine p_skipF rfl rfl rfl rfl rfl rfl rfl ?_
            refine p_skipF rfl rfl rfl rfl rfl rfl rfl ?_
            refine p_skip rfl rfl rfl rfl rfl rfl rfl ?_
            refine p_skipF rfl rfl rfl rfl rfl rfl rfl ?_
            refine p_skipF rfl rfl rfl rfl rfl rfl rfl ?_
            refine p_skipF rfl rfl rfl rfl rfl rfl rfl ?_
            refine p_skip rfl rfl rfl rfl rfl rfl rfl ?_
            refine p_skipF rfl rfl rfl rfl rfl rfl rfl ?_
            refine p_freeG rfl rfl rfl rfl rfl rfl (fun _ _ => v_pickT rfl rfl) ?_
            refine p_free rfl rfl rfl rfl (fun _ _ => v_pickT rfl rfl) ?_
            refine p_free rfl rfl rfl rfl (fun _ _ => v_move rfl) ?_
            refine p_skipF rfl rfl rfl rfl rfl rfl rfl ?_
            refine p_skipF rfl rfl rfl rfl rfl rfl rfl ?_
            refine p_skipF rfl rfl rfl rfl rfl rfl rfl ?_
            refine p_skipUF_ rfl rfl rfl rfl rfl rfl ?_
            refine p_skipUF_ rfl rfl rfl rfl rfl rfl ?_
            refine p_skipUF_ rfl rfl rfl rfl rfl rfl ?_
            refine p_skipUF_ rfl rfl rfl rfl rfl rfl ?_
            refine p_skipUF_ rfl rfl rfl rfl rfl rfl ?_
            refine p_skipUF_ rfl rfl rfl rfl rfl rfl ?_
            refine p_skipUF_ rfl rfl rfl rfl rfl rfl ?_
            refine p_skipUF_ rfl rfl rfl rfl rfl rfl ?_
            refine p_skipUF_ rfl rfl rfl rfl rfl rfl ?_
            refine p_skipUF_ rfl rfl rfl rfl rfl rfl ?_
            refine p_skipUF_ rfl rfl rfl rfl rfl rfl ?_
            refine p_skipUF_ rfl rfl rfl rfl rfl rfl ?_
            refine p_skipUF_ rfl rfl rfl rfl rfl rfl ?_
            refine p_skipUF_ rfl rfl rfl rfl rfl rfl ?_
            refine p_skipUF_ rfl rfl rfl rfl rfl rfl ?_
            refine p_skipU_ rfl rfl rfl rfl rfl rfl ?_
            refine p_skipUF_ rfl rfl rfl rfl rfl rfl ?_
            refine p_skipUF_ rfl rfl rfl rfl rfl rfl ?_
            refine p_skipUF_ rfl rfl rfl rfl rfl rfl ?_
            refine p_skipU_ rfl rfl rfl rfl rfl rfl ?_
            refine p_skipUF_ rfl rfl rfl rfl rfl rfl ?_
            refine p_skipUF_ rfl rfl rfl rfl rfl rfl ?_
            refine p_skipF rfl rfl rfl rfl rfl rfl rfl ?_
            refine p_free rfl rfl rfl rfl (fun _ _ => v_pickT rfl rfl) ?_
            refine p_done ?_
            obtain rfl := Option.some.inj hm
            exact g_leaf () (trivial) ((.cons rfl (.cons rfl (.cons rfl (.cons rfl (.cons rfl (.cons rfl (.cons rfl (.cons rfl (.cons rfl (.cons rfl (.cons rfl (.cons rfl .nil))))))))))))) (fun w hh => hh)
           ·replace hm := ifT (of_ndec_false h394) hm
            refine p_freeG rfl rfl rfl rfl rfl rfl (fun _ _ => v_move rfl) ?_
            refine p_freeG rfl rfl rfl rfl rfl rfl (fun _ _ => v_eql rfl rfl) ?_
            refine p_freeG rfl rfl rfl rfl rfl rfl (fun _ _ => v_move rfl) ?_
            refine g_case 167 rfl (fun h395 => ?_) (fun h395 => ?_)
            ·replace hm := ifT (of_decide_eq_true h395) hm
             refine p_freeG rfl rfl rfl rfl rfl rfl (fun _ _ => v_move rfl) ?_
             refine p_freeG rfl rfl rfl rfl rfl rfl (fun _ _ => v_move rfl) ?_
             refine p_freeG rfl rfl rfl rfl rfl rfl (fun _ _ => v_lss rfl rfl) ?_
             refine p_freeG rfl rfl rfl rfl rfl rfl (fun _ _ => v_pickT rfl rfl) ?_
             refine p_freeG rfl rfl rfl rfl rfl rfl (fun _ _ => v_pickF rfl rfl) ?_
             refine p_freeG rfl rfl rfl rfl rfl rfl (fun _ _ => v_move rfl) ?_
             refine g_case 173 rfl (fun h396 => ?_) (fun h396 => ?_)
             ·replace hm := ifT (of_decide_eq_true h396) hm
              refine p_skipF rfl rfl rfl rfl rfl rfl rfl ?_
              refine p_skipF rfl rfl rfl rfl rfl rfl rfl ?_
              refine p_skipF rfl rfl rfl rfl rfl rfl rfl ?_
              refine p_skip rfl rfl rfl rfl rfl rfl rfl ?_
              refine p_skipF rfl rfl rfl rfl rfl rfl rfl ?_
              refine p_skipF rfl rfl rfl rfl rfl rfl rfl ?_
              refine p_skipF rfl rfl rfl rfl rfl rfl rfl ?_
              refine p_skip rfl rfl rfl rfl rfl rfl rfl ?_
              refine p_skipF rfl rfl rfl rfl rfl rfl rfl ?_
              refine p_freeG rfl rfl rfl rfl rfl rfl (fun _ _ => v_pickT rfl rfl) ?_
              refine p_free rfl rfl rfl rfl (fun _ _ => v_pickT rfl rfl) ?_
              refine p_free rfl rfl rfl rfl (fun _ _ => v_move rfl) ?_
              refine p_skipF rfl rfl rfl rfl rfl rfl rfl ?_
              refine p_skipF rfl rfl rfl rfl rfl rfl rfl ?_
              refine p_skipF rfl rfl rfl rfl rfl rfl rfl ?_
              refine p_skipUF_ rfl rfl rfl rfl rfl rfl ?_
              refine p_skipUF_ rfl rfl rfl rfl rfl rfl ?_
              refine p_skipUF_ rfl rfl rfl rfl rfl rfl ?_
              refine p_skipUF_ rfl rfl rfl rfl rfl rfl ?_
              refine p_skipUF_ rfl rfl rfl rfl rfl rfl ?_
              refine p_skipUF_ rfl rfl rfl rfl rfl rfl ?_
              refine p_skipUF_ rfl rfl rfl rfl rfl rfl ?_
              refine p_skipUF_ rfl rfl rfl rfl rfl rfl ?_
              refine p_skipUF_ rfl rfl rfl rfl rfl rfl ?_
              refine p_skipUF_ rfl rfl rfl rfl rfl rfl ?_
              refine p_skipUF_ rfl rfl rfl rfl rfl rfl ?_
              refine p_skipUF_ rfl rfl rfl rfl rfl rfl ?_
              refine p_skipUF_ rfl rfl rfl rfl rfl rfl ?_
              refine p_skipUF_ rfl rfl rfl rfl rfl rfl ?_
              refine p_skipUF_ rfl rfl rfl rfl rfl rfl ?_
              refine p_skipU_ rfl rfl rfl rfl rfl rfl ?_
              refine p_skipUF_ rfl rfl rfl rfl rfl rfl ?_
              refine p_skipUF_ rfl rfl rfl rfl rfl rfl ?_
              refine p_skipUF_ rfl rfl rfl rfl rfl rfl ?_
              refine p_skipU_ rfl rfl rfl rfl rfl rfl ?_
              refine p_skipUF_ rfl rfl rfl rfl rfl rfl ?_
              refine p_skipUF_ rfl rfl rfl rfl rfl rfl ?_
              refine p_skipF rfl rfl rfl rfl rfl rfl rfl ?_
              refine p_free rfl rfl rfl rfl (fun _ _ => v_pickT rfl rfl) ?_
              refine p_done ?_
              obtain rfl := Option.some.inj hm
              exact g_leaf () (trivial) ((.cons rfl (.cons rfl (.cons rfl (.cons rfl (.cons rfl (.cons rfl (.cons rfl (.cons rfl (.cons rfl (.cons rfl (.cons rfl (.cons rfl .nil))))))))))))) (fun w hh => hh)
             ·replace hm := ifF (of_decide_eq_false h396) hm
              refine p_freeG rfl rfl rfl rfl rfl rfl (fun _ _ => v_move rfl) ?_
              refine p_freeG rfl rfl rfl rfl rfl rfl (fun _ _ => v_move rfl) ?_
              obtain ⟨t176, h397, hm⟩ := bindO hm
              refine p_freeG rfl rfl rfl rfl rfl rfl (fun w _ => v_ixA h397 (Try.runUnderlying43 w) (Try.sizeOf46 w) rfl rfl rfl h379.ne) ?_
              refine p_hoistG rfl rfl rfl rfl rfl rfl (fun w hh => v_ldE RI 0 h397 (Try.isAgg46 w) rfl (hh.seg 0 rfl) rfl (Nat.add_zero _).symm) ?_
              refine p_freeG rfl rfl rfl rfl rfl rfl (fun _ _ => v_move rfl) ?_
              refine p_freeG rfl rfl rfl rfl rfl rfl (fun _ _ => v_move rfl) ?_
              obtain ⟨t180, h398, hm⟩ := bindO hm
              refine p_freeG rfl rfl rfl rfl rfl rfl (fun w _ => v_ixA h398 (Try.runUnderlying43 w) (Try.sizeOf46 w) rfl rfl rfl h370.ne) ?_
              refine p_hoistG rfl rfl rfl rfl rfl rfl (fun w hh => v_ldE RI 0 h398 (Try.isAgg46 w) rfl (hh.seg 1 rfl) rfl (Nat.add_zero _).symm) ?_
              refine p_freeG rfl rfl rfl rfl rfl rfl (fun _ _ => v_gtr rfl rfl) ?_
              refine p_freeG rfl rfl rfl rfl rfl rfl (fun _ _ => v_pickF rfl rfl) ?_
              refine p_free rfl rfl rfl rfl (fun _ _ => v_pickT rfl rfl) ?_
              refine p_free rfl rfl rfl rfl (fun _ _ => v_move rfl) ?_
              refine g_case 185 rfl (fun h399 => ?_) (fun h399 => ?_)
              ·replace hm := ifT (of_decide_eq_true h399) hm
               refine p_skipF rfl rfl rfl rfl rfl rfl rfl ?_
               refine p_skipF rfl rfl rfl rfl rfl rfl rfl ?_
               refine p_skipF rfl rfl rfl rfl rfl rfl rfl ?_
               refine p_skipUF_ rfl rfl rfl rfl rfl rfl ?_
               refine p_skipUF_ rfl rfl rfl rfl rfl rfl ?_
               refine p_skipUF_ rfl rfl rfl rfl rfl rfl ?_
               refine p_skipUF_ rfl rfl rfl rfl rfl rfl ?_
               refine p_skipUF_ rfl rfl rfl rfl rfl rfl ?_
               refine p_skipUF_ rfl rfl rfl rfl rfl rfl ?_
               refine p_skipUF_ rfl rfl rfl rfl rfl rfl ?_
               refine p_skipUF_ rfl rfl rfl rfl rfl rfl ?_
               refine p_skipUF_ rfl rfl rfl rfl rfl rfl ?_
               refine p_skipUF_ rfl rfl rfl rfl rfl rfl ?_
               refine p_skipUF_ rfl rfl rfl rfl rfl rfl ?_
               refine p_skipUF_ rfl rfl rfl rfl rfl rfl ?_
               refine p_skipUF_ rfl rfl rfl rfl rfl rfl ?_
               refine p_skipUF_ rfl rfl rfl rfl rfl rfl ?_
               refine p_skipUF_ rfl rfl rfl rfl rfl rfl ?_
               refine p_skipU_ rfl rfl rfl rfl rfl rfl ?_
               refine p_skipUF_ rfl rfl rfl rfl rfl rfl ?_
               refine p_skipUF_ rfl rfl rfl rfl rfl rfl ?_
               refine p_skipUF_ rfl rfl rfl rfl rfl rfl ?_
               refine p_skipU_ rfl rfl rfl rfl rfl rfl ?_
               refine p_skipUF_ rfl rfl rfl rfl rfl rfl ?_
               refine p_skipUF_ rfl rfl rfl rfl rfl rfl ?_
               refine p_skipF rfl rfl rfl rfl rfl rfl rfl ?_
               refine p_free rfl rfl rfl rfl (fun _ _ => v_pickT rfl rfl) ?_
               refine p_done ?_
               obtain rfl := Option.some.inj hm
               exact g_leaf () (trivial) ((.cons rfl (.cons rfl (.cons rfl (.cons rfl (.cons rfl (.cons rfl (.cons rfl (.cons rfl (.cons rfl (.cons rfl (.cons rfl (.cons rfl .nil))))))))))))) (fun w hh => hh)
              ·replace hm := ifF (of_decide_eq_false h399) hm
               refine p_freeG rfl rfl rfl rfl rfl rfl (fun _ _ => v_move rfl) ?_
               refine p_freeG rfl rfl rfl rfl rfl rfl (fun _ _ => v_eql rfl rfl) ?_
               refine p_freeG rfl rfl rfl rfl rfl rfl (fun _ _ => v_move rfl) ?_
               refine p_skipF rfl rfl rfl rfl rfl rfl rfl ?_
               refine p_skipF rfl rfl rfl rfl rfl rfl rfl ?_
               refine p_skipF rfl rfl rfl rfl rfl rfl rfl ?_
               refine p_skipUF_ rfl rfl rfl rfl rfl rfl ?_
               refine p_skipUF_ rfl rfl rfl rfl rfl rfl ?_
               refine p_skipUF_ rfl rfl rfl rfl rfl rfl ?_
               refine p_skipUF_ rfl rfl rfl rfl rfl rfl ?_
               refine p_skipUF_ rfl rfl rfl rfl rfl rfl ?_
               refine p_skipUF_ rfl rfl rfl rfl rfl rfl ?_
               refine p_skipUF_ rfl rfl rfl rfl rfl rfl ?_
               refine p_skipF rfl rfl rfl rfl rfl rfl rfl ?_
               refine p_skipF rfl rfl rfl rfl rfl rfl rfl ?_
               refine p_skipUF_ rfl rfl rfl rfl rfl rfl ?_
               refine p_skipUF_ rfl rfl rfl rfl rfl rfl ?_
               refine p_skipUF_ rfl rfl rfl rfl rfl rfl ?_
               refine p_skipU_ rfl rfl rfl rfl rfl rfl ?_
               refine p_skipUF_ rfl rfl rfl rfl rfl rfl ?_
               refine p_skipUF_ rfl rfl rfl rfl rfl rfl ?_
               refine p_skipUF_ rfl rfl rfl rfl rfl rfl ?_
               refine p_skipU_ rfl rfl rfl rfl rfl rfl ?_
               refine p_skipUF_ rfl rfl rfl rfl rfl rfl ?_
               refine p_skipF rfl rfl rfl rfl rfl rfl rfl ?_
               refine p_freeG rfl rfl rfl rfl rfl rfl (fun _ _ => v_pickF rfl rfl) ?_
               refine p_free rfl rfl rfl rfl (fun _ _ => v_pickF rfl rfl) ?_
               refine p_done ?_
               obtain rfl := Option.some.inj hm
               exact g_leaf () (trivial) ((.cons rfl (.cons rfl (.cons rfl (.cons rfl (.cons rfl (.cons rfl (.cons rfl (.cons rfl (.cons rfl (.cons rfl (.cons rfl (.cons rfl .nil))))))))))))) (fun w hh => hh)
            ·replace hm := ifF (of_decide_eq_false h395) hm
             refine p_skipF rfl rfl rfl rfl rfl rfl rfl ?_
             refine p_skipF rfl rfl rfl rfl rfl rfl rfl ?_
             refine p_skipF rfl rfl rfl rfl rfl rfl rfl ?_
             refine p_freeG rfl rfl rfl rfl rfl rfl (fun _ _ => v_pickF rfl rfl) ?_
             refine p_freeG rfl rfl rfl rfl rfl rfl (fun _ _ => v_pickF rfl rfl) ?_
             refine p_freeG rfl rfl rfl rfl rfl rfl (fun _ _ => v_move rfl) ?_
             refine p_freeG rfl rfl rfl rfl rfl rfl (fun _ _ => v_move rfl) ?_
             refine p_freeG rfl rfl rfl rfl rfl rfl (fun _ _ => v_move rfl) ?_
             obtain ⟨t176_1, h400, hm⟩ := bindO hm
             refine p_freeG rfl rfl rfl rfl rfl rfl (fun w _ => v_ixA h400 (Try.runUnderlying43 w) (Try.sizeOf46 w) rfl rfl rfl h379.ne) ?_
             refine p_hoistG rfl rfl rfl rfl rfl rfl (fun w hh => v_ldE RI 0 h400 (Try.isAgg46 w) rfl (hh.seg 0 rfl) rfl (Nat.add_zero _).symm) ?_
             refine p_freeG rfl rfl rfl rfl rfl rfl (fun _ _ => v_move rfl) ?_
             refine p_freeG rfl rfl rfl rfl rfl rfl (fun _ _ => v_move rfl) ?_
             obtain ⟨t180_1, h401, hm⟩ := bindO hm
             refine p_freeG rfl rfl rfl rfl rfl rfl (fun w _ => v_ixA h401 (Try.runUnderlying43 w) (Try.sizeOf46 w) rfl rfl rfl h370.ne) ?_
             refine p_hoistG rfl rfl rfl rfl rfl rfl (fun w hh => v_ldE RI 0 h401 (Try.isAgg46 w) rfl (hh.seg 1 rfl) rfl (Nat.add_zero _).symm) ?_
             refine p_freeG rfl rfl rfl rfl rfl rfl (fun _ _ => v_gtr rfl rfl) ?_
             refine p_freeG rfl rfl rfl rfl rfl rfl (fun _ _ => v_pickF rfl rfl) ?_
             refine p_free rfl rfl rfl rfl (fun _ _ => v_pickT rfl rfl) ?_
             refine p_free rfl rfl rfl rfl (fun _ _ => v_move rfl) ?_
             refine g_case 185 rfl (fun h402 => ?_) (fun h402 => ?_)
             ·replace hm := ifT (of_decide_eq_true h402) hm
              refine p_skipF rfl rfl rfl rfl rfl rfl rfl ?_
              refine p_skipF rfl rfl rfl rfl rfl rfl rfl ?_
              refine p_skipF rfl rfl rfl rfl rfl rfl rfl ?_
              refine p_skipUF_ rfl rfl rfl rfl rfl rfl ?_
              refine p_skipUF_ rfl rfl rfl rfl rfl rfl ?_
              refine p_skipUF_ rfl rfl rfl rfl rfl rfl ?_
              refine p_skipUF_ rfl rfl rfl rfl rfl rfl ?_
              refine p_skipUF_ rfl rfl rfl rfl rfl rfl ?_
              refine p_skipUF_ rfl rfl rfl rfl rfl rfl ?_
              refine p_skipUF_ rfl rfl rfl rfl rfl rfl ?_
              refine p_skipUF_ rfl rfl rfl rfl rfl rfl ?_
              refine p_skipUF_ rfl rfl rfl rfl rfl rfl ?_
              refine p_skipUF_ rfl rfl rfl rfl rfl rfl ?_
              refine p_skipUF_ rfl rfl rfl rfl rfl rfl ?_
              refine p_skipUF_ rfl rfl rfl rfl rfl rfl ?_
              refine p_skipUF_ rfl rfl rfl rfl rfl rfl ?_
              refine p_skipUF_ rfl rfl rfl rfl rfl rfl ?_
              refine p_skipUF_ rfl rfl rfl rfl rfl rfl ?_
              refine p_skipU_ rfl rfl rfl rfl rfl rfl ?_
              refine p_skipUF_ rfl rfl rfl rfl rfl rfl ?_
              refine p_skipUF_ rfl rfl rfl rfl rfl rfl ?_
              refine p_skipUF_ rfl rfl rfl rfl rfl rfl ?_
              refine p_skipU_ rfl rfl rfl rfl rfl rfl ?_
              refine p_skipUF_ rfl rfl rfl rfl rfl rfl ?_
              refine p_skipUF_ rfl rfl rfl rfl rfl rfl ?_
              refine p_skipF rfl rfl rfl rfl rfl rfl rfl ?_
              refine p_free rfl rfl rfl rfl (fun _ _ => v_pickT rfl rfl) ?_
              refine p_done ?_
              obtain rfl := Option.some.inj hm
              exact g_leaf () (trivial) ((.cons rfl (.cons rfl (.cons rfl (.cons rfl (.cons rfl (.cons rfl (.cons rfl (.cons rfl (.cons rfl (.cons rfl (.cons rfl (.cons rfl .nil))))))))))))) (fun w hh => hh)
             ·replace hm := ifF (of_decide_eq_false h402) hm
              refine p_freeG rfl rfl rfl rfl rfl rfl (fun _ _ => v_move rfl) ?_
              refine p_freeG rfl rfl rfl rfl rfl rfl (fun _ _ => v_eql rfl rfl) ?_
              refine p_freeG rfl rfl rfl rfl rfl rfl (fun _ _ => v_move rfl) ?_
              refine p_skipF rfl rfl rfl rfl rfl rfl rfl ?_
              refine p_skipF rfl rfl rfl rfl rfl rfl rfl ?_
              refine p_skipF rfl rfl rfl rfl rfl rfl rfl ?_
              refine p_skipUF_ rfl rfl rfl rfl rfl rfl ?_
              refine p_skipUF_ rfl rfl rfl rfl rfl rfl ?_
              refine p_skipUF_ rfl rfl rfl rfl rfl rfl ?_
              refine p_skipUF_ rfl rfl rfl rfl rfl rfl ?_
              refine p_skipUF_ rfl rfl rfl rfl rfl rfl ?_
              refine p_skipUF_ rfl rfl rfl rfl rfl rfl ?_
              refine p_skipUF_ rfl rfl rfl rfl rfl rfl ?_
              refine p_skipF rfl rfl rfl rfl rfl rfl rfl ?_
              refine p_skipF rfl rfl rfl rfl rfl rfl rfl ?_
              refine p_skipUF_ rfl rfl rfl rfl rfl rfl ?_
              refine p_skipUF_ rfl rfl rfl rfl rfl rfl ?_
              refine p_skipUF_ rfl rfl rfl rfl rfl rfl ?_
              refine p_skipU_ rfl rfl rfl rfl rfl rfl ?_
              refine p_skipUF_ rfl rfl rfl rfl rfl rfl ?_
              refine p_skipUF_ rfl rfl rfl rfl rfl rfl ?_
              refine p_skipUF_ rfl rfl rfl rfl rfl rfl ?_
              refine p_skipU_ rfl rfl rfl rfl rfl rfl ?_
              refine p_skipUF_ rfl rfl rfl rfl rfl rfl ?_
              refine p_skipF rfl rfl rfl rfl rfl rfl rfl ?_
              refine p_freeG rfl rfl rfl rfl rfl rfl (fun _ _ => v_pickF rfl rfl) ?_
              refine p_free rfl rfl rfl rfl (fun _ _ => v_pickF rfl rfl) ?_
              refine p_done ?_
              obtain rfl := Option.some.inj hm
              exact g_leaf () (trivial) ((.cons rfl (.cons rfl (.cons rfl (.cons rfl (.cons rfl (.cons rfl (.cons rfl (.cons rfl (.cons rfl (.cons rfl (.cons rfl (.cons rfl .nil))))))))))))) (fun w hh => hh)
          ·intro l_38 hj
           replace hm := h393
           refine g_n_then ?_
           refine g_cond rfl (fun h403 => ?_) (fun h403 => ?_)
           ·replace hm := ifT (h403) hm
            refine g_seq ?_
            refine g_region ?_
            refine g_val rfl rfl rfl (fun _ _ => v_assign rfl) ?_
            refine g_nil ?_
            refine g_n_then ?_
            refine g_ret ?_
            refine g_r_blk ?_
            refine g_r_then ?_
            refine g_r_then ?_
            refine g_r_blk ?_
            obtain rfl := Option.some.inj hm
            have hbo := h386 _ rfl
            subst hbo
            refine g_r_then ?_
            replace hm := ocR h385
            refine g_r_blk ?_
            refine g_r_then ?_
            refine g_r_then ?_
            refine g_r_blk ?_
            refine g_r_then ?_
            obtain rfl := Option.some.inj hm
            refine g_done rfl (fun w hh => (.tmp rfl .nil)) (fun w hh => ⟨(), rfl, trivial, hh.sel [] [] 3 (by decide) (by decide) rfl rfl rfl⟩)
           ·replace hm := ifF ((fun hh => Bool.noConfusion ((h403).symm.trans hh))) hm
            refine g_skip ?_
            refine g_n_blk ?_
            refine g_n_then ?_
            refine g_region ?_
            obtain ⟨t213, h404, hm⟩ := bindO hm
            refine g_val rfl rfl rfl (fun _ _ => v_addc h404 rfl rfl) ?_
            refine g_val rfl rfl rfl (fun _ _ => v_move rfl) ?_
            refine g_nil ?_
            obtain rfl := Option.some.inj hm
            refine g_n_then ?_
            exact g_again' _ () rfl (trivial) ((.cons rfl (.cons rfl (.cons rfl (.cons rfl (.cons rfl (.cons rfl (.cons rfl (.cons rfl (.cons rfl (.cons rfl (.cons rfl .nil)))))))))))) (fun w hh => hh)
         ·replace hm := ifF (of_decide_eq_false h387) hm
          refine g_exit ?_
          refine g_x_then ?_
          refine g_x_then ?_
          refine g_x_blk ?_
          obtain rfl := Option.some.inj hm
          have hbo := h386 _ rfl
          subst hbo
          exact g_leaf () (rfl) ((.cons rfl (.cons rfl (.cons rfl (.cons rfl (.cons rfl (.cons rfl .nil))))))) (fun w hh => hh)
        ·intro j hj
         have h405 := hj
         subst h405
         replace hm := ocL h385
         refine g_n_blk ?_
         refine g_n_then ?_
         refine g_region ?_
         refine g_val rfl rfl rfl (fun _ _ => v_addc (show addc 0 1 = some 1 from rfl) rfl rfl) ?_
         refine g_val rfl rfl rfl (fun _ _ => v_move rfl) ?_
         refine g_nil ?_
         refine g_n_then ?_
         refine g_unrS ?_
         refine g_seq ?_
         refine g_region ?_
         refine g_val rfl rfl rfl (fun _ _ => v_lss rfl rfl) ?_
         refine g_nil ?_
         refine g_n_then ?_
         refine g_seq ?_
         refine g_condT rfl rfl ?_
         refine g_skip ?_
         refine g_n_then ?_
         refine g_seq ?_
         refine g_block ?_
         refine g_seq ?_
         refine g_region ?_
         refine g_val rfl rfl rfl (fun _ _ => v_move rfl) ?_
         refine g_val rfl rfl rfl (fun w _ => v_ixS (o := 5) (Try.runUnderlying52 w) (Try.sizeOf29 w) rfl rfl 1 rfl rfl rfl) ?_
         refine g_val rfl rfl rfl (fun w hh => v_loadAgg (vs := [_, _, _, _, _]) (Try.isAgg29 w) (Try.sizeOf29 w) rfl (hh.cells 1 rfl rfl)) ?_
         refine g_allocV (fun w => Try.zeroValue29 w) rfl (fun b_102 h406 => ?_)
         refine g_val rfl rfl rfl (fun _ _ => v_assign rfl) ?_
         refine g_stSA (us := #[_, _, _, _, _]) (cs' := [_, _, _, _, _]) (S' := [_, _, _, _, _, _, _, _]) 0 (fun w => Try.sizeOf29 w) rfl rfl rfl rfl rfl rfl rfl ?_
         refine g_nil ?_
         refine g_n_then ?_
         refine g_seq ?_
         refine g_region ?_
         refine g_val rfl rfl rfl (fun w hh => v_loadAgg (vs := [_, _, _, _, _]) (Try.isAgg29 w) (Try.sizeOf29 w) rfl (hh.cells 0 rfl rfl)) ?_
         refine g_val rfl rfl rfl (fun _ _ => v_move rfl) ?_
         obtain ⟨t128_1, h407, hm⟩ := bindO hm
         refine g_callN rfl rfl rfl rfl rfl rfl rfl (fun a w => Try.call28 a w) (fun w hh => cx_All (⟨o.floor12.table, o.floor12.wind, floor12_floors, o.floor12.sills⟩ : Sands) t98 l_2.2.2.2.2.2.2.1.q l_2.2.2.2.2.2.2.1.n l_2.2.2.2.2.2.2.1.cap l_2.2.2.2.2.2.2.2.1.q l_2.2.2.2.2.2.2.2.1.n l_2.2.2.2.2.2.2.2.1.cap l_2.2.2.2.2.2.2.2.2.1.q l_2.2.2.2.2.2.2.2.2.1.n l_2.2.2.2.2.2.2.2.2.1.cap w (HV.callee (S0 := []) (vs0 := []) hh (roC (hh.vsep (S0 := []) (vs0 := []) 3 rfl h14) (roC (hh.vsep (S0 := []) (vs0 := []) 4 rfl h353) (roC (hh.vsep (S0 := []) (vs0 := []) 5 rfl h16) roN)))) (vlen RW h14 rfl) (vne h14) (h14).hle (vlen RI h353 rfl) (vne h353) (h353).hle (vlen RS h16 rfl) (vne h16) (h16).hle h407) (fun l_39 h408 => ?_)
         refine g_val rfl rfl rfl (fun _ _ => v_move rfl) ?_
         refine g_val rfl rfl rfl (fun _ _ => v_extract rfl rfl) ?_
         refine g_val rfl rfl rfl (fun _ _ => v_extract rfl rfl) ?_
         refine g_val rfl rfl rfl (fun _ _ => v_assign rfl) ?_
         refine g_val rfl rfl rfl (fun _ _ => v_assign rfl) ?_
         refine g_nil ?_
         refine g_n_then ?_
         refine g_seq ?_
         refine g_seq ?_
         obtain ⟨o_6, h409, h410⟩ := bindO hm
         refine g_cut (ι := Unit) (fun l_40 => True) (fun l_40 => [(10, ptr b 0), (14, .int .i64 t98), (15, slv l_31.1 t102.1.length l_31.2), (17, .int .i64 1), (18, ptr b_102 0), (19, slv l_39.1 t128_1.1.length l_39.2), (118, slv (some (b_100, 0)) 3 3), (119, .int .i64 3), (120, .int .i64 1), (139, .bool o_6)]) (fun l_40 => [(b_102, .cells #[slv l_2.2.2.2.2.2.2.1.q l_2.2.2.2.2.2.2.1.n l_2.2.2.2.2.2.2.1.cap, .int .i64 o.floor12.wind.lo, .int .i64 o.floor12.wind.hi, slv l_2.2.2.2.2.2.2.2.1.q l_2.2.2.2.2.2.2.2.1.n l_2.2.2.2.2.2.2.2.1.cap, slv l_2.2.2.2.2.2.2.2.2.1.q l_2.2.2.2.2.2.2.2.2.1.n l_2.2.2.2.2.2.2.2.2.1.cap] 29 (0, 0)), (b_101, .cells #[slv l_2.2.2.2.1.q l_2.2.2.2.1.n l_2.2.2.2.1.cap, .int .i64 o.sill11.wind.lo, .int .i64 o.sill11.wind.hi, slv l_2.2.2.2.2.1.q l_2.2.2.2.2.1.n l_2.2.2.2.2.1.cap, slv l_2.2.2.2.2.2.1.q l_2.2.2.2.2.2.1.n l_2.2.2.2.2.2.1.cap] 29 (0, 0)), (b_100, .cells #[slv l_2.2.2.2.1.q l_2.2.2.2.1.n l_2.2.2.2.1.cap, .int .i64 o.sill11.wind.lo, .int .i64 o.sill11.wind.hi, slv l_2.2.2.2.2.1.q l_2.2.2.2.2.1.n l_2.2.2.2.2.1.cap, slv l_2.2.2.2.2.2.1.q l_2.2.2.2.2.2.1.n l_2.2.2.2.2.2.1.cap, slv l_2.2.2.2.2.2.2.1.q l_2.2.2.2.2.2.2.1.n l_2.2.2.2.2.2.2.1.cap, .int .i64 o.floor12.wind.lo, .int .i64 o.floor12.wind.hi, slv l_2.2.2.2.2.2.2.2.1.q l_2.2.2.2.2.2.2.2.1.n l_2.2.2.2.2.2.2.2.1.cap, slv l_2.2.2.2.2.2.2.2.2.1.q l_2.2.2.2.2.2.2.2.2.1.n l_2.2.2.2.2.2.2.2.2.1.cap, slv l_2.2.2.2.2.2.2.2.2.2.1.q l_2.2.2.2.2.2.2.2.2.2.1.n l_2.2.2.2.2.2.2.2.2.2.1.cap, .int .i64 o.more13.wind.lo, .int .i64 o.more13.wind.hi, slv l_2.2.2.2.2.2.2.2.2.2.2.1.q l_2.2.2.2.2.2.2.2.2.2.2.1.n l_2.2.2.2.2.2.2.2.2.2.2.1.cap, slv L_145.q L_145.n L_145.cap] 29 (0, 0)), (b, .cells #[slv l_1.1.q l_1.1.n l_1.1.cap, .int .i64 t29.r0.wind.lo, .int .i64 t29.r0.wind.hi, slv l_1.2.1.q l_1.2.1.n l_1.2.1.cap, slv l_1.2.2.q l_1.2.2.n l_1.2.2.cap] 29 (0, 0)), (l, .cells #[.slice qa0 na0 ca0, .int .i64 t29.b0_1, .int .u32 t29.b0_2] 138 (0, 0)), (l_2.1, .cells #[slv l_2.2.2.2.1.q l_2.2.2.2.1.n l_2.2.2.2.1.cap, .int .i64 o.sill11.wind.lo, .int .i64 o.sill11.wind.hi, slv l_2.2.2.2.2.1.q l_2.2.2.2.2.1.n l_2.2.2.2.2.1.cap, slv l_2.2.2.2.2.2.1.q l_2.2.2.2.2.2.1.n l_2.2.2.2.2.2.1.cap] 29 (0, 0)), (l_2.2.1, .cells #[slv l_2.2.2.2.2.2.2.1.q l_2.2.2.2.2.2.2.1.n l_2.2.2.2.2.2.2.1.cap, .int .i64 o.floor12.wind.lo, .int .i64 o.floor12.wind.hi, slv l_2.2.2.2.2.2.2.2.1.q l_2.2.2.2.2.2.2.2.1.n l_2.2.2.2.2.2.2.2.1.cap, slv l_2.2.2.2.2.2.2.2.2.1.q l_2.2.2.2.2.2.2.2.2.1.n l_2.2.2.2.2.2.2.2.2.1.cap] 29 (0, 0)), (l_2.2.2.1, .cells #[slv l_2.2.2.2.2.2.2.2.2.2.1.q l_2.2.2.2.2.2.2.2.2.2.1.n l_2.2.2.2.2.2.2.2.2.2.1.cap, .int .i64 o.more13.wind.lo, .int .i64 o.more13.wind.hi, slv l_2.2.2.2.2.2.2.2.2.2.2.1.q l_2.2.2.2.2.2.2.2.2.2.2.1.n l_2.2.2.2.2.2.2.2.2.2.2.1.cap, slv L_145.q L_145.n L_145.cap] 29 (0, 0))]) (fun l_40 => [⟨68, RW.enc o.floor12.table, l_2.2.2.2.2.2.2.1.sp, l_2.2.2.2.2.2.2.1.q⟩, ⟨3, RI.enc floor12_floors, l_2.2.2.2.2.2.2.2.1.sp, l_2.2.2.2.2.2.2.2.1.q⟩, ⟨51, RS.enc o.floor12.sills, l_2.2.2.2.2.2.2.2.2.1.sp, l_2.2.2.2.2.2.2.2.2.1.q⟩, ⟨68, RW.enc o.sill11.table, l_2.2.2.2.1.sp, l_2.2.2.2.1.q⟩, ⟨3, RI.enc o.sill11.floors, l_2.2.2.2.2.1.sp, l_2.2.2.2.2.1.q⟩, ⟨51, RS.enc o_1, l_2.2.2.2.2.2.1.sp, l_2.2.2.2.2.2.1.q⟩, ⟨68, RW.enc o.more13.table, l_2.2.2.2.2.2.2.2.2.2.1.sp, l_2.2.2.2.2.2.2.2.2.2.1.q⟩, ⟨3, RI.enc o.more13.floors, l_2.2.2.2.2.2.2.2.2.2.2.1.sp, l_2.2.2.2.2.2.2.2.2.2.2.1.q⟩, ⟨51, RS.enc t85, L_145.sp, L_145.q⟩, ⟨68, RW.enc t29.r0.table, l_1.1.sp, l_1.1.q⟩, ⟨3, RI.enc t29.r0.floors, l_1.2.1.sp, l_1.2.1.q⟩, ⟨51, RS.enc t29.r0.sills, l_1.2.2.sp, l_1.2.2.q⟩]) ?_ ?_
         ·replace hm := h409
          refine g_region ?_
          refine g_val rfl rfl rfl (fun _ _ => v_move rfl) ?_
          refine g_val rfl rfl rfl (fun _ _ => v_neq rfl rfl) ?_
          refine g_val rfl rfl rfl (fun _ _ => v_move rfl) ?_
          refine g_case 133 rfl (fun h411 => ?_) (fun h411 => ?_)
          ·replace hm := ifF (of_ndec_true h411) hm
           refine g_skipG rfl rfl rfl rfl rfl rfl ?_
           refine g_skipG rfl rfl rfl rfl rfl rfl ?_
           refine g_skipG rfl rfl rfl rfl rfl rfl ?_
           refine g_skipG rfl rfl rfl rfl rfl rfl ?_
           refine g_skipG rfl rfl rfl rfl rfl rfl ?_
           refine g_val rfl rfl rfl (fun _ _ => v_pickT rfl rfl) ?_
           refine g_nil ?_
           obtain rfl := Option.some.inj hm
           exact g_leaf () (trivial) ((.cons rfl (.cons rfl (.cons rfl (.cons rfl (.cons rfl (.cons rfl (.cons rfl (.cons rfl (.cons rfl (.cons rfl .nil))))))))))) (fun w hh => hh.sel [0, 1, 2, 3, 4, 5, 6, 7] [3, 4, 5, 0, 1, 2, 6, 7, 8, 9, 10, 11] 0 (by decide) (by decide) rfl rfl rfl)
          ·replace hm := ifT (of_ndec_false h411) hm
           refine v_unguard rfl rfl ?_
           refine g_val rfl rfl rfl (fun _ _ => v_move rfl) ?_
           refine v_unguard rfl rfl ?_
           refine g_val rfl rfl rfl (fun w _ => v_lenN rfl (Try.runUnderlying43 w) rfl) ?_
           refine v_unguard rfl rfl ?_
           refine g_val rfl rfl rfl (fun _ _ => v_move rfl) ?_
           refine v_unguard rfl rfl ?_
           refine g_val rfl rfl rfl (fun w _ => v_lenN rfl (Try.runUnderlying43 w) rfl) ?_
           refine v_unguard rfl rfl ?_
           refine g_val rfl rfl rfl (fun _ _ => v_neq rfl rfl) ?_
           refine g_val rfl rfl rfl (fun _ _ => v_pickF rfl rfl) ?_
           refine g_nil ?_
           obtain rfl := Option.some.inj hm
           exact g_leaf () (trivial) ((.cons rfl (.cons rfl (.cons rfl (.cons rfl (.cons rfl (.cons rfl (.cons rfl (.cons rfl (.cons rfl (.cons rfl .nil))))))))))) (fun w hh => hh.sel [0, 1, 2, 3, 4, 5, 6, 7] [3, 4, 5, 0, 1, 2, 6, 7, 8, 9, 10, 11] 0 (by decide) (by decide) rfl rfl rfl)
         ·intro l_40 hj
          replace hm := h410
          refine g_n_then ?_
          refine g_cond rfl (fun h412 => ?_) (fun h412 => ?_)
          ·replace hm := ifT (h412) hm
           refine g_seq ?_
           refine g_region ?_
           refine g_val rfl rfl rfl (fun _ _ => v_assign rfl) ?_
           refine g_nil ?_
           refine g_n_then ?_
           refine g_ret ?_
           refine g_r_then ?_
           refine g_r_blk ?_
           refine g_r_then ?_
           refine g_r_then ?_
           refine g_r_blk ?_
           refine g_r_then ?_
           obtain rfl := Option.some.inj hm
           refine g_done rfl (fun w hh => (.tmp rfl .nil)) (fun w hh => ⟨(), rfl, trivial, hh.sel [] [] 4 (by decide) (by decide) rfl rfl rfl⟩)
          ·replace hm := ifF ((fun hh => Bool.noConfusion ((h412).symm.trans hh))) hm
           refine g_skip ?_
           refine g_n_then ?_
           refine g_seq ?_
           refine g_region ?_
           refine g_val rfl rfl rfl (fun w _ => v_fieldAddr 3 (Try.runUnderlying29 w) rfl (Try.sizeOf26 w) rfl) ?_
           refine g_val rfl rfl rfl (fun w hh => v_load (Try.isAgg26 w) rfl (hh.cell 3 rfl rfl)) ?_
           refine g_val rfl rfl rfl (fun w _ => v_lenN (vlen RI h6 rfl) (Try.runUnderlying26 w) rfl) ?_
           refine g_val rfl rfl rfl (fun _ _ => v_move rfl) ?_
           refine g_nil ?_
           refine g_n_then ?_
           obtain ⟨o_7, h413, h414⟩ := bindO hm
           refine g_cut (ι := Unit) (fun j_1 => o_7 = .inl j_1) (fun j_1 => [(10, ptr b 0), (14, .int .i64 t98), (15, slv l_31.1 t102.1.length l_31.2), (118, slv (some (b_100, 0)) 3 3), (119, .int .i64 3), (120, .int .i64 1)]) (fun j_1 => [(b_102, .cells #[slv l_2.2.2.2.2.2.2.1.q l_2.2.2.2.2.2.2.1.n l_2.2.2.2.2.2.2.1.cap, .int .i64 o.floor12.wind.lo, .int .i64 o.floor12.wind.hi, slv l_2.2.2.2.2.2.2.2.1.q l_2.2.2.2.2.2.2.2.1.n l_2.2.2.2.2.2.2.2.1.cap, slv l_2.2.2.2.2.2.2.2.2.1.q l_2.2.2.2.2.2.2.2.2.1.n l_2.2.2.2.2.2.2.2.2.1.cap] 29 (0, 0)), (b_101, .cells #[slv l_2.2.2.2.1.q l_2.2.2.2.1.n l_2.2.2.2.1.cap, .int .i64 o.sill11.wind.lo, .int .i64 o.sill11.wind.hi, slv l_2.2.2.2.2.1.q l_2.2.2.2.2.1.n l_2.2.2.2.2.1.cap, slv l_2.2.2.2.2.2.1.q l_2.2.2.2.2.2.1.n l_2.2.2.2.2.2.1.cap] 29 (0, 0)), (b_100, .cells #[slv l_2.2.2.2.1.q l_2.2.2.2.1.n l_2.2.2.2.1.cap, .int .i64 o.sill11.wind.lo, .int .i64 o.sill11.wind.hi, slv l_2.2.2.2.2.1.q l_2.2.2.2.2.1.n l_2.2.2.2.2.1.cap, slv l_2.2.2.2.2.2.1.q l_2.2.2.2.2.2.1.n l_2.2.2.2.2.2.1.cap, slv l_2.2.2.2.2.2.2.1.q l_2.2.2.2.2.2.2.1.n l_2.2.2.2.2.2.2.1.cap, .int .i64 o.floor12.wind.lo, .int .i64 o.floor12.wind.hi, slv l_2.2.2.2.2.2.2.2.1.q l_2.2.2.2.2.2.2.2.1.n l_2.2.2.2.2.2.2.2.1.cap, slv l_2.2.2.2.2.2.2.2.2.1.q l_2.2.2.2.2.2.2.2.2.1.n l_2.2.2.2.2.2.2.2.2.1.cap, slv l_2.2.2.2.2.2.2.2.2.2.1.q l_2.2.2.2.2.2.2.2.2.2.1.n l_2.2.2.2.2.2.2.2.2.2.1.cap, .int .i64 o.more13.wind.lo, .int .i64 o.more13.wind.hi, slv l_2.2.2.2.2.2.2.2.2.2.2.1.q l_2.2.2.2.2.2.2.2.2.2.2.1.n l_2.2.2.2.2.2.2.2.2.2.2.1.cap, slv L_145.q L_145.n L_145.cap] 29 (0, 0)), (b, .cells #[slv l_1.1.q l_1.1.n l_1.1.cap, .int .i64 t29.r0.wind.lo, .int .i64 t29.r0.wind.hi, slv l_1.2.1.q l_1.2.1.n l_1.2.1.cap, slv l_1.2.2.q l_1.2.2.n l_1.2.2.cap] 29 (0, 0)), (l, .cells #[.slice qa0 na0 ca0, .int .i64 t29.b0_1, .int .u32 t29.b0_2] 138 (0, 0)), (l_2.1, .cells #[slv l_2.2.2.2.1.q l_2.2.2.2.1.n l_2.2.2.2.1.cap, .int .i64 o.sill11.wind.lo, .int .i64 o.sill11.wind.hi, slv l_2.2.2.2.2.1.q l_2.2.2.2.2.1.n l_2.2.2.2.2.1.cap, slv l_2.2.2.2.2.2.1.q l_2.2.2.2.2.2.1.n l_2.2.2.2.2.2.1.cap] 29 (0, 0)), (l_2.2.1, .cells #[slv l_2.2.2.2.2.2.2.1.q l_2.2.2.2.2.2.2.1.n l_2.2.2.2.2.2.2.1.cap, .int .i64 o.floor12.wind.lo, .int .i64 o.floor12.wind.hi, slv l_2.2.2.2.2.2.2.2.1.q l_2.2.2.2.2.2.2.2.1.n l_2.2.2.2.2.2.2.2.1.cap, slv l_2.2.2.2.2.2.2.2.2.1.q l_2.2.2.2.2.2.2.2.2.1.n l_2.2.2.2.2.2.2.2.2.1.cap] 29 (0, 0)), (l_2.2.2.1, .cells #[slv l_2.2.2.2.2.2.2.2.2.2.1.q l_2.2.2.2.2.2.2.2.2.2.1.n l_2.2.2.2.2.2.2.2.2.2.1.cap, .int .i64 o.more13.wind.lo, .int .i64 o.more13.wind.hi, slv l_2.2.2.2.2.2.2.2.2.2.2.1.q l_2.2.2.2.2.2.2.2.2.2.2.1.n l_2.2.2.2.2.2.2.2.2.2.2.1.cap, slv L_145.q L_145.n L_145.cap] 29 (0, 0))]) (fun j_1 => [⟨68, RW.enc o.floor12.table, l_2.2.2.2.2.2.2.1.sp, l_2.2.2.2.2.2.2.1.q⟩, ⟨3, RI.enc floor12_floors, l_2.2.2.2.2.2.2.2.1.sp, l_2.2.2.2.2.2.2.2.1.q⟩, ⟨51, RS.enc o.floor12.sills, l_2.2.2.2.2.2.2.2.2.1.sp, l_2.2.2.2.2.2.2.2.2.1.q⟩, ⟨68, RW.enc o.sill11.table, l_2.2.2.2.1.sp, l_2.2.2.2.1.q⟩, ⟨3, RI.enc o.sill11.floors, l_2.2.2.2.2.1.sp, l_2.2.2.2.2.1.q⟩, ⟨51, RS.enc o_1, l_2.2.2.2.2.2.1.sp, l_2.2.2.2.2.2.1.q⟩, ⟨68, RW.enc o.more13.table, l_2.2.2.2.2.2.2.2.2.2.1.sp, l_2.2.2.2.2.2.2.2.2.2.1.q⟩, ⟨3, RI.enc o.more13.floors, l_2.2.2.2.2.2.2.2.2.2.2.1.sp, l_2.2.2.2.2.2.2.2.2.2.2.1.q⟩, ⟨51, RS.enc t85, L_145.sp, L_145.q⟩, ⟨68, RW.enc t29.r0.table, l_1.1.sp, l_1.1.q⟩, ⟨3, RI.enc t29.r0.floors, l_1.2.1.sp, l_1.2.1.q⟩, ⟨51, RS.enc t29.r0.sills, l_1.2.2.sp, l_1.2.2.q⟩]) ?_ ?_
           ·replace hm := h413
            refine g_block ?_
            refine g_loopF (ι := Unit) hm (fun s_1 l_41 => True) (fun s_1 l_41 => [(10, ptr b 0), (14, .int .i64 t98), (15, slv l_31.1 t102.1.length l_31.2), (17, .int .i64 1), (18, ptr b_102 0), (19, slv l_39.1 t128_1.1.length l_39.2), (118, slv (some (b_100, 0)) 3 3), (119, .int .i64 3), (120, .int .i64 1), (142, .int .i64 (t29.r0.floors.length : Int)), (143, .int .i64 s_1)]) (fun s_1 l_41 => [(b_102, .cells #[slv l_2.2.2.2.2.2.2.1.q l_2.2.2.2.2.2.2.1.n l_2.2.2.2.2.2.2.1.cap, .int .i64 o.floor12.wind.lo, .int .i64 o.floor12.wind.hi, slv l_2.2.2.2.2.2.2.2.1.q l_2.2.2.2.2.2.2.2.1.n l_2.2.2.2.2.2.2.2.1.cap, slv l_2.2.2.2.2.2.2.2.2.1.q l_2.2.2.2.2.2.2.2.2.1.n l_2.2.2.2.2.2.2.2.2.1.cap] 29 (0, 0)), (b_101, .cells #[slv l_2.2.2.2.1.q l_2.2.2.2.1.n l_2.2.2.2.1.cap, .int .i64 o.sill11.wind.lo, .int .i64 o.sill11.wind.hi, slv l_2.2.2.2.2.1.q l_2.2.2.2.2.1.n l_2.2.2.2.2.1.cap, slv l_2.2.2.2.2.2.1.q l_2.2.2.2.2.2.1.n l_2.2.2.2.2.2.1.cap] 29 (0, 0)), (b_100, .cells #[slv l_2.2.2.2.1.q l_2.2.2.2.1.n l_2.2.2.2.1.cap, .int .i64 o.sill11.wind.lo, .int .i64 o.sill11.wind.hi, slv l_2.2.2.2.2.1.q l_2.2.2.2.2.1.n l_2.2.2.2.2.1.cap, slv l_2.2.2.2.2.2.1.q l_2.2.2.2.2.2.1.n l_2.2.2.2.2.2.1.cap, slv l_2.2.2.2.2.2.2.1.q l_2.2.2.2.2.2.2.1.n l_2.2.2.2.2.2.2.1.cap, .int .i64 o.floor12.wind.lo, .int .i64 o.floor12.wind.hi, slv l_2.2.2.2.2.2.2.2.1.q l_2.2.2.2.2.2.2.2.1.n l_2.2.2.2.2.2.2.2.1.cap, slv l_2.2.2.2.2.2.2.2.2.1.q l_2.2.2.2.2.2.2.2.2.1.n l_2.2.2.2.2.2.2.2.2.1.cap, slv l_2.2.2.2.2.2.2.2.2.2.1.q l_2.2.2.2.2.2.2.2.2.2.1.n l_2.2.2.2.2.2.2.2.2.2.1.cap, .int .i64 o.more13.wind.lo, .int .i64 o.more13.wind.hi, slv l_2.2.2.2.2.2.2.2.2.2.2.1.q l_2.2.2.2.2.2.2.2.2.2.2.1.n l_2.2.2.2.2.2.2.2.2.2.2.1.cap, slv L_145.q L_145.n L_145.cap] 29 (0, 0)), (b, .cells #[slv l_1.1.q l_1.1.n l_1.1.cap, .int .i64 t29.r0.wind.lo, .int .i64 t29.r0.wind.hi, slv l_1.2.1.q l_1.2.1.n l_1.2.1.cap, slv l_1.2.2.q l_1.2.2.n l_1.2.2.cap] 29 (0, 0)), (l, .cells #[.slice qa0 na0 ca0, .int .i64 t29.b0_1, .int .u32 t29.b0_2] 138 (0, 0)), (l_2.1, .cells #[slv l_2.2.2.2.1.q l_2.2.2.2.1.n l_2.2.2.2.1.cap, .int .i64 o.sill11.wind.lo, .int .i64 o.sill11.wind.hi, slv l_2.2.2.2.2.1.q l_2.2.2.2.2.1.n l_2.2.2.2.2.1.cap, slv l_2.2.2.2.2.2.1.q l_2.2.2.2.2.2.1.n l_2.2.2.2.2.2.1.cap] 29 (0, 0)), (l_2.2.1, .cells #[slv l_2.2.2.2.2.2.2.1.q l_2.2.2.2.2.2.2.1.n l_2.2.2.2.2.2.2.1.cap, .int .i64 o.floor12.wind.lo, .int .i64 o.floor12.wind.hi, slv l_2.2.2.2.2.2.2.2.1.q l_2.2.2.2.2.2.2.2.1.n l_2.2.2.2.2.2.2.2.1.cap, slv l_2.2.2.2.2.2.2.2.2.1.q l_2.2.2.2.2.2.2.2.2.1.n l_2.2.2.2.2.2.2.2.2.1.cap] 29 (0, 0)), (l_2.2.2.1, .cells #[slv l_2.2.2.2.2.2.2.2.2.2.1.q l_2.2.2.2.2.2.2.2.2.2.1.n l_2.2.2.2.2.2.2.2.2.2.1.cap, .int .i64 o.more13.wind.lo, .int .i64 o.more13.wind.hi, slv l_2.2.2.2.2.2.2.2.2.2.2.1.q l_2.2.2.2.2.2.2.2.2.2.2.1.n l_2.2.2.2.2.2.2.2.2.2.2.1.cap, slv L_145.q L_145.n L_145.cap] 29 (0, 0))]) (fun s_1 l_41 => [⟨68, RW.enc o.floor12.table, l_2.2.2.2.2.2.2.1.sp, l_2.2.2.2.2.2.2.1.q⟩, ⟨3, RI.enc floor12_floors, l_2.2.2.2.2.2.2.2.1.sp, l_2.2.2.2.2.2.2.2.1.q⟩, ⟨51, RS.enc o.floor12.sills, l_2.2.2.2.2.2.2.2.2.1.sp, l_2.2.2.2.2.2.2.2.2.1.q⟩, ⟨68, RW.enc o.sill11.table, l_2.2.2.2.1.sp, l_2.2.2.2.1.q⟩, ⟨3, RI.enc o.sill11.floors, l_2.2.2.2.2.1.sp, l_2.2.2.2.2.1.q⟩, ⟨51, RS.enc o_1, l_2.2.2.2.2.2.1.sp, l_2.2.2.2.2.2.1.q⟩, ⟨68, RW.enc o.more13.table, l_2.2.2.2.2.2.2.2.2.2.1.sp, l_2.2.2.2.2.2.2.2.2.2.1.q⟩, ⟨3, RI.enc o.more13.floors, l_2.2.2.2.2.2.2.2.2.2.2.1.sp, l_2.2.2.2.2.2.2.2.2.2.2.1.q⟩, ⟨51, RS.enc t85, L_145.sp, L_145.q⟩, ⟨68, RW.enc t29.r0.table, l_1.1.sp, l_1.1.q⟩, ⟨3, RI.enc t29.r0.floors, l_1.2.1.sp, l_1.2.1.q⟩, ⟨51, RS.enc t29.r0.sills, l_1.2.2.sp, l_1.2.2.q⟩]) () (trivial) ((.cons rfl (.cons rfl (.cons rfl (.cons rfl (.cons rfl (.cons rfl (.cons rfl (.cons rfl (.cons rfl (.cons rfl (.cons rfl .nil)))))))))))) (fun w hh => hh) (fun s_1 l_41 r_1 hpl hm h415 => ?_)
            unfold m_laurellaw01_TideHigher_L1 at hm
            refine g_seq ?_
            refine g_region ?_
            refine g_val rfl rfl rfl (fun _ _ => v_lss rfl rfl) ?_
            refine g_nil ?_
            refine g_n_then ?_
            refine g_seq ?_
            refine g_cond rfl (fun h416 => ?_) (fun h416 => ?_)
            ·replace hm := ifT (of_decide_eq_true h416) hm
             refine g_skip ?_
             refine g_n_then ?_
             refine g_seq ?_
             refine g_block ?_
             refine g_seq ?_
             refine g_region ?_
             refine g_val rfl rfl rfl (fun _ _ => v_move rfl) ?_
             refine g_val rfl rfl rfl (fun _ _ => v_assign rfl) ?_
             refine g_nil ?_
             refine g_n_then ?_
             refine g_seq ?_
             refine g_region ?_
             refine g_val rfl rfl rfl (fun w hh => v_loadAgg (vs := [_, _, _, _, _]) (Try.isAgg29 w) (Try.sizeOf29 w) rfl (hh.cells 3 rfl rfl)) ?_
             refine g_val rfl rfl rfl (fun _ _ => v_move rfl) ?_
             obtain ⟨t149_1, h417, hm⟩ := bindO hm
             refine g_callH [] [] rfl rfl rfl rfl rfl rfl rfl (fun a w => Try.call31 a w) (fun w hh => cx_Gate t29.r0 s_1 l_1.1.q l_1.1.n l_1.1.cap l_1.2.1.q l_1.2.1.n l_1.2.1.cap l_1.2.2.q l_1.2.2.n l_1.2.2.cap w (HV.callee (S0 := []) (vs0 := []) hh (roC (hh.vsep (S0 := []) (vs0 := []) 9 rfl h5) (roC (hh.vsep (S0 := []) (vs0 := []) 10 rfl h6) (roC (hh.vsep (S0 := []) (vs0 := []) 11 rfl h7) roN)))) (vlen RW h5 rfl) (vne h5) (h5).hle (vlen RI h6 rfl) (vne h6) (h6).hle (vlen RS h7 rfl) (vne h7) (h7).hle h417) (fun l_42 h418 => ?_)
             refine g_val rfl rfl rfl (fun _ _ => v_move rfl) ?_
             refine g_val rfl rfl rfl (fun _ _ => v_extract rfl rfl) ?_
             refine g_val rfl rfl rfl (fun _ _ => v_extract rfl rfl) ?_
             refine g_val rfl rfl rfl (fun _ _ => v_assign rfl) ?_
             refine g_val rfl rfl rfl (fun _ _ => v_assign rfl) ?_
             refine g_nil ?_
             refine g_n_then ?_
             refine g_seq ?_
             refine g_region ?_
             refine g_val rfl rfl rfl (fun w hh => v_loadAgg (vs := [_, _, _, _, _]) (Try.isAgg29 w) (Try.sizeOf29 w) rfl (hh.cells 0 rfl rfl)) ?_
             refine g_val rfl rfl rfl (fun _ _ => v_move rfl) ?_
             obtain ⟨t155_1, h419, hm⟩ := bindO hm
             refine g_callH [] [] rfl rfl rfl rfl rfl rfl rfl (fun a w => Try.call31 a w) (fun w hh => cx_Gate (⟨o.floor12.table, o.floor12.wind, floor12_floors, o.floor12.sills⟩ : Sands) s_1 l_2.2.2.2.2.2.2.1.q l_2.2.2.2.2.2.2.1.n l_2.2.2.2.2.2.2.1.cap l_2.2.2.2.2.2.2.2.1.q l_2.2.2.2.2.2.2.2.1.n l_2.2.2.2.2.2.2.2.1.cap l_2.2.2.2.2.2.2.2.2.1.q l_2.2.2.2.2.2.2.2.2.1.n l_2.2.2.2.2.2.2.2.2.1.cap w (HV.callee (S0 := []) (vs0 := []) hh (roC (hh.vsep (S0 := []) (vs0 := []) 0 rfl h14) (roC (hh.vsep (S0 := []) (vs0 := []) 1 rfl h353) (roC (hh.vsep (S0 := []) (vs0 := []) 2 rfl h16) roN)))) (vlen RW h14 rfl) (vne h14) (h14).hle (vlen RI h353 rfl) (vne h353) (h353).hle (vlen RS h16 rfl) (vne h16) (h16).hle h419) (fun l_43 h420 => ?_)
             refine g_val rfl rfl rfl (fun _ _ => v_move rfl) ?_
             refine g_val rfl rfl rfl (fun _ _ => v_extract rfl rfl) ?_
             refine g_val rfl rfl rfl (fun _ _ => v_extract rfl rfl) ?_
             refine g_val rfl rfl rfl (fun _ _ => v_assign rfl) ?_
             refine g_val rfl rfl rfl (fun _ _ => v_assign rfl) ?_
             refine g_nil ?_
             refine g_n_then ?_
             refine g_seq ?_
             obtain ⟨o_8, h421, h422⟩ := bindO hm
             refine g_cut (ι := Unit) (fun l_44 => True) (fun l_44 => [(10, ptr b 0), (14, .int .i64 t98), (15, slv l_31.1 t102.1.length l_31.2), (17, .int .i64 1), (18, ptr b_102 0), (19, slv l_39.1 t128_1.1.length l_39.2), (118, slv (some (b_100, 0)) 3 3), (119, .int .i64 3), (120, .int .i64 1), (142, .int .i64 (t29.r0.floors.length : Int)), (143, .int .i64 s_1), (212, .bool o_8)]) (fun l_44 => [(b_102, .cells #[slv l_2.2.2.2.2.2.2.1.q l_2.2.2.2.2.2.2.1.n l_2.2.2.2.2.2.2.1.cap, .int .i64 o.floor12.wind.lo, .int .i64 o.floor12.wind.hi, slv l_2.2.2.2.2.2.2.2.1.q l_2.2.2.2.2.2.2.2.1.n l_2.2.2.2.2.2.2.2.1.cap, slv l_2.2.2.2.2.2.2.2.2.1.q l_2.2.2.2.2.2.2.2.2.1.n l_2.2.2.2.2.2.2.2.2.1.cap] 29 (0, 0)), (b_101, .cells #[slv l_2.2.2.2.1.q l_2.2.2.2.1.n l_2.2.2.2.1.cap, .int .i64 o.sill11.wind.lo, .int .i64 o.sill11.wind.hi, slv l_2.2.2.2.2.1.q l_2.2.2.2.2.1.n l_2.2.2.2.2.1.cap, slv l_2.2.2.2.2.2.1.q l_2.2.2.2.2.2.1.n l_2.2.2.2.2.2.1.cap] 29 (0, 0)), (b_100, .cells #[slv l_2.2.2.2.1.q l_2.2.2.2.1.n l_2.2.2.2.1.cap, .int .i64 o.sill11.wind.lo, .int .i64 o.sill11.wind.hi, slv l_2.2.2.2.2.1.q l_2.2.2.2.2.1.n l_2.2.2.2.2.1.cap, slv l_2.2.2.2.2.2.1.q l_2.2.2.2.2.2.1.n l_2.2.2.2.2.2.1.cap, slv l_2.2.2.2.2.2.2.1.q l_2.2.2.2.2.2.2.1.n l_2.2.2.2.2.2.2.1.cap, .int .i64 o.floor12.wind.lo, .int .i64 o.floor12.wind.hi, slv l_2.2.2.2.2.2.2.2.1.q l_2.2.2.2.2.2.2.2.1.n l_2.2.2.2.2.2.2.2.1.cap, slv l_2.2.2.2.2.2.2.2.2.1.q l_2.2.2.2.2.2.2.2.2.1.n l_2.2.2.2.2.2.2.2.2.1.cap, slv l_2.2.2.2.2.2.2.2.2.2.1.q l_2.2.2.2.2.2.2.2.2.2.1.n l_2.2.2.2.2.2.2.2.2.2.1.cap, .int .i64 o.more13.wind.lo, .int .i64 o.more13.wind.hi, slv l_2.2.2.2.2.2.2.2.2.2.2.1.q l_2.2.2.2.2.2.2.2.2.2.2.1.n l_2.2.2.2.2.2.2.2.2.2.2.1.cap, slv L_145.q L_145.n L_145.cap] 29 (0, 0)), (b, .cells #[slv l_1.1.q l_1.1.n l_1.1.cap, .int .i64 t29.r0.wind.lo, .int .i64 t29.r0.wind.hi, slv l_1.2.1.q l_1.2.1.n l_1.2.1.cap, slv l_1.2.2.q l_1.2.2.n l_1.2.2.cap] 29 (0, 0)), (l, .cells #[.slice qa0 na0 ca0, .int .i64 t29.b0_1, .int .u32 t29.b0_2] 138 (0, 0)), (l_2.1, .cells #[slv l_2.2.2.2.1.q l_2.2.2.2.1.n l_2.2.2.2.1.cap, .int .i64 o.sill11.wind.lo, .int .i64 o.sill11.wind.hi, slv l_2.2.2.2.2.1.q l_2.2.2.2.2.1.n l_2.2.2.2.2.1.cap, slv l_2.2.2.2.2.2.1.q l_2.2.2.2.2.2.1.n l_2.2.2.2.2.2.1.cap] 29 (0, 0)), (l_2.2.1, .cells #[slv l_2.2.2.2.2.2.2.1.q l_2.2.2.2.2.2.2.1.n l_2.2.2.2.2.2.2.1.cap, .int .i64 o.floor12.wind.lo, .int .i64 o.floor12.wind.hi, slv l_2.2.2.2.2.2.2.2.1.q l_2.2.2.2.2.2.2.2.1.n l_2.2.2.2.2.2.2.2.1.cap, slv l_2.2.2.2.2.2.2.2.2.1.q l_2.2.2.2.2.2.2.2.2.1.n l_2.2.2.2.2.2.2.2.2.1.cap] 29 (0, 0)), (l_2.2.2.1, .cells #[slv l_2.2.2.2.2.2.2.2.2.2.1.q l_2.2.2.2.2.2.2.2.2.2.1.n l_2.2.2.2.2.2.2.2.2.2.1.cap, .int .i64 o.more13.wind.lo, .int .i64 o.more13.wind.hi, slv l_2.2.2.2.2.2.2.2.2.2.2.1.q l_2.2.2.2.2.2.2.2.2.2.2.1.n l_2.2.2.2.2.2.2.2.2.2.2.1.cap, slv L_145.q L_145.n L_145.cap] 29 (0, 0))]) (fun l_44 => [⟨68, RW.enc o.floor12.table, l_2.2.2.2.2.2.2.1.sp, l_2.2.2.2.2.2.2.1.q⟩, ⟨3, RI.enc floor12_floors, l_2.2.2.2.2.2.2.2.1.sp, l_2.2.2.2.2.2.2.2.1.q⟩, ⟨51, RS.enc o.floor12.sills, l_2.2.2.2.2.2.2.2.2.1.sp, l_2.2.2.2.2.2.2.2.2.1.q⟩, ⟨68, RW.enc o.sill11.table, l_2.2.2.2.1.sp, l_2.2.2.2.1.q⟩, ⟨3, RI.enc o.sill11.floors, l_2.2.2.2.2.1.sp, l_2.2.2.2.2.1.q⟩, ⟨51, RS.enc o_1, l_2.2.2.2.2.2.1.sp, l_2.2.2.2.2.2.1.q⟩, ⟨68, RW.enc o.more13.table, l_2.2.2.2.2.2.2.2.2.2.1.sp, l_2.2.2.2.2.2.2.2.2.2.1.q⟩, ⟨3, RI.enc o.more13.floors, l_2.2.2.2.2.2.2.2.2.2.2.1.sp, l_2.2.2.2.2.2.2.2.2.2.2.1.q⟩, ⟨51, RS.enc t85, L_145.sp, L_145.q⟩, ⟨68, RW.enc t29.r0.table, l_1.1.sp, l_1.1.q⟩, ⟨3, RI.enc t29.r0.floors, l_1.2.1.sp, l_1.2.1.q⟩, ⟨51, RS.enc t29.r0.sills, l_1.2.2.sp, l_1.2.2.q⟩]) ?_ ?_
             ·replace hm := h421
              refine g_draw none (.free 0 (.free 1 (.free 2 (.free 3 (.free 4 (.free 5 (.free 6 (.free 7 (.free 8 (.free 9 (.free 10 (.free 11 (.free 12 (.free 13 (.free 14 (.free 15 (.free 16 (.free 17 (.free 18 (.hoist 19 (.free 20 (.free 21 (.free 22 (.hoist 23 (.free 24 (.free 25 (.free 26 (.free 27 (.free 28 (.free 29 (.free 30 (.free 31 (.free 32 (.free 33 (.free 34 (.free 35 (.free 36 (.free 37 (.free 38 (.free 39 (.free 40 (.free 41 (.free 42 (.free 43 (.free 44 (.free 45 (.hoist 46 (.free 47 (.free 48 (.free 49 (.hoist 50 (.free 51 (.free 52 (.free 53 (.free 54 .done))))))))))))))))))))))))))))))))))))))))))))))))))))))) _ rfl (by decide +kernel) (fun w k hh => hh.draw k) (fun w hh => hh) ?_
              refine p_free rfl rfl rfl rfl (fun _ _ => v_move rfl) ?_
              refine p_free rfl rfl rfl rfl (fun _ _ => v_lss rfl rfl) ?_
              refine p_free rfl rfl rfl rfl (fun _ _ => v_move rfl) ?_
              refine p_freeG rfl rfl rfl rfl rfl rfl (fun _ _ => v_move rfl) ?_
              refine p_freeG rfl rfl rfl rfl rfl rfl (fun _ _ => v_move rfl) ?_
              refine p_freeG rfl rfl rfl rfl rfl rfl (fun _ _ => v_neq rfl rfl) ?_
              refine p_freeG rfl rfl rfl rfl rfl rfl (fun _ _ => v_move rfl) ?_
              refine g_case 164 rfl (fun h423 => ?_) (fun h423 => ?_)
              ·replace hm := ifF (of_ndec_true h423) hm
               refine p_skipF rfl rfl rfl rfl rfl rfl rfl ?_
               refine p_skipF rfl rfl rfl rfl rfl rfl rfl ?_
               refine p_skipF rfl rfl rfl rfl rfl rfl rfl ?_
               refine p_skipUF_ rfl rfl rfl rfl rfl rfl ?_
               refine p_skipUF_ rfl rfl rfl rfl rfl rfl ?_
               refine p_skipUF_ rfl rfl rfl rfl rfl rfl ?_
               refine p_skipF rfl rfl rfl rfl rfl rfl rfl ?_
               refine p_freeG rfl rfl rfl rfl rfl rfl (fun _ _ => v_pickT rfl rfl) ?_
               refine p_freeG rfl rfl rfl rfl rfl rfl (fun _ _ => v_move rfl) ?_
               refine p_skipF rfl rfl rfl rfl rfl rfl rfl ?_
               refine p_skipF rfl rfl rfl rfl rfl rfl rfl ?_
               refine p_skipF rfl rfl rfl rfl rfl rfl rfl ?_
               refine p_skip rfl rfl rfl rfl rfl rfl rfl ?_
               refine p_skipF rfl rfl rfl rfl rfl rfl rfl ?_
               refine p_skipF rfl rfl rfl rfl rfl rfl rfl ?_
               refine p_skipF rfl rfl rfl rfl rfl rfl rfl ?_
               refine p_skip rfl rfl rfl rfl rfl rfl rfl ?_
               refine p_skipF rfl rfl rfl rfl rfl rfl rfl ?_
               refine p_freeG rfl rfl rfl rfl rfl rfl (fun _ _ => v_pickT rfl rfl) ?_
               refine p_free rfl rfl rfl rfl (fun _ _ => v_pickT rfl rfl) ?_
               refine p_free rfl rfl rfl rfl (fun _ _ => v_move rfl) ?_
               refine p_skipF rfl rfl rfl rfl rfl rfl rfl ?_
               refine p_skipF rfl rfl rfl rfl rfl rfl rfl ?_
               refine p_skipF rfl rfl rfl rfl rfl rfl rfl ?_
               refine p_skipUF_ rfl rfl rfl rfl rfl rfl ?_
               refine p_skipUF_ rfl rfl rfl rfl rfl rfl ?_
               refine p_skipUF_ rfl rfl rfl rfl rfl rfl ?_
               refine p_skipUF_ rfl rfl rfl rfl rfl rfl ?_
               refine p_skipUF_ rfl rfl rfl rfl rfl rfl ?_
               refine p_skipUF_ rfl rfl rfl rfl rfl rfl ?_
               refine p_skipUF_ rfl rfl rfl rfl rfl rfl ?_
               refine p_skipUF_ rfl rfl rfl rfl rfl rfl ?_
               refine p_skipUF_ rfl rfl rfl rfl rfl rfl ?_
               refine p_skipUF_ rfl rfl rfl rfl rfl rfl ?_
               refine p_skipUF_ rfl rfl rfl rfl rfl rfl ?_
               refine p_skipUF_ rfl rfl rfl rfl rfl rfl ?_
               refine p_skipUF_ rfl rfl rfl rfl rfl rfl ?_
               refine p_skipUF_ rfl rfl rfl rfl rfl rfl ?_
               refine p_skipUF_ rfl rfl rfl rfl rfl rfl ?_
               refine p_skipU_ rfl rfl rfl rfl rfl rfl ?_
               refine p_skipUF_ rfl rfl rfl rfl rfl rfl ?_
               refine p_skipUF_ rfl rfl rfl rfl rfl rfl ?_
               refine p_skipUF_ rfl rfl rfl rfl rfl rfl ?_
               refine p_skipU_ rfl rfl rfl rfl rfl rfl ?_
               refine p_skipUF_ rfl rfl rfl rfl rfl rfl ?_
               refine p_skipUF_ rfl rfl rfl rfl rfl rfl ?_
               refine p_skipF rfl rfl rfl rfl rfl rfl rfl ?_
               refine p_free rfl rfl rfl rfl (fun _ _ => v_pickT rfl rfl) ?_
               refine p_done ?_
               obtain rfl := Option.some.inj hm
               exact g_leaf () (trivial) ((.cons rfl (.cons rfl (.cons rfl (.cons rfl (.cons rfl (.cons rfl (.cons rfl (.cons rfl (.cons rfl (.cons rfl (.cons rfl (.cons rfl .nil))))))))))))) (fun w hh => hh)
              ·replace hm := ifT (of_ndec_false h423) hm
               refine p_freeG rfl rfl rfl rfl rfl rfl (fun _ _ => v_move rfl) ?_
               refine p_freeG rfl rfl rfl rfl rfl rfl (fun _ _ => v_eql rfl rfl) ?_
               refine p_freeG rfl rfl rfl rfl rfl rfl (fun _ _ => v_move rfl) ?_
               refine g_case 167 rfl (fun h424 => ?_) (fun h424 => ?_)
               ·replace hm := ifT (of_decide_eq_true h424) hm
                refine p_freeG rfl rfl rfl rfl rfl rfl (fun _ _ => v_move rfl) ?_
                refine p_freeG rfl rfl rfl rfl rfl rfl (fun _ _ => v_move rfl) ?_
                refine p_freeG rfl rfl rfl rfl rfl rfl (fun _ _ => v_lss rfl rfl) ?_
                refine p_freeG rfl rfl rfl rfl rfl rfl (fun _ _ => v_pickT rfl rfl) ?_
                refine p_freeG rfl rfl rfl rfl rfl rfl (fun _ _ => v_pickF rfl rfl) ?_
                refine p_freeG rfl rfl rfl rfl rfl rfl (fun _ _ => v_move rfl) ?_
                refine g_case 173 rfl (fun h425 => ?_) (fun h425 => ?_)
                ·replace hm := ifT (of_decide_eq_true h425) hm
                 refine p_skipF rfl rfl rfl rfl rfl rfl rfl ?_
                 refine p_skipF rfl rfl rfl rfl rfl rfl rfl ?_
                 refine p_skipF rfl rfl rfl rfl rfl rfl rfl ?_
                 refine p_skip rfl rfl rfl rfl rfl rfl rfl ?_
                 refine p_skipF rfl rfl rfl rfl rfl rfl rfl ?_
                 refine p_skipF rfl rfl rfl rfl rfl rfl rfl ?_
                 refine p_skipF rfl rfl rfl rfl rfl rfl rfl ?_
                 refine p_skip rfl rfl rfl rfl rfl rfl rfl ?_
                 refine p_skipF rfl rfl rfl rfl rfl rfl rfl ?_
                 refine p_freeG rfl rfl rfl rfl rfl rfl (fun _ _ => v_pickT rfl rfl) ?_
                 refine p_free rfl rfl rfl rfl (fun _ _ => v_pickT rfl rfl) ?_
                 refine p_free rfl rfl rfl rfl (fun _ _ => v_move rfl) ?_
                 refine p_skipF rfl rfl rfl rfl rfl rfl rfl ?_
                 refine p_skipF rfl rfl rfl rfl rfl rfl rfl ?_
                 refine p_skipF rfl rfl rfl rfl rfl rfl rfl ?_
                 refine p_skipUF_ rfl rfl rfl rfl rfl rfl ?_
                 refine p_skipUF_ rfl rfl rfl rfl rfl rfl ?_
                 refine p_skipUF_ rfl rfl rfl rfl rfl rfl ?_
                 refine p_skipUF_ rfl rfl rfl rfl rfl rfl ?_
                 refine p_skipUF_ rfl rfl rfl rfl rfl rfl ?_
                 refine p_skipUF_ rfl rfl rfl rfl rfl rfl ?_
                 refine p_skipUF_ rfl rfl rfl rfl rfl rfl ?_
                 refine p_skipUF_ rfl rfl rfl rfl rfl rfl ?_
                 refine p_skipUF_ rfl rfl rfl rfl rfl rfl ?_
                 refine p_skipUF_ rfl rfl rfl rfl rfl rfl ?_
                 refine p_skipUF_ rfl rfl rfl rfl rfl rfl ?_
                 refine p_skipUF_ rfl rfl rfl rfl rfl rfl ?_
                 refine p_skipUF_ rfl rfl rfl rfl rfl rfl ?_
                 refine p_skipUF_ rfl rfl rfl rfl rfl rfl ?_
                 refine p_skipUF_ rfl rfl rfl rfl rfl rfl ?_
                 refine p_skipU_ rfl rfl rfl rfl rfl rfl ?_
                 refine p_skipUF_ rfl rfl rfl rfl rfl rfl ?_
                 refine p_skipUF_ rfl rfl rfl rfl rfl rfl ?_
                 refine p_skipUF_ rfl rfl rfl rfl rfl rfl ?_
                 refine p_skipU_ rfl rfl rfl rfl rfl rfl ?_
                 refine p_skipUF_ rfl rfl rfl rfl rfl rfl ?_
                 refine p_skipUF_ rfl rfl rfl rfl rfl rfl ?_
                 refine p_skipF rfl rfl rfl rfl rfl rfl rfl ?_
                 refine p_free rfl rfl rfl rfl (fun _ _ => v_pickT rfl rfl) ?_
                 refine p_done ?_
                 obtain rfl := Option.some.inj hm
                 exact g_leaf () (trivial) ((.cons rfl (.cons rfl (.cons rfl (.cons rfl (.cons rfl (.cons rfl (.cons rfl (.cons rfl (.cons rfl (.cons rfl (.cons rfl (.cons rfl .nil))))))))))))) (fun w hh => hh)
                ·replace hm := ifF (of_decide_eq_false h425) hm
                 refine p_freeG rfl rfl rfl rfl rfl rfl (fun _ _ => v_move rfl) ?_
                 refine p_freeG rfl rfl rfl rfl rfl rfl (fun _ _ => v_move rfl) ?_
                 obtain ⟨t176_2, h426, hm⟩ := bindO hm
                 refine p_freeG rfl rfl rfl rfl rfl rfl (fun w _ => v_ixA h426 (Try.runUnderlying43 w) (Try.sizeOf46 w) rfl rfl rfl h408.ne) ?_
                 refine p_hoistG rfl rfl rfl rfl rfl rfl (fun w hh => v_ldE RI 0 h426 (Try.isAgg46 w) rfl (hh.seg 0 rfl) rfl (Nat.add_zero _).symm) ?_
                 refine p_freeG rfl rfl rfl rfl rfl rfl (fun _ _ => v_move rfl) ?_
                 refine p_freeG rfl rfl rfl rfl rfl rfl (fun _ _ => v_move rfl) ?_
                 obtain ⟨t180_2, h427, hm⟩ := bindO hm
                 refine p_freeG rfl rfl rfl rfl rfl rfl (fun w _ => v_ixA h427 (Try.runUnderlying43 w) (Try.sizeOf46 w) rfl rfl rfl h370.ne) ?_
                 refine p_hoistG rfl rfl rfl rfl rfl rfl (fun w hh => v_ldE RI 0 h427 (Try.isAgg46 w) rfl (hh.seg 2 rfl) rfl (Nat.add_zero _).symm) ?_
                 refine p_freeG rfl rfl rfl rfl rfl rfl (fun _ _ => v_gtr rfl rfl) ?_
                 refine p_freeG rfl rfl rfl rfl rfl rfl (fun _ _ => v_pickF rfl rfl) ?_
                 refine p_free rfl rfl rfl rfl (fun _ _ => v_pickT rfl rfl) ?_
                 refine p_free rfl rfl rfl rfl (fun _ _ => v_move rfl) ?_
                 refine g_case 185 rfl (fun h428 => ?_) (fun h428 => ?_)
                 ·replace hm := ifT (of_decide_eq_true h428) hm
                  refine p_skipF rfl rfl rfl rfl rfl rfl rfl ?_
                  refine p_skipF rfl rfl rfl rfl rfl rfl rfl ?_
                  refine p_skipF rfl rfl rfl rfl rfl rfl rfl ?_
                  refine p_skipUF_ rfl rfl rfl rfl rfl rfl ?_
                  refine p_skipUF_ rfl rfl rfl rfl rfl rfl ?_
                  refine p_skipUF_ rfl rfl rfl rfl rfl rfl ?_
                  refine p_skipUF_ rfl rfl rfl rfl rfl rfl ?_
                  refine p_skipUF_ rfl rfl rfl rfl rfl rfl ?_
                  refine p_skipUF_ rfl rfl rfl rfl rfl rfl ?_
                  refine p_skipUF_ rfl rfl rfl rfl rfl rfl ?_
                  refine p_skipUF_ rfl rfl rfl rfl rfl rfl ?_
                  refine p_skipUF_ rfl rfl rfl rfl rfl rfl ?_
                  refine p_skipUF_ rfl rfl rfl rfl rfl rfl ?_
                  refine p_skipUF_ rfl rfl rfl rfl rfl rfl ?_
                  refine p_skipUF_ rfl rfl rfl rfl rfl rfl ?_
                  refine p_skipUF_ rfl rfl rfl rfl rfl rfl ?_
                  refine p_skipUF_ rfl rfl rfl rfl rfl rfl ?_
                  refine p_skipUF_ rfl rfl rfl rfl rfl rfl ?_
                  refine p_skipU_ rfl rfl rfl rfl rfl rfl ?_
                  refine p_skipUF_ rfl rfl rfl rfl rfl rfl ?_
                  refine p_skipUF_ rfl rfl rfl rfl rfl rfl ?_
                  refine p_skipUF_ rfl rfl rfl rfl rfl rfl ?_
                  refine p_skipU_ rfl rfl rfl rfl rfl rfl ?_
                  refine p_skipUF_ rfl rfl rfl rfl rfl rfl ?_
                  refine p_skipUF_ rfl rfl rfl rfl rfl rfl ?_
                  refine p_skipF rfl rfl rfl rfl rfl rfl rfl ?_
                  refine p_free rfl rfl rfl rfl (fun _ _ => v_pickT rfl rfl) ?_
                  refine p_done ?_
                  obtain rfl := Option.some.inj hm
                  exact g_leaf () (trivial) ((.cons rfl (.cons rfl (.cons rfl (.cons rfl (.cons rfl (.cons rfl (.cons rfl (.cons rfl (.cons rfl (.cons rfl (.cons rfl (.cons rfl .nil))))))))))))) (fun w hh => hh)
                 ·replace hm := ifF (of_decide_eq_false h428) hm
                  refine p_freeG rfl rfl rfl rfl rfl rfl (fun _ _ => v_move rfl) ?_
                  refine p_freeG rfl rfl rfl rfl rfl rfl (fun _ _ => v_eql rfl rfl) ?_
                  refine p_freeG rfl rfl rfl rfl rfl rfl (fun _ _ => v_move rfl) ?_
                  refine p_skipF rfl rfl rfl rfl rfl rfl rfl ?_
                  refine p_skipF rfl rfl rfl rfl rfl rfl rfl ?_
                  refine p_skipF rfl rfl rfl rfl rfl rfl rfl ?_
                  refine p_skipUF_ rfl rfl rfl rfl rfl rfl ?_
                  refine p_skipUF_ rfl rfl rfl rfl rfl rfl ?_
                  refine p_skipUF_ rfl rfl rfl rfl rfl rfl ?_
                  refine p_skipUF_ rfl rfl rfl rfl rfl rfl ?_
                  refine p_skipUF_ rfl rfl rfl rfl rfl rfl ?_
                  refine p_skipUF_ rfl rfl rfl rfl rfl rfl ?_
                  refine p_skipUF_ rfl rfl rfl rfl rfl rfl ?_
                  refine p_skipF rfl rfl rfl rfl rfl rfl rfl ?_
                  refine p_skipF rfl rfl rfl rfl rfl rfl rfl ?_
                  refine p_skipUF_ rfl rfl rfl rfl rfl rfl ?_
                  refine p_skipUF_ rfl rfl rfl rfl rfl rfl ?_
                  refine p_skipUF_ rfl rfl rfl rfl rfl rfl ?_
                  refine p_skipU_ rfl rfl rfl rfl rfl rfl ?_
                  refine p_skipUF_ rfl rfl rfl rfl rfl rfl ?_
                  refine p_skipUF_ rfl rfl rfl rfl rfl rfl ?_
                  refine p_skipUF_ rfl rfl rfl rfl rfl rfl ?_
                  refine p_skipU_ rfl rfl rfl rfl rfl rfl ?_
                  refine p_skipUF_ rfl rfl rfl rfl rfl rfl ?_
                  refine p_skipF rfl rfl rfl rfl rfl rfl rfl ?_
                  refine p_freeG rfl rfl rfl rfl rfl rfl (fun _ _ => v_pickF rfl rfl) ?_
                  refine p_free rfl rfl rfl rfl (fun _ _ => v_pickF rfl rfl) ?_
                  refine p_done ?_
                  obtain rfl := Option.some.inj hm
                  exact g_leaf () (trivial) ((.cons rfl (.cons rfl (.cons rfl (.cons rfl (.cons rfl (.cons rfl (.cons rfl (.cons rfl (.cons rfl (.cons rfl (.cons rfl (.cons rfl .nil))))))))))))) (fun w hh => hh)
               ·replace hm := ifF (of_decide_eq_false h424) hm
                refine p_skipF rfl rfl rfl rfl rfl rfl rfl ?_
                refine p_skipF rfl rfl rfl rfl rfl rfl rfl ?_
                refine p_skipF rfl rfl rfl rfl rfl rfl rfl ?_
                refine p_freeG rfl rfl rfl rfl rfl rfl (fun _ _ => v_pickF rfl rfl) ?_
                refine p_freeG rfl rfl rfl rfl rfl rfl (fun _ _ => v_pickF rfl rfl) ?_
                refine p_freeG rfl rfl rfl rfl rfl rfl (fun _ _ => v_move rfl) ?_
                refine p_freeG rfl rfl rfl rfl rfl rfl (fun _ _ => v_move rfl) ?_
                refine p_freeG rfl rfl rfl rfl rfl rfl (fun _ _ => v_move rfl) ?_
                obtain ⟨t176_3, h429, hm⟩ := bindO hm
                refine p_freeG rfl rfl rfl rfl rfl rfl (fun w _ => v_ixA h429 (Try.runUnderlying43 w) (Try.sizeOf46 w) rfl rfl rfl h408.ne) ?_
                refine p_hoistG rfl rfl rfl rfl rfl rfl (fun w hh => v_ldE RI 0 h429 (Try.isAgg46 w) rfl (hh.seg 0 rfl) rfl (Nat.add_zero _).symm) ?_
                refine p_freeG rfl rfl rfl rfl rfl rfl (fun _ _ => v_move rfl) ?_
                refine p_freeG rfl rfl rfl rfl rfl rfl (fun _ _ => v_move rfl) ?_
                obtain ⟨t180_3, h430, hm⟩ := bindO hm
                refine p_freeG rfl rfl rfl rfl rfl rfl (fun w _ => v_ixA h430 (Try.runUnderlying43 w) (Try.sizeOf46 w) rfl rfl rfl h370.ne) ?_
                refine p_hoistG rfl rfl rfl rfl rfl rfl (fun w hh => v_ldE RI 0 h430 (Try.isAgg46 w) rfl (hh.seg 2 rfl) rfl (Nat.add_zero _).symm) ?_
                refine p_freeG rfl rfl rfl rfl rfl rfl (fun _ _ => v_gtr rfl rfl) ?_
                refine p_freeG rfl rfl rfl rfl rfl rfl (fun _ _ => v_pickF rfl rfl) ?_
                refine p_free rfl rfl rfl rfl (fun _ _ => v_pickT rfl rfl) ?_
                refine p_free rfl rfl rfl rfl (fun _ _ => v_move rfl) ?_
                refine g_case 185 rfl (fun h431 => ?_) (fun h431 => ?_)
                ·replace hm := ifT (of_decide_eq_true h431) hm
                 refine p_skipF rfl rfl rfl rfl rfl rfl rfl ?_
                 refine p_skipF rfl rfl rfl rfl rfl rfl rfl ?_
                 refine p_skipF rfl rfl rfl rfl rfl rfl rfl ?_
                 refine p_skipUF_ rfl rfl rfl rfl rfl rfl ?_
                 refine p_skipUF_ rfl rfl rfl rfl rfl rfl ?_
                 refine p_skipUF_ rfl rfl rfl rfl rfl rfl ?_
                 refine p_skipUF_ rfl rfl rfl rfl rfl rfl ?_
                 refine p_skipUF_ rfl rfl rfl rfl rfl rfl ?_
                 refine p_skipUF_ rfl rfl rfl rfl rfl rfl ?_
                 refine p_skipUF_ rfl rfl rfl rfl rfl rfl ?_
                 refine p_skipUF_ rfl rfl rfl rfl rfl rfl ?_
                 refine p_skipUF_ rfl rfl rfl rfl rfl rfl ?_
                 refine p_skipUF_ rfl rfl rfl rfl rfl rfl ?_
                 refine p_skipUF_ rfl rfl rfl rfl rfl rfl ?_
                 refine p_skipUF_ rfl rfl rfl rfl rfl rfl ?_
                 refine p_skipUF_ rfl rfl rfl rfl rfl rfl ?_
                 refine p_skipUF_ rfl rfl rfl rfl rfl rfl ?_
                 refine p_skipUF_ rfl rfl rfl rfl rfl rfl ?_
                 refine p_skipU_ rfl rfl rfl rfl rfl rfl ?_
                 refine p_skipUF_ rfl rfl rfl rfl rfl rfl ?_
                 refine p_skipUF_ rfl rfl rfl rfl rfl rfl ?_
                 refine p_skipUF_ rfl rfl rfl rfl rfl rfl ?_
                 refine p_skipU_ rfl rfl rfl rfl rfl rfl ?_
                 refine p_skipUF_ rfl rfl rfl rfl rfl rfl ?_
                 refine p_skipUF_ rfl rfl rfl rfl rfl rfl ?_
                 refine p_skipF rfl rfl rfl rfl rfl rfl rfl ?_
                 refine p_free rfl rfl rfl rfl (fun _ _ => v_pickT rfl rfl) ?_
                 refine p_done ?_
                 obtain rfl := Option.some.inj hm
                 exact g_leaf () (trivial) ((.cons rfl (.cons rfl (.cons rfl (.cons rfl (.cons rfl (.cons rfl (.cons rfl (.cons rfl (.cons rfl (.cons rfl (.cons rfl (.cons rfl .nil))))))))))))) (fun w hh => hh)
                ·replace hm := ifF (of_decide_eq_false h431) hm
                 refine p_freeG rfl rfl rfl rfl rfl rfl (fun _ _ => v_move rfl) ?_
                 refine p_freeG rfl rfl rfl rfl rfl rfl (fun _ _ => v_eql rfl rfl) ?_
                 refine p_freeG rfl rfl rfl rfl rfl rfl (fun _ _ => v_move rfl) ?_
                 refine p_skipF rfl rfl rfl rfl rfl rfl rfl ?_
                 refine p_skipF rfl rfl rfl rfl rfl rfl rfl ?_
                 refine p_skipF rfl rfl rfl rfl rfl rfl rfl ?_
                 refine p_skipUF_ rfl rfl rfl rfl rfl rfl ?_
                 refine p_skipUF_ rfl rfl rfl rfl rfl rfl ?_
                 refine p_skipUF_ rfl rfl rfl rfl rfl rfl ?_
                 refine p_skipUF_ rfl rfl rfl rfl rfl rfl ?_
                 refine p_skipUF_ rfl rfl rfl rfl rfl rfl ?_
                 refine p_skipUF_ rfl rfl rfl rfl rfl rfl ?_
                 refine p_skipUF_ rfl rfl rfl rfl rfl rfl ?_
                 refine p_skipF rfl rfl rfl rfl rfl rfl rfl ?_
                 refine p_skipF rfl rfl rfl rfl rfl rfl rfl ?_
                 refine p_skipUF_ rfl rfl rfl rfl rfl rfl ?_
                 refine p_skipUF_ rfl rfl rfl rfl rfl rfl ?_
                 refine p_skipUF_ rfl rfl rfl rfl rfl rfl ?_
                 refine p_skipU_ rfl rfl rfl rfl rfl rfl ?_
                 refine p_skipUF_ rfl rfl rfl rfl rfl rfl ?_
                 refine p_skipUF_ rfl rfl rfl rfl rfl rfl ?_
                 refine p_skipUF_ rfl rfl rfl rfl rfl rfl ?_
                 refine p_skipU_ rfl rfl rfl rfl rfl rfl ?_
                 refine p_skipUF_ rfl rfl rfl rfl rfl rfl ?_
                 refine p_skipF rfl rfl rfl rfl rfl rfl rfl ?_
                 refine p_freeG rfl rfl rfl rfl rfl rfl (fun _ _ => v_pickF rfl rfl) ?_
                 refine p_free rfl rfl rfl rfl (fun _ _ => v_pickF rfl rfl) ?_
                 refine p_done ?_
                 obtain rfl := Option.some.inj hm
                 exact g_leaf () (trivial) ((.cons rfl (.cons rfl (.cons rfl (.cons rfl (.cons rfl (.cons rfl (.cons rfl (.cons rfl (.cons rfl (.cons rfl (.cons rfl (.cons rfl .nil))))))))))))) (fun w hh => hh)
             ·intro l_44 hj
              replace hm := h422
              refine g_n_then ?_
              refine g_cond rfl (fun h432 => ?_) (fun h432 => ?_)
              ·replace hm := ifT (h432) hm
               refine g_seq ?_
               refine g_region ?_
               refine g_val rfl rfl rfl (fun _ _ => v_assign rfl) ?_
               refine g_nil ?_
               refine g_n_then ?_
               refine g_ret ?_
               refine g_r_blk ?_
               refine g_r_then ?_
               refine g_r_then ?_
               refine g_r_blk ?_
               obtain rfl := Option.some.inj hm
               have hbo := h415 _ rfl
               subst hbo
               refine g_r_then ?_
               replace hm := ocR h414
               refine g_r_blk ?_
               refine g_r_then ?_
               refine g_r_then ?_
               refine g_r_blk ?_
               refine g_r_then ?_
               obtain rfl := Option.some.inj hm
               refine g_done rfl (fun w hh => (.tmp rfl .nil)) (fun w hh => ⟨(), rfl, trivial, hh.sel [] [] 4 (by decide) (by decide) rfl rfl rfl⟩)
              ·replace hm := ifF ((fun hh => Bool.noConfusion ((h432).symm.trans hh))) hm
               refine g_skip ?_
               refine g_n_blk ?_
               refine g_n_then ?_
               refine g_region ?_
               obtain ⟨t213_1, h433, hm⟩ := bindO hm
               refine g_val rfl rfl rfl (fun _ _ => v_addc h433 rfl rfl) ?_
               refine g_val rfl rfl rfl (fun _ _ => v_move rfl) ?_
               refine g_nil ?_
               obtain rfl := Option.some.inj hm
               refine g_n_then ?_
               exact g_again' _ () rfl (trivial) ((.cons rfl (.cons rfl (.cons rfl (.cons rfl (.cons rfl (.cons rfl (.cons rfl (.cons rfl (.cons rfl (.cons rfl (.cons rfl .nil)))))))))))) (fun w hh => hh)
            ·replace hm := ifF (of_decide_eq_false h416) hm
             refine g_exit ?_
             refine g_x_then ?_
             refine g_x_then ?_
             refine g_x_blk ?_
             obtain rfl := Option.some.inj hm
             have hbo := h415 _ rfl
             subst hbo
             exact g_leaf () (rfl) ((.cons rfl (.cons rfl (.cons rfl (.cons rfl (.cons rfl (.cons rfl .nil))))))) (fun w hh => hh)
           ·intro j_1 hj
            have h434 := hj
            subst h434
            replace hm := ocL h414
            refine g_n_blk ?_
            refine g_n_then ?_
            refine g_region ?_
            refine g_val rfl rfl rfl (fun _ _ => v_addc (show addc 1 1 = some 2 from rfl) rfl rfl) ?_
            refine g_val rfl rfl rfl (fun _ _ => v_move rfl) ?_
            refine g_nil ?_
            refine g_n_then ?_
            refine g_unrS ?_
            refine g_seq ?_
            refine g_region ?_
            refine g_val rfl rfl rfl (fun _ _ => v_lss rfl rfl) ?_
            refine g_nil ?_
            refine g_n_then ?_
            refine g_seq ?_
            refine g_condT rfl rfl ?_
            refine g_skip ?_
            refine g_n_then ?_
            refine g_seq ?_
            refine g_block ?_
            refine g_seq ?_
            refine g_region ?_
            refine g_val rfl rfl rfl (fun _ _ => v_move rfl) ?_
            refine g_val rfl rfl rfl (fun w _ => v_ixS (o := 10) (Try.runUnderlying52 w) (Try.sizeOf29 w) rfl rfl 2 rfl rfl rfl) ?_
            refine g_val rfl rfl rfl (fun w hh => v_loadAgg (vs := [_, _, _, _, _]) (Try.isAgg29 w) (Try.sizeOf29 w) rfl (hh.cells 2 rfl rfl)) ?_
            refine g_allocV (fun w => Try.zeroValue29 w) rfl (fun b_103 h435 => ?_)
            refine g_val rfl rfl rfl (fun _ _ => v_assign rfl) ?_
            refine g_stSA (us := #[_, _, _, _, _]) (cs' := [_, _, _, _, _]) (S' := [_, _, _, _, _, _, _, _, _]) 0 (fun w => Try.sizeOf29 w) rfl rfl rfl rfl rfl rfl rfl ?_
            refine g_nil ?_
            refine g_n_then ?_
            refine g_seq ?_
            refine g_region ?_
            refine g_val rfl rfl rfl (fun w hh => v_loadAgg (vs := [_, _, _, _, _]) (Try.isAgg29 w) (Try.sizeOf29 w) rfl (hh.cells 0 rfl rfl)) ?_
            refine g_val rfl rfl rfl (fun _ _ => v_move rfl) ?_
            obtain ⟨t128_2, h436, hm⟩ := bindO hm
            refine g_callN rfl rfl rfl rfl rfl rfl rfl (fun a w => Try.call28 a w) (fun w hh => cx_All (⟨o.more13.table, o.more13.wind, o.more13.floors, t85⟩ : Sands) t98 l_2.2.2.2.2.2.2.2.2.2.1.q l_2.2.2.2.2.2.2.2.2.2.1.n l_2.2.2.2.2.2.2.2.2.2.1.cap l_2.2.2.2.2.2.2.2.2.2.2.1.q l_2.2.2.2.2.2.2.2.2.2.2.1.n l_2.2.2.2.2.2.2.2.2.2.2.1.cap L_145.q L_145.n L_145.cap w (HV.callee (S0 := []) (vs0 := []) hh (roC (hh.vsep (S0 := []) (vs0 := []) 6 rfl h17) (roC (hh.vsep (S0 := []) (vs0 := []) 7 rfl h18) (roC (hh.vsep (S0 := []) (vs0 := []) 8 rfl h358) roN)))) (vlen RW h17 rfl) (vne h17) (h17).hle (vlen RI h18 rfl) (vne h18) (h18).hle (vlen RS h358 rfl) (vne h358) (h358).hle h436) (fun l_45 h437 => ?_)
            refine g_val rfl rfl rfl (fun _ _ => v_move rfl) ?_
            refine g_val rfl rfl rfl (fun _ _ => v_extract rfl rfl) ?_
            refine g_val rfl rfl rfl (fun _ _ => v_extract rfl rfl) ?_
            refine g_val rfl rfl rfl (fun _ _ => v_assign rfl) ?_
            refine g_val rfl rfl rfl (fun _ _ => v_assign rfl) ?_
            refine g_nil ?_
            refine g_n_then ?_
            refine g_seq ?_
            refine g_seq ?_
            obtain ⟨o_9, h438, h439⟩ := bindO hm
            refine g_cut (ι := Unit) (fun l_46 => True) (fun l_46 => [(10, ptr b 0), (14, .int .i64 t98), (15, slv l_31.1 t102.1.length l_31.2), (17, .int .i64 2), (18, ptr b_103 0), (19, slv l_45.1 t128_2.1.length l_45.2), (118, slv (some (b_100, 0)) 3 3), (119, .int .i64 3), (120, .int .i64 2), (139, .bool o_9)]) (fun l_46 => [(b_103, .cells #[slv l_2.2.2.2.2.2.2.2.2.2.1.q l_2.2.2.2.2.2.2.2.2.2.1.n l_2.2.2.2.2.2.2.2.2.2.1.cap, .int .i64 o.more13.wind.lo, .int .i64 o.more13.wind.hi, slv l_2.2.2.2.2.2.2.2.2.2.2.1.q l_2.2.2.2.2.2.2.2.2.2.2.1.n l_2.2.2.2.2.2.2.2.2.2.2.1.cap, slv L_145.q L_145.n L_145.cap] 29 (0, 0)), (b_102, .cells #[slv l_2.2.2.2.2.2.2.1.q l_2.2.2.2.2.2.2.1.n l_2.2.2.2.2.2.2.1.cap, .int .i64 o.floor12.wind.lo, .int .i64 o.floor12.wind.hi, slv l_2.2.2.2.2.2.2.2.1.q l_2.2.2.2.2.2.2.2.1.n l_2.2.2.2.2.2.2.2.1.cap, slv l_2.2.2.2.2.2.2.2.2.1.q l_2.2.2.2.2.2.2.2.2.1.n l_2.2.2.2.2.2.2.2.2.1.cap] 29 (0, 0)), (b_101, .cells #[slv l_2.2.2.2.1.q l_2.2.2.2.1.n l_2.2.2.2.1.cap, .int .i64 o.sill11.wind.lo, .int .i64 o.sill11.wind.hi, slv l_2.2.2.2.2.1.q l_2.2.2.2.2.1.n l_2.2.2.2.2.1.cap, slv l_2.2.2.2.2.2.1.q l_2.2.2.2.2.2.1.n l_2.2.2.2.2.2.1.cap] 29 (0, 0)), (b_100, .cells #[slv l_2.2.2.2.1.q l_2.2.2.2.1.n l_2.2.2.2.1.cap, .int .i64 o.sill11.wind.lo, .int .i64 o.sill11.wind.hi, slv l_2.2.2.2.2.1.q l_2.2.2.2.2.1.n l_2.2.2.2.2.1.cap, slv l_2.2.2.2.2.2.1.q l_2.2.2.2.2.2.1.n l_2.2.2.2.2.2.1.cap, slv l_2.2.2.2.2.2.2.1.q l_2.2.2.2.2.2.2.1.n l_2.2.2.2.2.2.2.1.cap, .int .i64 o.floor12.wind.lo, .int .i64 o.floor12.wind.hi, slv l_2.2.2.2.2.2.2.2.1.q l_2.2.2.2.2.2.2.2.1.n l_2.2.2.2.2.2.2.2.1.cap, slv l_2.2.2.2.2.2.2.2.2.1.q l_2.2.2.2.2.2.2.2.2.1.n l_2.2.2.2.2.2.2.2.2.1.cap, slv l_2.2.2.2.2.2.2.2.2.2.1.q l_2.2.2.2.2.2.2.2.2.2.1.n l_2.2.2.2.2.2.2.2.2.2.1.cap, .int .i64 o.more13.wind.lo, .int .i64 o.more13.wind.hi, slv l_2.2.2.2.2.2.2.2.2.2.2.1.q l_2.2.2.2.2.2.2.2.2.2.2.1.n l_2.2.2.2.2.2.2.2.2.2.2.1.cap, slv L_145.q L_145.n L_145.cap] 29 (0, 0)), (b, .cells #[slv l_1.1.q l_1.1.n l_1.1.cap, .int .i64 t29.r0.wind.lo, .int .i64 t29.r0.wind.hi, slv l_1.2.1.q l_1.2.1.n l_1.2.1.cap, slv l_1.2.2.q l_1.2.2.n l_1.2.2.cap] 29 (0, 0)), (l, .cells #[.slice qa0 na0 ca0, .int .i64 t29.b0_1, .int .u32 t29.b0_2] 138 (0, 0)), (l_2.1, .cells #[slv l_2.2.2.2.1.q l_2.2.2.2.1.n l_2.2.2.2.1.cap, .int .i64 o.sill11.wind.lo, .int .i64 o.sill11.wind.hi, slv l_2.2.2.2.2.1.q l_2.2.2.2.2.1.n l_2.2.2.2.2.1.cap, slv l_2.2.2.2.2.2.1.q l_2.2.2.2.2.2.1.n l_2.2.2.2.2.2.1.cap] 29 (0, 0)), (l_2.2.1, .cells #[slv l_2.2.2.2.2.2.2.1.q l_2.2.2.2.2.2.2.1.n l_2.2.2.2.2.2.2.1.cap, .int .i64 o.floor12.wind.lo, .int .i64 o.floor12.wind.hi, slv l_2.2.2.2.2.2.2.2.1.q l_2.2.2.2.2.2.2.2.1.n l_2.2.2.2.2.2.2.2.1.cap, slv l_2.2.2.2.2.2.2.2.2.1.q l_2.2.2.2.2.2.2.2.2.1.n l_2.2.2.2.2.2.2.2.2.1.cap] 29 (0, 0)), (l_2.2.2.1, .cells #[slv l_2.2.2.2.2.2.2.2.2.2.1.q l_2.2.2.2.2.2.2.2.2.2.1.n l_2.2.2.2.2.2.2.2.2.2.1.cap, .int .i64 o.more13.wind.lo, .int .i64 o.more13.wind.hi, slv l_2.2.2.2.2.2.2.2.2.2.2.1.q l_2.2.2.2.2.2.2.2.2.2.2.1.n l_2.2.2.2.2.2.2.2.2.2.2.1.cap, slv L_145.q L_145.n L_145.cap] 29 (0, 0))]) (fun l_46 => [⟨68, RW.enc o.more13.table, l_2.2.2.2.2.2.2.2.2.2.1.sp, l_2.2.2.2.2.2.2.2.2.2.1.q⟩, ⟨3, RI.enc o.more13.floors, l_2.2.2.2.2.2.2.2.2.2.2.1.sp, l_2.2.2.2.2.2.2.2.2.2.2.1.q⟩, ⟨51, RS.enc t85, L_145.sp, L_145.q⟩, ⟨68, RW.enc o.floor12.table, l_2.2.2.2.2.2.2.1.sp, l_2.2.2.2.2.2.2.1.q⟩, ⟨3, RI.enc floor12_floors, l_2.2.2.2.2.2.2.2.1.sp, l_2.2.2.2.2.2.2.2.1.q⟩, ⟨51, RS.enc o.floor12.sills, l_2.2.2.2.2.2.2.2.2.1.sp, l_2.2.2.2.2.2.2.2.2.1.q⟩, ⟨68, RW.enc o.sill11.table, l_2.2.2.2.1.sp, l_2.2.2.2.1.q⟩, ⟨3, RI.enc o.sill11.floors, l_2.2.2.2.2.1.sp, l_2.2.2.2.2.1.q⟩, ⟨51, RS.enc o_1, l_2.2.2.2.2.2.1.sp, l_2.2.2.2.2.2.1.q⟩, ⟨68, RW.enc t29.r0.table, l_1.1.sp, l_1.1.q⟩, ⟨3, RI.enc t29.r0.floors, l_1.2.1.sp, l_1.2.1.q⟩, ⟨51, RS.enc t29.r0.sills, l_1.2.2.sp, l_1.2.2.q⟩]) ?_ ?_
            ·replace hm := h438
             refine g_region ?_
             refine g_val rfl rfl rfl (fun _ _ => v_move rfl) ?_
             refine g_val rfl rfl rfl (fun _ _ => v_neq rfl rfl) ?_
             refine g_val rfl rfl rfl (fun _ _ => v_move rfl) ?_
             refine g_case 133 rfl (fun h440 => ?_) (fun h440 => ?_)
             ·replace hm := ifF (of_ndec_true h440) hm
              refine g_skipG rfl rfl rfl rfl rfl rfl ?_
              refine g_skipG rfl rfl rfl rfl rfl rfl ?_
              refine g_skipG rfl rfl rfl rfl rfl rfl ?_
              refine g_skipG rfl rfl rfl rfl rfl rfl ?_
              refine g_skipG rfl rfl rfl rfl rfl rfl ?_
              refine g_val rfl rfl rfl (fun _ _ => v_pickT rfl rfl) ?_
              refine g_nil ?_
              obtain rfl := Option.some.inj hm
              exact g_leaf () (trivial) ((.cons rfl (.cons rfl (.cons rfl (.cons rfl (.cons rfl (.cons rfl (.cons rfl (.cons rfl (.cons rfl (.cons rfl .nil))))))))))) (fun w hh => hh.sel [0, 1, 2, 3, 4, 5, 6, 7, 8] [6, 7, 8, 0, 1, 2, 3, 4, 5, 9, 10, 11] 0 (by decide) (by decide) rfl rfl rfl)
             ·replace hm := ifT (of_ndec_false h440) hm
              refine v_unguard rfl rfl ?_
              refine g_val rfl rfl rfl (fun _ _ => v_move rfl) ?_
              refine v_unguard rfl rfl ?_
              refine g_val rfl rfl rfl (fun w _ => v_lenN rfl (Try.runUnderlying43 w) rfl) ?_
              refine v_unguard rfl rfl ?_
              refine g_val rfl rfl rfl (fun _ _ => v_move rfl) ?_
              refine v_unguard rfl rfl ?_
              refine g_val rfl rfl rfl (fun w _ => v_lenN rfl (Try.runUnderlying43 w) rfl) ?_
              refine v_unguard rfl rfl ?_
              refine g_val rfl rfl rfl (fun _ _ => v_neq rfl rfl) ?_
              refine g_val rfl rfl rfl (fun _ _ => v_pickF rfl rfl) ?_
              refine g_nil ?_
              obtain rfl := Option.some.inj hm
              exact g_leaf () (trivial) ((.cons rfl (.cons rfl (.cons rfl (.cons rfl (.cons rfl (.cons rfl (.cons rfl (.cons rfl (.cons rfl (.cons rfl .nil))))))))))) (fun w hh => hh.sel [0, 1, 2, 3, 4, 5, 6, 7, 8] [6, 7, 8, 0, 1, 2, 3, 4, 5, 9, 10, 11] 0 (by decide) (by decide) rfl rfl rfl)
            ·intro l_46 hj
             replace hm := h439
             refine g_n_then ?_
             refine g_cond rfl (fun h441 => ?_) (fun h441 => ?_)
             ·replace hm := ifT (h441) hm
              refine g_seq ?_
              refine g_region ?_
              refine g_val rfl rfl rfl (fun _ _ => v_assign rfl) ?_
              refine g_nil ?_
              refine g_n_then ?_
              refine g_ret ?_
              refine g_r_then ?_
              refine g_r_blk ?_
              refine g_r_then ?_
              refine g_r_then ?_
              refine g_r_blk ?_
              refine g_r_then ?_
              obtain rfl := Option.some.inj hm
              refine g_done rfl (fun w hh => (.tmp rfl .nil)) (fun w hh => ⟨(), rfl, trivial, hh.sel [] [] 5 (by decide) (by decide) rfl rfl rfl⟩)
             ·replace hm := ifF ((fun hh => Bool.noConfusion ((h441).symm.trans hh))) hm
              refine g_skip ?_
              refine g_n_then ?_
              refine g_seq ?_
              refine g_region ?_
              refine g_val rfl rfl rfl (fun w _ => v_fieldAddr 3 (Try.runUnderlying29 w) rfl (Try.sizeOf26 w) rfl) ?_
              refine g_val rfl rfl rfl (fun w hh => v_load (Try.isAgg26 w) rfl (hh.cell 4 rfl rfl)) ?_
              refine g_val rfl rfl rfl (fun w _ => v_lenN (vlen RI h6 rfl) (Try.runUnderlying26 w) rfl) ?_
              refine g_val rfl rfl rfl (fun _ _ => v_move rfl) ?_
              refine g_nil ?_
              refine g_n_then ?_
              obtain ⟨o_10, h442, h443⟩ := bindO hm
              refine g_cut (ι := Unit) (fun j_2 => o_10 = .inl j_2) (fun j_2 => [(10, ptr b 0), (14, .int .i64 t98), (15, slv l_31.1 t102.1.length l_31.2), (118, slv (some (b_100, 0)) 3 3), (119, .int .i64 3), (120, .int .i64 2)]) (fun j_2 => [(b_103, .cells #[slv l_2.2.2.2.2.2.2.2.2.2.1.q l_2.2.2.2.2.2.2.2.2.2.1.n l_2.2.2.2.2.2.2.2.2.2.1.cap, .int .i64 o.more13.wind.lo, .int .i64 o.more13.wind.hi, slv l_2.2.2.2.2.2.2.2.2.2.2.1.q l_2.2.2.2.2.2.2.2.2.2.2.1.n l_2.2.2.2.2.2.2.2.2.2.2.1.cap, slv L_145.q L_145.n L_145.cap] 29 (0, 0)), (b_102, .cells #[slv l_2.2.2.2.2.2.2.1.q l_2.2.2.2.2.2.2.1.n l_2.2.2.2.2.2.2.1.cap, .int .i64 o.floor12.wind.lo, .int .i64 o.floor12.wind.hi, slv l_2.2.2.2.2.2.2.2.1.q l_2.2.2.2.2.2.2.2.1.n l_2.2.2.2.2.2.2.2.1.cap, slv l_2.2.2.2.2.2.2.2.2.1.q l_2.2.2.2.2.2.2.2.2.1.n l_2.2.2.2.2.2.2.2.2.1.cap] 29 (0, 0)), (b_101, .cells #[slv l_2.2.2.2.1.q l_2.2.2.2.1.n l_2.2.2.2.1.cap, .int .i64 o.sill11.wind.lo, .int .i64 o.sill11.wind.hi, slv l_2.2.2.2.2.1.q l_2.2.2.2.2.1.n l_2.2.2.2.2.1.cap, slv l_2.2.2.2.2.2.1.q l_2.2.2.2.2.2.1.n l_2.2.2.2.2.2.1.cap] 29 (0, 0)), (b_100, .cells #[slv l_2.2.2.2.1.q l_2.2.2.2.1.n l_2.2.2.2.1.cap, .int .i64 o.sill11.wind.lo, .int .i64 o.sill11.wind.hi, slv l_2.2.2.2.2.1.q l_2.2.2.2.2.1.n l_2.2.2.2.2.1.cap, slv l_2.2.2.2.2.2.1.q l_2.2.2.2.2.2.1.n l_2.2.2.2.2.2.1.cap, slv l_2.2.2.2.2.2.2.1.q l_2.2.2.2.2.2.2.1.n l_2.2.2.2.2.2.2.1.cap, .int .i64 o.floor12.wind.lo, .int .i64 o.floor12.wind.hi, slv l_2.2.2.2.2.2.2.2.1.q l_2.2.2.2.2.2.2.2.1.n l_2.2.2.2.2.2.2.2.1.cap, slv l_2.2.2.2.2.2.2.2.2.1.q l_2.2.2.2.2.2.2.2.2.1.n l_2.2.2.2.2.2.2.2.2.1.cap, slv l_2.2.2.2.2.2.2.2.2.2.1.q l_2.2.2.2.2.2.2.2.2.2.1.n l_2.2.2.2.2.2.2.2.2.2.1.cap, .int .i64 o.more13.wind.lo, .int .i64 o.more13.wind.hi, slv l_2.2.2.2.2.2.2.2.2.2.2.1.q l_2.2.2.2.2.2.2.2.2.2.2.1.n l_2.2.2.2.2.2.2.2.2.2.2.1.cap, slv L_145.q L_145.n L_145.cap] 29 (0, 0)), (b, .cells #[slv l_1.1.q l_1.1.n l_1.1.cap, .int .i64 t29.r0.wind.lo, .int .i64 t29.r0.wind.hi, slv l_1.2.1.q l_1.2.1.n l_1.2.1.cap, slv l_1.2.2.q l_1.2.2.n l_1.2.2.cap] 29 (0, 0)), (l, .cells #[.slice qa0 na0 ca0, .int .i64 t29.b0_1, .int .u32 t29.b0_2] 138 (0, 0)), (l_2.1, .cells #[slv l_2.2.2.2.1.q l_2.2.2.2.1.n l_2.2.2.2.1.cap, .int .i64 o.sill11.wind.lo, .int .i64 o.sill11.wind.hi, slv l_2.2.2.2.2.1.q l_2.2.2.2.2.1.n l_2.2.2.2.2.1.cap, slv l_2.2.2.2.2.2.1.q l_2.2.2.2.2.2.1.n l_2.2.2.2.2.2.1.cap] 29 (0, 0)), (l_2.2.1, .cells #[slv l_2.2.2.2.2.2.2.1.q l_2.2.2.2.2.2.2.1.n l_2.2.2.2.2.2.2.1.cap, .int .i64 o.floor12.wind.lo, .int .i64 o.floor12.wind.hi, slv l_2.2.2.2.2.2.2.2.1.q l_2.2.2.2.2.2.2.2.1.n l_2.2.2.2.2.2.2.2.1.cap, slv l_2.2.2.2.2.2.2.2.2.1.q l_2.2.2.2.2.2.2.2.2.1.n l_2.2.2.2.2.2.2.2.2.1.cap] 29 (0, 0)), (l_2.2.2.1, .cells #[slv l_2.2.2.2.2.2.2.2.2.2.1.q l_2.2.2.2.2.2.2.2.2.2.1.n l_2.2.2.2.2.2.2.2.2.2.1.cap, .int .i64 o.more13.wind.lo, .int .i64 o.more13.wind.hi, slv l_2.2.2.2.2.2.2.2.2.2.2.1.q l_2.2.2.2.2.2.2.2.2.2.2.1.n l_2.2.2.2.2.2.2.2.2.2.2.1.cap, slv L_145.q L_145.n L_145.cap] 29 (0, 0))]) (fun j_2 => [⟨68, RW.enc o.more13.table, l_2.2.2.2.2.2.2.2.2.2.1.sp, l_2.2.2.2.2.2.2.2.2.2.1.q⟩, ⟨3, RI.enc o.more13.floors, l_2.2.2.2.2.2.2.2.2.2.2.1.sp, l_2.2.2.2.2.2.2.2.2.2.2.1.q⟩, ⟨51, RS.enc t85, L_145.sp, L_145.q⟩, ⟨68, RW.enc o.floor12.table, l_2.2.2.2.2.2.2.1.sp, l_2.2.2.2.2.2.2.1.q⟩, ⟨3, RI.enc floor12_floors, l_2.2.2.2.2.2.2.2.1.sp, l_2.2.2.2.2.2.2.2.1.q⟩, ⟨51, RS.enc o.floor12.sills, l_2.2.2.2.2.2.2.2.2.1.sp, l_2.2.2.2.2.2.2.2.2.1.q⟩, ⟨68, RW.enc o.sill11.table, l_2.2.2.2.1.sp, l_2.2.2.2.1.q⟩, ⟨3, RI.enc o.sill11.floors, l_2.2.2.2.2.1.sp, l_2.2.2.2.2.1.q⟩, ⟨51, RS.enc o_1, l_2.2.2.2.2.2.1.sp, l_2.2.2.2.2.2.1.q⟩, ⟨68, RW.enc t29.r0.table, l_1.1.sp, l_1.1.q⟩, ⟨3, RI.enc t29.r0.floors, l_1.2.1.sp, l_1.2.1.q⟩, ⟨51, RS.enc t29.r0.sills, l_1.2.2.sp, l_1.2.2.q⟩]) ?_ ?_
              ·replace hm := h442
               refine g_block ?_
               refine g_loopF (ι := Unit) hm (fun s_2 l_47 => True) (fun s_2 l_47 => [(10, ptr b 0), (14, .int .i64 t98), (15, slv l_31.1 t102.1.length l_31.2), (17, .int .i64 2), (18, ptr b_103 0), (19, slv l_45.1 t128_2.1.length l_45.2), (118, slv (some (b_100, 0)) 3 3), (119, .int .i64 3), (120, .int .i64 2), (142, .int .i64 (t29.r0.floors.length : Int)), (143, .int .i64 s_2)]) (fun s_2 l_47 => [(b_103, .cells #[slv l_2.2.2.2.2.2.2.2.2.2.1.q l_2.2.2.2.2.2.2.2.2.2.1.n l_2.2.2.2.2.2.2.2.2.2.1.cap, .int .i64 o.more13.wind.lo, .int .i64 o.more13.wind.hi, slv l_2.2.2.2.2.2.2.2.2.2.2.1.q l_2.2.2.2.2.2.2.2.2.2.2.1.n l_2.2.2.2.2.2.2.2.2.2.2.1.cap, slv L_145.q L_145.n L_145.cap] 29 (0, 0)), (b_102, .cells #[slv l_2.2.2.2.2.2.2.1.q l_2.2.2.2.2.2.2.1.n l_2.2.2.2.2.2.2.1.cap, .int .i64 o.floor12.wind.lo, .int .i64 o.floor12.wind.hi, slv l_2.2.2.2.2.2.2.2.1.q l_2.2.2.2.2.2.2.2.1.n l_2.2.2.2.2.2.2.2.1.cap, slv l_2.2.2.2.2.2.2.2.2.1.q l_2.2.2.2.2.2.2.2.2.1.n l_2.2.2.2.2.2.2.2.2.1.cap] 29 (0, 0)), (b_101, .cells #[slv l_2.2.2.2.1.q l_2.2.2.2.1.n l_2.2.2.2.1.cap, .int .i64 o.sill11.wind.lo, .int .i64 o.sill11.wind.hi, slv l_2.2.2.2.2.1.q l_2.2.2.2.2.1.n l_2.2.2.2.2.1.cap, slv l_2.2.2.2.2.2.1.q l_2.2.2.2.2.2.1.n l_2.2.2.2.2.2.1.cap] 29 (0, 0)), (b_100, .cells #[slv l_2.2.2.2.1.q l_2.2.2.2.1.n l_2.2.2.2.1.cap, .int .i64 o.sill11.wind.lo, .int .i64 o.sill11.wind.hi, slv l_2.2.2.2.2.1.q l_2.2.2.2.2.1.n l_2.2.2.2.2.1.cap, slv l_2.2.2.2.2.2.1.q l_2.2.2.2.2.2.1.n l_2.2.2.2.2.2.1.cap, slv l_2.2.2.2.2.2.2.1.q l_2.2.2.2.2.2.2.1.n l_2.2.2.2.2.2.2.1.cap, .int .i64 o.floor12.wind.lo, .int .i64 o.floor12.wind.hi, slv l_2.2.2.2.2.2.2.2.1.q l_2.2.2.2.2.2.2.2.1.n l_2.2.2.2.2.2.2.2.1.cap, slv l_2.2.2.2.2.2.2.2.2.1.q l_2.2.2.2.2.2.2.2.2.1.n l_2.2.2.2.2.2.2.2.2.1.cap, slv l_2.2.2.2.2.2.2.2.2.2.1.q l_2.2.2.2.2.2.2.2.2.2.1.n l_2.2.2.2.2.2.2.2.2.2.1.cap, .int .i64 o.more13.wind.lo, .int .i64 o.more13.wind.hi, slv l_2.2.2.2.2.2.2.2.2.2.2.1.q l_2.2.2.2.2.2.2.2.2.2.2.1.n l_2.2.2.2.2.2.2.2.2.2.2.1.cap, slv L_145.q L_145.n L_145.cap] 29 (0, 0)), (b, .cells #[slv l_1.1.q l_1.1.n l_1.1.cap, .int .i64 t29.r0.wind.lo, .int .i64 t29.r0.wind.hi, slv l_1.2.1.q l_1.2.1.n l_1.2.1.cap, slv l_1.2.2.q l_1.2.2.n l_1.2.2.cap] 29 (0, 0)), (l, .cells #[.slice qa0 na0 ca0, .int .i64 t29.b0_1, .int .u32 t29.b0_2] 138 (0, 0)), (l_2.1, .cells #[slv l_2.2.2.2.1.q l_2.2.2.2.1.n l_2.2.2.2.1.cap, .int .i64 o.sill11.wind.lo, .int .i64 o.sill11.wind.hi, slv l_2.2.2.2.2.1.q l_2.2.2.2.2.1.n l_2.2.2.2.2.1.cap, slv l_2.2.2.2.2.2.1.q l_2.2.2.2.2.2.1.n l_2.2.2.2.2.2.1.cap] 29 (0, 0)), (l_2.2.1, .cells #[slv l_2.2.2.2.2.2.2.1.q l_2.2.2.2.2.2.2.1.n l_2.2.2.2.2.2.2.1.cap, .int .i64 o.floor12.wind.lo, .int .i64 o.floor12.wind.hi, slv l_2.2.2.2.2.2.2.2.1.q l_2.2.2.2.2.2.2.2.1.n l_2.2.2.2.2.2.2.2.1.cap, slv l_2.2.2.2.2.2.2.2.2.1.q l_2.2.2.2.2.2.2.2.2.1.n l_2.2.2.2.2.2.2.2.2.1.cap] 29 (0, 0)), (l_2.2.2.1, .cells #[slv l_2.2.2.2.2.2.2.2.2.2.1.q l_2.2.2.2.2.2.2.2.2.2.1.n l_2.2.2.2.2.2.2.2.2.2.1.cap, .int .i64 o.more13.wind.lo, .int .i64 o.more13.wind.hi, slv l_2.2.2.2.2.2.2.2.2.2.2.1.q l_2.2.2.2.2.2.2.2.2.2.2.1.n l_2.2.2.2.2.2.2.2.2.2.2.1.cap, slv L_145.q L_145.n L_145.cap] 29 (0, 0))]) (fun s_2 l_47 => [⟨68, RW.enc o.more13.table, l_2.2.2.2.2.2.2.2.2.2.1.sp, l_2.2.2.2.2.2.2.2.2.2.1.q⟩, ⟨3, RI.enc o.more13.floors, l_2.2.2.2.2.2.2.2.2.2.2.1.sp, l_2.2.2.2.2.2.2.2.2.2.2.1.q⟩, ⟨51, RS.enc t85, L_145.sp, L_145.q⟩, ⟨68, RW.enc o.floor12.table, l_2.2.2.2.2.2.2.1.sp, l_2.2.2.2.2.2.2.1.q⟩, ⟨3, RI.enc floor12_floors, l_2.2.2.2.2.2.2.2.1.sp, l_2.2.2.2.2.2.2.2.1.q⟩, ⟨51, RS.enc o.floor12.sills, l_2.2.2.2.2.2.2.2.2.1.sp, l_2.2.2.2.2.2.2.2.2.1.q⟩, ⟨68, RW.enc o.sill11.table, l_2.2.2.2.1.sp, l_2.2.2.2.1.q⟩, ⟨3, RI.enc o.sill11.floors, l_2.2.2.2.2.1.sp, l_2.2.2.2.2.1.q⟩, ⟨51, RS.enc o_1, l_2.2.2.2.2.2.1.sp, l_2.2.2.2.2.2.1.q⟩, ⟨68, RW.enc t29.r0.table, l_1.1.sp, l_1.1.q⟩, ⟨3, RI.enc t29.r0.floors, l_1.2.1.sp, l_1.2.1.q⟩, ⟨51, RS.enc t29.r0.sills, l_1.2.2.sp, l_1.2.2.q⟩]) () (trivial) ((.cons rfl (.cons rfl (.cons rfl (.cons rfl (.cons rfl (.cons rfl (.cons rfl (.cons rfl (.cons rfl (.cons rfl (.cons rfl .nil)))))))))))) (fun w hh => hh) (fun s_2 l_47 r_2 hpl hm h444 => ?_)
               unfold m_laurellaw01_TideHigher_L2 at hm
               refine g_seq ?_
               refine g_region ?_
               refine g_val rfl rfl rfl (fun _ _ => v_lss rfl rfl) ?_
               refine g_nil ?_
               refine g_n_then ?_
               refine g_seq ?_
               refine g_cond rfl (fun h445 => ?_) (fun h445 => ?_)
               ·replace hm := ifT (of_decide_eq_true h445) hm
                refine g_skip ?_
                refine g_n_then ?_
                refine g_seq ?_
                refine g_block ?_
                refine g_seq ?_
                refine g_region ?_
                refine g_val rfl rfl rfl (fun _ _ => v_move rfl) ?_
                refine g_val rfl rfl rfl (fun _ _ => v_assign rfl) ?_
                refine g_nil ?_
                refine g_n_then ?_
                refine g_seq ?_
                refine g_region ?_
                refine g_val rfl rfl rfl (fun w hh => v_loadAgg (vs := [_, _, _, _, _]) (Try.isAgg29 w) (Try.sizeOf29 w) rfl (hh.cells 4 rfl rfl)) ?_
                refine g_val rfl rfl rfl (fun _ _ => v_move rfl) ?_
                obtain ⟨t149_2, h446, hm⟩ := bindO hm
                refine g_callH [] [] rfl rfl rfl rfl rfl rfl rfl (fun a w => Try.call31 a w) (fun w hh => cx_Gate t29.r0 s_2 l_1.1.q l_1.1.n l_1.1.cap l_1.2.1.q l_1.2.1.n l_1.2.1.cap l_1.2.2.q l_1.2.2.n l_1.2.2.cap w (HV.callee (S0 := []) (vs0 := []) hh (roC (hh.vsep (S0 := []) (vs0 := []) 9 rfl h5) (roC (hh.vsep (S0 := []) (vs0 := []) 10 rfl h6) (roC (hh.vsep (S0 := []) (vs0 := []) 11 rfl h7) roN)))) (vlen RW h5 rfl) (vne h5) (h5).hle (vlen RI h6 rfl) (vne h6) (h6).hle (vlen RS h7 rfl) (vne h7) (h7).hle h446) (fun l_48 h447 => ?_)
                refine g_val rfl rfl rfl (fun _ _ => v_move rfl) ?_
                refine g_val rfl rfl rfl (fun _ _ => v_extract rfl rfl) ?_
                refine g_val rfl rfl rfl (fun _ _ => v_extract rfl rfl) ?_
                refine g_val rfl rfl rfl (fun _ _ => v_assign rfl) ?_
                refine g_val rfl rfl rfl (fun _ _ => v_assign rfl) ?_
                refine g_nil ?_
                refine g_n_then ?_
                refine g_seq ?_
                refine g_region ?_
                refine g_val rfl rfl rfl (fun w hh => v_loadAgg (vs := [_, _, _, _, _]) (Try.isAgg29 w) (Try.sizeOf29 w) rfl (hh.cells 0 rfl rfl)) ?_
                refine g_val rfl rfl rfl (fun _ _ => v_move rfl) ?_
                obtain ⟨t155_2, h448, hm⟩ := bindO hm
                refine g_callH [] [] rfl rfl rfl rfl rfl rfl rfl (fun a w => Try.call31 a w) (fun w hh => cx_Gate (⟨o.more13.table, o.more13.wind, o.more13.floors, t85⟩ : Sands) s_2 l_2.2.2.2.2.2.2.2.2.2.1.q l_2.2.2.2.2.2.2.2.2.2.1.n l_2.2.2.2.2.2.2.2.2.2.1.cap l_2.2.2.2.2.2.2.2.2.2.2.1.q l_2.2.2.2.2.2.2.2.2.2.2.1.n l_2.2.2.2.2.2.2.2.2.2.2.1.cap L_145.q L_145.n L_145.cap w (HV.callee (S0 := []) (vs0 := []) hh (roC (hh.vsep (S0 := []) (vs0 := []) 0 rfl h17) (roC (hh.vsep (S0 := []) (vs0 := []) 1 rfl h18) (roC (hh.vsep (S0 := []) (vs0 := []) 2 rfl h358) roN)))) (vlen RW h17 rfl) (vne h17) (h17).hle (vlen RI h18 rfl) (vne h18) (h18).hle (vlen RS h358 rfl) (vne h358) (h358).hle h448) (fun l_49 h449 => ?_)
                refine g_val rfl rfl rfl (fun _ _ => v_move rfl) ?_
                refine g_val rfl rfl rfl (fun _ _ => v_extract rfl rfl) ?_
                refine g_val rfl rfl rfl (fun _ _ => v_extract rfl rfl) ?_
                refine g_val rfl rfl rfl (fun _ _ => v_assign rfl) ?_
                refine g_val rfl rfl rfl (fun _ _ => v_assign rfl) ?_
                refine g_nil ?_
                refine g_n_then ?_
                refine g_seq ?_
                obtain ⟨o_11, h450, h451⟩ := bindO hm
                refine g_cut (ι := Unit) (fun l_50 => True) (fun l_50 => [(10, ptr b 0), (14, .int .i64 t98), (15, slv l_31.1 t102.1.length l_31.2), (17, .int .i64 2), (18, ptr b_103 0), (19, slv l_45.1 t128_2.1.length l_45.2), (118, slv (some (b_100, 0)) 3 3), (119, .int .i64 3), (120, .int .i64 2), (142, .int .i64 (t29.r0.floors.length : Int)), (143, .int .i64 s_2), (212, .bool o_11)]) (fun l_50 => [(b_103, .cells #[slv l_2.2.2.2.2.2.2.2.2.2.1.q l_2.2.2.2.2.2.2.2.2.2.1.n l_2.2.2.2.2.2.2.2.2.2.1.cap, .int .i64 o.more13.wind.lo, .int .i64 o.more13.wind.hi, slv l_2.2.2.2.2.2.2.2.2.2.2.1.q l_2.2.2.2.2.2.2.2.2.2.2.1.n l_2.2.2.2.2.2.2.2.2.2.2.1.cap, slv L_145.q L_145.n L_145.cap] 29 (0, 0)), (b_102, .cells #[slv l_2.2.2.2.2.2.2.1.q l_2.2.2.2.2.2.2.1.n l_2.2.2.2.2.2.2.1.cap, .int .i64 o.floor12.wind.lo, .int .i64 o.floor12.wind.hi, slv l_2.2.2.2.2.2.2.2.1.q l_2.2.2.2.2.2.2.2.1.n l_2.2.2.2.2.2.2.2.1.cap, slv l_2.2.2.2.2.2.2.2.2.1.q l_2.2.2.2.2.2.2.2.2.1.n l_2.2.2.2.2.2.2.2.2.1.cap] 29 (0, 0)), (b_101, .cells #[slv l_2.2.2.2.1.q l_2.2.2.2.1.n l_2.2.2.2.1.cap, .int .i64 o.sill11.wind.lo, .int .i64 o.sill11.wind.hi, slv l_2.2.2.2.2.1.q l_2.2.2.2.2.1.n l_2.2.2.2.2.1.cap, slv l_2.2.2.2.2.2.1.q l_2.2.2.2.2.2.1.n l_2.2.2.2.2.2.1.cap] 29 (0, 0)), (b_100, .cells #[slv l_2.2.2.2.1.q l_2.2.2.2.1.n l_2.2.2.2.1.cap, .int .i64 o.sill11.wind.lo, .int .i64 o.sill11.wind.hi, slv l_2.2.2.2.2.1.q l_2.2.2.2.2.1.n l_2.2.2.2.2.1.cap, slv l_2.2.2.2.2.2.1.q l_2.2.2.2.2.2.1.n l_2.2.2.2.2.2.1.cap, slv l_2.2.2.2.2.2.2.1.q l_2.2.2.2.2.2.2.1.n l_2.2.2.2.2.2.2.1.cap, .int .i64 o.floor12.wind.lo, .int .i64 o.floor12.wind.hi, slv l_2.2.2.2.2.2.2.2.1.q l_2.2.2.2.2.2.2.2.1.n l_2.2.2.2.2.2.2.2.1.cap, slv l_2.2.2.2.2.2.2.2.2.1.q l_2.2.2.2.2.2.2.2.2.1.n l_2.2.2.2.2.2.2.2.2.1.cap, slv l_2.2.2.2.2.2.2.2.2.2.1.q l_2.2.2.2.2.2.2.2.2.2.1.n l_2.2.2.2.2.2.2.2.2.2.1.cap, .int .i64 o.more13.wind.lo, .int .i64 o.more13.wind.hi, slv l_2.2.2.2.2.2.2.2.2.2.2.1.q l_2.2.2.2.2.2.2.2.2.2.2.1.n l_2.2.2.2.2.2.2.2.2.2.2.1.cap, slv L_145.q L_145.n L_145.cap] 29 (0, 0)), (b, .cells #[slv l_1.1.q l_1.1.n l_1.1.cap, .int .i64 t29.r0.wind.lo, .int .i64 t29.r0.wind.hi, slv l_1.2.1.q l_1.2.1.n l_1.2.1.cap, slv l_1.2.2.q l_1.2.2.n l_1.2.2.cap] 29 (0, 0)), (l, .cells #[.slice qa0 na0 ca0, .int .i64 t29.b0_1, .int .u32 t29.b0_2] 138 (0, 0)), (l_2.1, .cells #[slv l_2.2.2.2.1.q l_2.2.2.2.1.n l_2.2.2.2.1.cap, .int .i64 o.sill11.wind.lo, .int .i64 o.sill11.wind.hi, slv l_2.2.2.2.2.1.q l_2.2.2.2.2.1.n l_2.2.2.2.2.1.cap, slv l_2.2.2.2.2.2.1.q l_2.2.2.2.2.2.1.n l_2.2.2.2.2.2.1.cap] 29 (0, 0)), (l_2.2.1, .cells #[slv l_2.2.2.2.2.2.2.1.q l_2.2.2.2.2.2.2.1.n l_2.2.2.2.2.2.2.1.cap, .int .i64 o.floor12.wind.lo, .int .i64 o.floor12.wind.hi, slv l_2.2.2.2.2.2.2.2.1.q l_2.2.2.2.2.2.2.2.1.n l_2.2.2.2.2.2.2.2.1.cap, slv l_2.2.2.2.2.2.2.2.2.1.q l_2.2.2.2.2.2.2.2.2.1.n l_2.2.2.2.2.2.2.2.2.1.cap] 29 (0, 0)), (l_2.2.2.1, .cells #[slv l_2.2.2.2.2.2.2.2.2.2.1.q l_2.2.2.2.2.2.2.2.2.2.1.n l_2.2.2.2.2.2.2.2.2.2.1.cap, .int .i64 o.more13.wind.lo, .int .i64 o.more13.wind.hi, slv l_2.2.2.2.2.2.2.2.2.2.2.1.q l_2.2.2.2.2.2.2.2.2.2.2.1.n l_2.2.2.2.2.2.2.2.2.2.2.1.cap, slv L_145.q L_145.n L_145.cap] 29 (0, 0))]) (fun l_50 => [⟨68, RW.enc o.more13.table, l_2.2.2.2.2.2.2.2.2.2.1.sp, l_2.2.2.2.2.2.2.2.2.2.1.q⟩, ⟨3, RI.enc o.more13.floors, l_2.2.2.2.2.2.2.2.2.2.2.1.sp, l_2.2.2.2.2.2.2.2.2.2.2.1.q⟩, ⟨51, RS.enc t85, L_145.sp, L_145.q⟩, ⟨68, RW.enc o.floor12.table, l_2.2.2.2.2.2.2.1.sp, l_2.2.2.2.2.2.2.1.q⟩, ⟨3, RI.enc floor12_floors, l_2.2.2.2.2.2.2.2.1.sp, l_2.2.2.2.2.2.2.2.1.q⟩, ⟨51, RS.enc o.floor12.sills, l_2.2.2.2.2.2.2.2.2.1.sp, l_2.2.2.2.2.2.2.2.2.1.q⟩, ⟨68, RW.enc o.sill11.table, l_2.2.2.2.1.sp, l_2.2.2.2.1.q⟩, ⟨3, RI.enc o.sill11.floors, l_2.2.2.2.2.1.sp, l_2.2.2.2.2.1.q⟩, ⟨51, RS.enc o_1, l_2.2.2.2.2.2.1.sp, l_2.2.2.2.2.2.1.q⟩, ⟨68, RW.enc t29.r0.table, l_1.1.sp, l_1.1.q⟩, ⟨3, RI.enc t29.r0.floors, l_1.2.1.sp, l_1.2.1.q⟩, ⟨51, RS.enc t29.r0.sills, l_1.2.2.sp, l_1.2.2.q⟩]) ?_ ?_
                ·replace hm := h450
                 refine g_draw none (.free 0 (.free 1 (.free 2 (.free 3 (.free 4 (.free 5 (.free 6 (.free 7 (.free 8 (.free 9 (.free 10 (.free 11 (.free 12 (.free 13 (.free 14 (.free 15 (.free 16 (.free 17 (.free 18 (.hoist 19 (.free 20 (.free 21 (.free 22 (.hoist 23 (.free 24 (.free 25 (.free 26 (.free 27 (.free 28 (.free 29 (.free 30 (.free 31 (.free 32 (.free 33 (.free 34 (.free 35 (.free 36 (.free 37 (.free 38 (.free 39 (.free 40 (.free 41 (.free 42 (.free 43 (.free 44 (.free 45 (.hoist 46 (.free 47 (.free 48 (.free 49 (.hoist 50 (.free 51 (.free 52 (.free 53 (.free 54 .done))))))))))))))))))))))))))))))))))))))))))))))))))))))) _ rfl (by decide +kernel) (fun w k hh => hh.draw k) (fun w hh => hh) ?_
                 refine p_free rfl rfl rfl rfl (fun _ _ => v_move rfl) ?_
                 refine p_free rfl rfl rfl rfl (fun _ _ => v_lss rfl rfl) ?_
                 refine p_free rfl rfl rfl rfl (fun _ _ => v_move rfl) ?_
                 refine p_skipF rfl rfl rfl rfl rfl rfl rfl ?_
                 refine p_skipF rfl rfl rfl rfl rfl rfl rfl ?_
                 refine p_skipF rfl rfl rfl rfl rfl rfl rfl ?_
                 refine p_skipF rfl rfl rfl rfl rfl rfl rfl ?_
                 refine p_skipUF_ rfl rfl rfl rfl rfl rfl ?_
                 refine p_skipUF_ rfl rfl rfl rfl rfl rfl ?_
                 refine p_skipUF_ rfl rfl rfl rfl rfl rfl ?_
                 refine p_skipUF_ rfl rfl rfl rfl rfl rfl ?_
                 refine p_skipUF_ rfl rfl rfl rfl rfl rfl ?_
                 refine p_skipUF_ rfl rfl rfl rfl rfl rfl ?_
                 refine p_skipUF_ rfl rfl rfl rfl rfl rfl ?_
                 refine p_skipF rfl rfl rfl rfl rfl rfl rfl ?_
                 refine p_skipF rfl rfl rfl rfl rfl rfl rfl ?_
                 refine p_skipUF_ rfl rfl rfl rfl rfl rfl ?_
                 refine p_skipUF_ rfl rfl rfl rfl rfl rfl ?_
                 refine p_skipUF_ rfl rfl rfl rfl rfl rfl ?_
                 refine p_skipU_ rfl rfl rfl rfl rfl rfl ?_
                 refine p_skipUF_ rfl rfl rfl rfl rfl rfl ?_
                 refine p_skipUF_ rfl rfl rfl rfl rfl rfl ?_
                 refine p_skipUF_ rfl rfl rfl rfl rfl rfl ?_
                 refine p_skipU_ rfl rfl rfl rfl rfl rfl ?_
                 refine p_skipUF_ rfl rfl rfl rfl rfl rfl ?_
                 refine p_skipF rfl rfl rfl rfl rfl rfl rfl ?_
                 refine p_free rfl rfl rfl rfl (fun _ _ => v_pickF rfl rfl) ?_
                 refine p_free rfl rfl rfl rfl (fun _ _ => v_move rfl) ?_
                 refine p_freeG rfl rfl rfl rfl rfl rfl (fun _ _ => v_move rfl) ?_
                 refine p_freeG rfl rfl rfl rfl rfl rfl (fun _ _ => v_eql rfl rfl) ?_
                 refine p_freeG rfl rfl rfl rfl rfl rfl (fun _ _ => v_move rfl) ?_
                 refine p_freeG rfl rfl rfl rfl rfl rfl (fun _ _ => v_move rfl) ?_
                 refine p_freeG rfl rfl rfl rfl rfl rfl (fun _ _ => v_eql rfl rfl) ?_
                 refine p_freeG rfl rfl rfl rfl rfl rfl (fun _ _ => v_move rfl) ?_
                 refine g_case 191 rfl (fun h452 => ?_) (fun h452 => ?_)
                 ·replace hm := ifT (of_decide_eq_true h452) hm
                  refine p_freeG rfl rfl rfl rfl rfl rfl (fun _ _ => v_move rfl) ?_
                  refine p_freeG rfl rfl rfl rfl rfl rfl (fun _ _ => v_neq rfl rfl) ?_
                  refine p_freeG rfl rfl rfl rfl rfl rfl (fun _ _ => v_move rfl) ?_
                  refine g_case 194 rfl (fun h453 => ?_) (fun h453 => ?_)
                  ·replace hm := ifF (of_ndec_true h453) hm
                   refine p_skipF rfl rfl rfl rfl rfl rfl rfl ?_
                   refine p_skipF rfl rfl rfl rfl rfl rfl rfl ?_
                   refine p_skipF rfl rfl rfl rfl rfl rfl rfl ?_
                   refine p_freeG rfl rfl rfl rfl rfl rfl (fun _ _ => v_pickT rfl rfl) ?_
                   refine p_freeG rfl rfl rfl rfl rfl rfl (fun _ _ => v_pickT rfl rfl) ?_
                   refine p_freeG rfl rfl rfl rfl rfl rfl (fun _ _ => v_move rfl) ?_
                   refine p_skipF rfl rfl rfl rfl rfl rfl rfl ?_
                   refine p_skipF rfl rfl rfl rfl rfl rfl rfl ?_
                   refine p_skipF rfl rfl rfl rfl rfl rfl rfl ?_
                   refine p_skip rfl rfl rfl rfl rfl rfl rfl ?_
                   refine p_skipF rfl rfl rfl rfl rfl rfl rfl ?_
                   refine p_skipF rfl rfl rfl rfl rfl rfl rfl ?_
                   refine p_skipF rfl rfl rfl rfl rfl rfl rfl ?_
                   refine p_skip rfl rfl rfl rfl rfl rfl rfl ?_
                   refine p_skipF rfl rfl rfl rfl rfl rfl rfl ?_
                   refine p_freeG rfl rfl rfl rfl rfl rfl (fun _ _ => v_pickT rfl rfl) ?_
                   refine p_freeG rfl rfl rfl rfl rfl rfl (fun _ _ => v_pickT rfl rfl) ?_
                   refine p_free rfl rfl rfl rfl (fun _ _ => v_pickF rfl rfl) ?_
                   refine p_done ?_
                   obtain rfl := Option.some.inj hm
                   exact g_leaf () (trivial) ((.cons rfl (.cons rfl (.cons rfl (.cons rfl (.cons rfl (.cons rfl (.cons rfl (.cons rfl (.cons rfl (.cons rfl (.cons rfl (.cons rfl .nil))))))))))))) (fun w hh => hh)
                  ·replace hm := ifT (of_ndec_false h453) hm
                   refine p_freeG rfl rfl rfl rfl rfl rfl (fun _ _ => v_move rfl) ?_
                   refine p_freeG rfl rfl rfl rfl rfl rfl (fun _ _ => v_move rfl) ?_
                   refine p_freeG rfl rfl rfl rfl rfl rfl (fun _ _ => v_gtr rfl rfl) ?_
                   refine p_freeG rfl rfl rfl rfl rfl rfl (fun _ _ => v_pickF rfl rfl) ?_
                   refine p_freeG rfl rfl rfl rfl rfl rfl (fun _ _ => v_pickT rfl rfl) ?_
                   refine p_freeG rfl rfl rfl rfl rfl rfl (fun _ _ => v_move rfl) ?_
                   refine g_case 200 rfl (fun h454 => ?_) (fun h454 => ?_)
                   ·replace hm := ifT (of_decide_eq_true h454) hm
                    refine p_skipF rfl rfl rfl rfl rfl rfl rfl ?_
                    refine p_skipF rfl rfl rfl rfl rfl rfl rfl ?_
                    refine p_skipF rfl rfl rfl rfl rfl rfl rfl ?_
                    refine p_skip rfl rfl rfl rfl rfl rfl rfl ?_
                    refine p_skipF rfl rfl rfl rfl rfl rfl rfl ?_
                    refine p_skipF rfl rfl rfl rfl rfl rfl rfl ?_
                    refine p_skipF rfl rfl rfl rfl rfl rfl rfl ?_
                    refine p_skip rfl rfl rfl rfl rfl rfl rfl ?_
                    refine p_skipF rfl rfl rfl rfl rfl rfl rfl ?_
                    refine p_freeG rfl rfl rfl rfl rfl rfl (fun _ _ => v_pickT rfl rfl) ?_
                    refine p_freeG rfl rfl rfl rfl rfl rfl (fun _ _ => v_pickT rfl rfl) ?_
                    refine p_free rfl rfl rfl rfl (fun _ _ => v_pickF rfl rfl) ?_
                    refine p_done ?_
                    obtain rfl := Option.some.inj hm
                    exact g_leaf () (trivial) ((.cons rfl (.cons rfl (.cons rfl (.cons rfl (.cons rfl (.cons rfl (.cons rfl (.cons rfl (.cons rfl (.cons rfl (.cons rfl (.cons rfl .nil))))))))))))) (fun w hh => hh)
                   ·replace hm := ifF (of_decide_eq_false h454) hm
                    refine p_freeG rfl rfl rfl rfl rfl rfl (fun _ _ => v_move rfl) ?_
                    refine p_freeG rfl rfl rfl rfl rfl rfl (fun _ _ => v_move rfl) ?_
                    obtain ⟨t203, h455, hm⟩ := bindO hm
                    refine p_freeG rfl rfl rfl rfl rfl rfl (fun w _ => v_ixA h455 (Try.runUnderlying43 w) (Try.sizeOf46 w) rfl rfl rfl h437.ne) ?_
                    refine p_hoistG rfl rfl rfl rfl rfl rfl (fun w hh => v_ldE RI 0 h455 (Try.isAgg46 w) rfl (hh.seg 0 rfl) rfl (Nat.add_zero _).symm) ?_
                    refine p_freeG rfl rfl rfl rfl rfl rfl (fun _ _ => v_move rfl) ?_
                    refine p_freeG rfl rfl rfl rfl rfl rfl (fun _ _ => v_move rfl) ?_
                    obtain ⟨t207, h456, hm⟩ := bindO hm
                    refine p_freeG rfl rfl rfl rfl rfl rfl (fun w _ => v_ixA h456 (Try.runUnderlying43 w) (Try.sizeOf46 w) rfl rfl rfl h370.ne) ?_
                    refine p_hoistG rfl rfl rfl rfl rfl rfl (fun w hh => v_ldE RI 0 h456 (Try.isAgg46 w) rfl (hh.seg 3 rfl) rfl (Nat.add_zero _).symm) ?_
                    refine p_freeG rfl rfl rfl rfl rfl rfl (fun _ _ => v_lss rfl rfl) ?_
                    refine p_freeG rfl rfl rfl rfl rfl rfl (fun _ _ => v_pickF rfl rfl) ?_
                    refine p_freeG rfl rfl rfl rfl rfl rfl (fun _ _ => v_pickT rfl rfl) ?_
                    refine p_free rfl rfl rfl rfl (fun _ _ => v_pickF rfl rfl) ?_
                    refine p_done ?_
                    obtain rfl := Option.some.inj hm
                    exact g_leaf () (trivial) ((.cons rfl (.cons rfl (.cons rfl (.cons rfl (.cons rfl (.cons rfl (.cons rfl (.cons rfl (.cons rfl (.cons rfl (.cons rfl (.cons rfl .nil))))))))))))) (fun w hh => hh)
                 ·replace hm := ifF (of_decide_eq_false h452) hm
                  refine p_skipF rfl rfl rfl rfl rfl rfl rfl ?_
                  refine p_skipF rfl rfl rfl rfl rfl rfl rfl ?_
                  refine p_skipF rfl rfl rfl rfl rfl rfl rfl ?_
                  refine p_skipUF_ rfl rfl rfl rfl rfl rfl ?_
                  refine p_skipUF_ rfl rfl rfl rfl rfl rfl ?_
                  refine p_skipUF_ rfl rfl rfl rfl rfl rfl ?_
                  refine p_skipF rfl rfl rfl rfl rfl rfl rfl ?_
                  refine p_freeG rfl rfl rfl rfl rfl rfl (fun _ _ => v_pickF rfl rfl) ?_
                  refine p_freeG rfl rfl rfl rfl rfl rfl (fun _ _ => v_move rfl) ?_
                  refine p_freeG rfl rfl rfl rfl rfl rfl (fun _ _ => v_move rfl) ?_
                  refine p_freeG rfl rfl rfl rfl rfl rfl (fun _ _ => v_move rfl) ?_
                  obtain ⟨t203_1, h457, hm⟩ := bindO hm
                  refine p_freeG rfl rfl rfl rfl rfl rfl (fun w _ => v_ixA h457 (Try.runUnderlying43 w) (Try.sizeOf46 w) rfl rfl rfl h437.ne) ?_
                  refine p_hoistG rfl rfl rfl rfl rfl rfl (fun w hh => v_ldE RI 0 h457 (Try.isAgg46 w) rfl (hh.seg 0 rfl) rfl (Nat.add_zero _).symm) ?_
                  refine p_freeG rfl rfl rfl rfl rfl rfl (fun _ _ => v_move rfl) ?_
                  refine p_freeG rfl rfl rfl rfl rfl rfl (fun _ _ => v_move rfl) ?_
                  obtain ⟨t207_1, h458, hm⟩ := bindO hm
                  refine p_freeG rfl rfl rfl rfl rfl rfl (fun w _ => v_ixA h458 (Try.runUnderlying43 w) (Try.sizeOf46 w) rfl rfl rfl h370.ne) ?_
                  refine p_hoistG rfl rfl rfl rfl rfl rfl (fun w hh => v_ldE RI 0 h458 (Try.isAgg46 w) rfl (hh.seg 3 rfl) rfl (Nat.add_zero _).symm) ?_
                  refine p_freeG rfl rfl rfl rfl rfl rfl (fun _ _ => v_lss rfl rfl) ?_
                  refine p_freeG rfl rfl rfl rfl rfl rfl (fun _ _ => v_pickF rfl rfl) ?_
                  refine p_freeG rfl rfl rfl rfl rfl rfl (fun _ _ => v_pickT rfl rfl) ?_
                  refine p_free rfl rfl rfl rfl (fun _ _ => v_pickF rfl rfl) ?_
                  refine p_done ?_
                  obtain rfl := Option.some.inj hm
                  exact g_leaf () (trivial) ((.cons rfl (.cons rfl (.cons rfl (.cons rfl (.cons rfl (.cons rfl (.cons rfl (.cons rfl (.cons rfl (.cons rfl (.cons rfl (.cons rfl .nil))))))))))))) (fun w hh => hh)
                ·intro l_50 hj
                 replace hm := h451
                 refine g_n_then ?_
                 refine g_cond rfl (fun h459 => ?_) (fun h459 => ?_)
                 ·replace hm := ifT (h459) hm
                  refine g_seq ?_
                  refine g_region ?_
                  refine g_val rfl rfl rfl (fun _ _ => v_assign rfl) ?_
                  refine g_nil ?_
                  refine g_n_then ?_
                  refine g_ret ?_
                  refine g_r_blk ?_
                  refine g_r_then ?_
                  refine g_r_then ?_
                  refine g_r_blk ?_
                  obtain rfl := Option.some.inj hm
                  have hbo := h444 _ rfl
                  subst hbo
                  refine g_r_then ?_
                  replace hm := ocR h443
                  refine g_r_blk ?_
                  refine g_r_then ?_
                  refine g_r_then ?_
                  refine g_r_blk ?_
                  refine g_r_then ?_
                  obtain rfl := Option.some.inj hm
                  refine g_done rfl (fun w hh => (.tmp rfl .nil)) (fun w hh => ⟨(), rfl, trivial, hh.sel [] [] 5 (by decide) (by decide) rfl rfl rfl⟩)
                 ·replace hm := ifF ((fun hh => Bool.noConfusion ((h459).symm.trans hh))) hm
                  refine g_skip ?_
                  refine g_n_blk ?_
                  refine g_n_then ?_
                  refine g_region ?_
                  obtain ⟨t213_2, h460, hm⟩ := bindO hm
                  refine g_val rfl rfl rfl (fun _ _ => v_addc h460 rfl rfl) ?_
                  refine g_val rfl rfl rfl (fun _ _ => v_move rfl) ?_
                  refine g_nil ?_
                  obtain rfl := Option.some.inj hm
                  refine g_n_then ?_
                  exact g_again' _ () rfl (trivial) ((.cons rfl (.cons rfl (.cons rfl (.cons rfl (.cons rfl (.cons rfl (.cons rfl (.cons rfl (.cons rfl (.cons rfl (.cons rfl .nil)))))))))))) (fun w hh => hh)
               ·replace hm := ifF (of_decide_eq_false h445) hm
                refine g_exit ?_
                refine g_x_then ?_
                refine g_x_then ?_
                refine g_x_blk ?_
                obtain rfl := Option.some.inj hm
                have hbo := h444 _ rfl
                subst hbo
                exact g_leaf () (rfl) ((.cons rfl (.cons rfl (.cons rfl (.cons rfl (.cons rfl (.cons rfl .nil))))))) (fun w hh => hh)
              ·intro j_2 hj
               have h461 := hj
               subst h461
               replace hm := ocL h443
               refine g_n_blk ?_
               refine g_n_then ?_
               refine g_region ?_
               refine g_val rfl rfl rfl (fun _ _ => v_addc (show addc 2 1 = some 3 from rfl) rfl rfl) ?_
               refine g_val rfl rfl rfl (fun _ _ => v_move rfl) ?_
               refine g_nil ?_
               refine g_n_then ?_
               refine g_unrS ?_
               refine g_seq ?_
               refine g_region ?_
               refine g_val rfl rfl rfl (fun _ _ => v_lss rfl rfl) ?_
               refine g_nil ?_
               refine g_n_then ?_
               refine g_seq ?_
               refine g_condF rfl rfl ?_
               refine g_exit ?_
               refine g_x_then ?_
               refine g_x_then ?_
               refine g_x_blk ?_
               refine g_n_then ?_
               refine g_seq ?_
               refine g_region ?_
               obtain ⟨t215, h462, hm⟩ := bindO hm
               refine g_callH [] [] rfl rfl rfl rfl rfl rfl rfl (fun a w => Try.call30 a w) (fun w hh => cx_awake  w (HV.callee (S0 := []) (vs0 := []) hh roN)  h462) (fun l_51 h463 => ?_)
               refine g_val rfl rfl rfl (fun _ _ => v_assign rfl) ?_
               refine g_nil ?_
               refine g_n_then ?_
               refine g_ret ?_
               obtain rfl := Option.some.inj hm
               refine g_done rfl (fun w hh => (.tmp rfl .nil)) (fun w hh => ⟨(), rfl, trivial, hh.sel [] [] 5 (by decide) (by decide) rfl rfl rfl⟩)
end Go.Proofs.Wk
