/- What the functions that the law TideStays reaches come to, and why it holds: part 7. -/
import Derived.Test.YtaicfimbclibpaaTideStays6
namespace Go.Proofs.Wk
open Go Go.Fw Go.Gx Go.Pl
set_option linter.unusedVariables false
structure m_laurellaw01_TideStays_C1 where
  own9 : Sands
  x10 : Sands
  mine11 : (List Int)
def m_laurellaw01_TideStays_Q0 : Plan := (.one 1 (.one 3 (.one 5 (.one 8 (.one 9 (.free 10 .done))))))
def m_laurellaw01_TideStays_Q1 : Plan := (.one 3 (.one 5 (.one 8 (.one 9 (.free 10 .done)))))
def m_laurellaw01_TideStays_Q2 : Plan := (.one 5 (.one 8 (.one 9 (.free 10 .done))))
def m_laurellaw01_TideStays_Q3 : Plan := (.one 6 (.one 8 (.one 9 (.free 10 .done))))
def m_laurellaw01_TideStays_Q4 : Plan := (.br (.alt 5 m_laurellaw01_TideStays_Q3 (.alt 6 m_laurellaw01_TideStays_Q2 .nil)))
def m_laurellaw01_TideStays_Q5 : Plan := (.br (.alt 3 m_laurellaw01_TideStays_Q4 (.alt 6 m_laurellaw01_TideStays_Q1 .nil)))
def m_laurellaw01_TideStays_Q6 : Plan := (.br (.alt 1 m_laurellaw01_TideStays_Q5 (.alt 6 m_laurellaw01_TideStays_Q0 .nil)))
def m_laurellaw01_TideStays_Q7 : Plan := (.one 7 (.one 8 (.one 9 (.free 10 .done))))
def m_laurellaw01_TideStays_Q8 : Plan := (.br (.alt 5 m_laurellaw01_TideStays_Q7 (.alt 7 m_laurellaw01_TideStays_Q2 .nil)))
def m_laurellaw01_TideStays_Q9 : Plan := (.br (.alt 3 m_laurellaw01_TideStays_Q8 (.alt 7 m_laurellaw01_TideStays_Q1 .nil)))
def m_laurellaw01_TideStays_Q10 : Plan := (.br (.alt 1 m_laurellaw01_TideStays_Q9 (.alt 7 m_laurellaw01_TideStays_Q0 .nil)))
def m_laurellaw01_TideStays_Q11 : Plan := (.br (.alt 6 m_laurellaw01_TideStays_Q7 (.alt 7 m_laurellaw01_TideStays_Q3 .nil)))
def m_laurellaw01_TideStays_Q12 : Plan := (.br (.alt 5 m_laurellaw01_TideStays_Q11 (.alt 6 m_laurellaw01_TideStays_Q8 (.alt 7 m_laurellaw01_TideStays_Q4 .nil))))
def m_laurellaw01_TideStays_Q13 : Plan := (.br (.alt 3 m_laurellaw01_TideStays_Q12 (.alt 6 m_laurellaw01_TideStays_Q9 (.alt 7 m_laurellaw01_TideStays_Q5 .nil))))
structure m_laurellaw01_TideStays_C2 where
  w12 : Int
  u13 : Int
  v14 : Int
  turn15 : Int
  at16 : Int
  span18_lo : Int
  span18_hi : Int
  want17 : (List Int)
structure m_laurellaw01_TideStays_C4 where
  w12 : Int
  turn15 : Int
structure m_laurellaw01_TideStays_C5 where
  run20 : Span
  is21 : Bool
structure m_laurellaw01_TideStays_C6 where
  u13 : Int
  at16 : Int
  want17 : (List Int)
structure m_laurellaw01_TideStays_S0 where
  v14 : Int
  t97 : Int
def m_laurellaw01_TideStays_L0 (places3 : (List Int)) (o_1 : m_laurellaw01_TideStays_C1) (s : m_laurellaw01_TideStays_S0) : Option (m_laurellaw01_TideStays_S0 ⊕ Int) :=
 if s.t97 < (places3.length : Int) then
 (((ix places3 s.t97).bind fun t99 =>
 if s.v14 = 0 then
 ((m_laurelref01_Place o_1.x10 t99).bind fun t105 =>
 some t105) else
 (some s.v14)).bind fun o_8 =>
 (addc s.t97 1).bind fun t106 =>
 some (.inl (⟨o_8, t106⟩ : m_laurellaw01_TideStays_S0))) else
 (some (.inr s.v14))
def m_laurellaw01_TideStays (s0 : Sands) (minute1 : Int) (place2 : Int) (places3 : (List Int)) : Option Bool :=
 ((m_laurellaw01_large s0).bind fun t34 =>
 if t34 = true then
 (some true) else
 (some (decide (20 < (places3.length : Int))))).bind fun o =>
 if o = true then
 ((x_awake).bind fun t40 =>
 some t40) else
 (((m_laurellaw01_Own s0).bind fun t42 =>
 (m_laurellaw01_theirs s0).bind fun t44 =>
 (m_laurelkit_Dup_int places3).bind fun t46 =>
 some (⟨t42, t44, t46⟩ : m_laurellaw01_TideStays_C1)).bind fun o_1 =>
 (m_laurelref01_Check o_1.x10).bind fun t48 =>
 (if t48 = 0 then
 ((m_laurelref01_Gates o_1.x10).bind fun t55 =>
 (m_laurelref01_Minute o_1.x10 minute1).bind fun t58 =>
 ((m_laurelref01_Place o_1.x10 place2).bind fun t61 =>
 if t61 = 0 then
 (some t58) else
 (some t61)).bind fun o_3 =>
 (if o_3 = 0 then
 (((ix t55 place2).bind fun t72 =>
 (m_laurelref01_Says o_1.x10 t72 0).bind fun t74 =>
 (m_laurelref01_Run o_1.x10 t74 minute1).bind fun t76 =>
 some (⟨t76.r0, t76.r1⟩ : m_laurellaw01_TideStays_C5)).bind fun o_5 =>
 if (!o_5.is21) = true then
 (some (⟨6, 0⟩ : m_laurellaw01_TideStays_C4)) else
 (some (⟨o_3, o_5.run20.hi⟩ : m_laurellaw01_TideStays_C4))) else
 (some (⟨o_3, 0⟩ : m_laurellaw01_TideStays_C4))).bind fun o_4 =>
 (if t58 = 0 then
 ((m_laurelref01_Flood o_1.x10 t55 minute1).bind fun t89 =>
 if (!t89.r2) = true then
 (some (⟨6, t89.r0, t89.r1⟩ : m_laurellaw01_TideStays_C6)) else
 (some (⟨t58, t89.r0, t89.r1⟩ : m_laurellaw01_TideStays_C6))) else
 (some (⟨t58, 0, []⟩ : m_laurellaw01_TideStays_C6))).bind fun o_6 =>
 (iterM FU (m_laurellaw01_TideStays_L0 places3 o_1) (⟨t48, 0⟩ : m_laurellaw01_TideStays_S0)).bind fun o_7 =>
 if o_7 = 0 then
 ((m_laurelref01_Together o_1.x10 t55 places3).bind fun t114 =>
 (m_laurelref01_Longest o_1.x10 t114).bind fun t115 =>
 if (!t115.r1) = true then
 (some (⟨o_4.w12, o_6.u13, 6, o_4.turn15, o_6.at16, t115.r0.lo, t115.r0.hi, o_6.want17⟩ : m_laurellaw01_TideStays_C2)) else
 (some (⟨o_4.w12, o_6.u13, o_7, o_4.turn15, o_6.at16, t115.r0.lo, t115.r0.hi, o_6.want17⟩ : m_laurellaw01_TideStays_C2))) else
 (some (⟨o_4.w12, o_6.u13, o_7, o_4.turn15, o_6.at16, 0, 0, o_6.want17⟩ : m_laurellaw01_TideStays_C2))) else
 (some (⟨t48, t48, t48, 0, 0, 0, 0, []⟩ : m_laurellaw01_TideStays_C2))).bind fun o_2 =>
 (x_Turn o_1.own9 place2 minute1).bind fun t124 =>
 (m_tide_Flood_1 o_1.own9 minute1).bind fun t130 =>
 (m_tide_Longest_1 o_1.own9 o_1.mine11).bind fun t137 =>
 (if t124.2 = o_2.w12 then
 (if t130.r2 = o_2.u13 then
 (if t137.r1 = o_2.v14 then
 (if t124.1 = o_2.turn15 then
 (if t130.r0 = o_2.at16 then
 ((m_laurelkit_Eq_int t130.r1 o_2.want17).bind fun t166 =>
 if t166 = true then
 (if t137.r0 = (⟨o_2.span18_lo, o_2.span18_hi⟩ : Span) then
 ((m_laurellaw01_same o_1.own9 s0).bind fun t176 =>
 if t176 = true then
 ((m_laurelkit_Eq_int o_1.mine11 places3).bind fun t181 =>
 if t181 = true then
 ((x_awake).bind fun t184 =>
 some t184) else
 (some false)) else
 (some false)) else
 (some false)) else
 (some false)) else
 (some false)) else
 (some false)) else
 (some false)) else
 (some false)) else
 (some false)).bind fun o_9 =>
 some o_9)
set_option maxRecDepth 100000 in
set_option maxHeartbeats 4000000 in
theorem c_laurellaw01_TideStays (s0 : Sands) (minute1 : Int) (place2 : Int) (places3 : (List Int)) (qa0 : Option Addr) (na0 ca0 : Nat) (qa1 : Option Addr) (na1 ca1 : Nat) (qa2 : Option Addr) (na2 ca2 : Nat) (qa3 : Option Addr) (na3 ca3 : Nat) (w : World) (hw : HV w (keys [] []) [] [] [(aB qa0, aO qa0, RW.enc s0.table), (aB qa1, aO qa1, RI.enc s0.floors), (aB qa2, aO qa2, RS.enc s0.sills), (aB qa3, aO qa3, RI.enc places3)] w) (hna0 : s0.table.length = na0) (hqa0 : AOK na0 qa0) (hla0 : na0 ≤ ca0) (hna1 : s0.floors.length = na1) (hqa1 : AOK na1 qa1) (hla1 : na1 ≤ ca1) (hna2 : s0.sills.length = na2) (hqa2 : AOK na2 qa2) (hla2 : na2 ≤ ca2) (hna3 : places3.length = na3) (hqa3 : AOK na3 qa3) (hla3 : na3 ≤ ca3) {res : Bool} (hm : m_laurellaw01_TideStays s0 minute1 place2 places3 = some res) :
    Calls Try.prog 15 #[.agg #[.slice qa0 na0 ca0, .int .i64 s0.wind.lo, .int .i64 s0.wind.hi, .slice qa1 na1 ca1, .slice qa2 na2 ca2], .int .i64 minute1, .int .i64 place2, .slice qa3 na3 ca3] w (fun en w' => ∃ l : Unit, en = .returned (.bool res) ∧ (True) ∧ HV w (keys [] []) [] [] [] w') := by
  unfold m_laurellaw01_TideStays at hm
  refine g_enter (args := [.agg #[.slice qa0 na0 ca0, .int .i64 s0.wind.lo, .int .i64 s0.wind.hi, .slice qa1 na1 ca1, .slice qa2 na2 ca2], .int .i64 minute1, .int .i64 place2, .slice qa3 na3 ca3]) Try.func15 rfl Try.ntmps15 rfl (e := [(0, _), (1, _), (2, _), (3, _)]) rfl (H := HV w (keys [] []) [] [] [(aB qa0, aO qa0, RW.enc s0.table), (aB qa1, aO qa1, RI.enc s0.floors), (aB qa2, aO qa2, RS.enc s0.sills), (aB qa3, aO qa3, RI.enc places3)]) hw ?_
  refine g_seq ?_
  refine g_region ?_
  refine g_boxV rfl rfl (fun b h1 => ?_)
  refine g_val rfl rfl rfl (fun _ _ => v_assign rfl) ?_
  refine g_nil ?_
  refine g_n_then ?_
  refine g_seq ?_
  refine g_seq ?_
  obtain ⟨o, h2, h3⟩ := bindO hm
  refine g_cut (ι := Unit) (fun l => True) (fun l => [(1, .int .i64 minute1), (2, .int .i64 place2), (3, .slice qa3 na3 ca3), (4, ptr b 0), (39, .bool o)]) (fun l => [(b, .cells #[.slice qa0 na0 ca0, .int .i64 s0.wind.lo, .int .i64 s0.wind.hi, .slice qa1 na1 ca1, .slice qa2 na2 ca2] 29 (0, 0))]) (fun l => []) ?_ ?_
  ·replace hm := h2
   refine g_region ?_
   refine g_val rfl rfl rfl (fun w hh => v_loadAgg (vs := [_, _, _, _, _]) (Try.isAgg29 w) (Try.sizeOf29 w) rfl (hh.cells 0 rfl rfl)) ?_
   obtain ⟨t34, h4, hm⟩ := bindO hm
   refine g_callH [] [] rfl rfl rfl rfl rfl rfl rfl (fun a w => Try.call42 a w) (fun w hh => c_laurellaw01_large s0 qa0 na0 ca0 qa1 na1 ca1 qa2 na2 ca2 w (HV.callee (S0 := []) (vs0 := []) hh (roC (hh.rsep (S0 := []) (vs0 := []) 0 rfl) (roC (hh.rsep (S0 := []) (vs0 := []) 1 rfl) (roC (hh.rsep (S0 := []) (vs0 := []) 2 rfl) roN)))) hna0 hqa0 hla0 hna1 hqa1 hla1 hna2 hqa2 hla2 h4) (fun l_1 h5 => ?_)
   refine g_val rfl rfl rfl (fun _ _ => v_move rfl) ?_
   refine g_case 35 rfl (fun h6 => ?_) (fun h6 => ?_)
   ·replace hm := ifT (h6) hm
    refine g_skipG rfl rfl rfl rfl rfl rfl ?_
    refine g_skipG rfl rfl rfl rfl rfl rfl ?_
    refine g_skipG rfl rfl rfl rfl rfl rfl ?_
    refine g_val rfl rfl rfl (fun _ _ => v_pickT rfl rfl) ?_
    refine g_nil ?_
    obtain rfl := Option.some.inj hm
    exact g_leaf () (trivial) ((.cons rfl (.cons rfl (.cons rfl (.cons rfl (.cons rfl .nil)))))) (fun w hh => hh)
   ·replace hm := ifF ((fun hh => Bool.noConfusion ((h6).symm.trans hh))) hm
    refine v_unguard rfl rfl ?_
    refine g_val rfl rfl rfl (fun _ _ => v_move rfl) ?_
    refine v_unguard rfl rfl ?_
    refine g_val rfl rfl rfl (fun w _ => v_lenR hna3 (Try.runUnderlying26 w) rfl) ?_
    refine v_unguard rfl rfl ?_
    refine g_val rfl rfl rfl (fun _ _ => v_gtr rfl rfl) ?_
    refine g_val rfl rfl rfl (fun _ _ => v_pickF rfl rfl) ?_
    refine g_nil ?_
    obtain rfl := Option.some.inj hm
    exact g_leaf () (trivial) ((.cons rfl (.cons rfl (.cons rfl (.cons rfl (.cons rfl .nil)))))) (fun w hh => hh)
  ·intro l hj
   replace hm := h3
   refine g_n_then ?_
   refine g_cond rfl (fun h7 => ?_) (fun h7 => ?_)
   ·replace hm := ifT (h7) hm
    refine g_seq ?_
    refine g_region ?_
    obtain ⟨t40, h8, hm⟩ := bindO hm
    refine g_callH [] [] rfl rfl rfl rfl rfl rfl rfl (fun a w => Try.call30 a w) (fun w hh => cx_awake  w (HV.callee (S0 := []) (vs0 := []) hh roN)  h8) (fun l_2 h9 => ?_)
    refine g_val rfl rfl rfl (fun _ _ => v_assign rfl) ?_
    refine g_nil ?_
    refine g_n_then ?_
    refine g_ret ?_
    refine g_r_then ?_
    obtain rfl := Option.some.inj hm
    refine g_done rfl (fun w hh => (.tmp rfl .nil)) (fun w hh => ⟨(), rfl, trivial, hh.sel [] [] 4 (by decide) (by decide) rfl rfl rfl⟩)
   ·replace hm := ifF ((fun hh => Bool.noConfusion ((h7).symm.trans hh))) hm
    refine g_skip ?_
    refine g_n_then ?_
    refine g_seq ?_
    obtain ⟨o_1, h10, h11⟩ := bindO hm
    refine g_cut (ι := Nat × Nat × VL × VL × VL × VL × VL × VL × VL) (fun l_3 => VOK 1 l_3.2.2.1.n l_3.2.2.1.cap (RI.enc o_1.mine11) l_3.2.2.1.sp l_3.2.2.1.q ∧ VOK 2 l_3.2.2.2.1.n l_3.2.2.2.1.cap (RW.enc o_1.own9.table) l_3.2.2.2.1.sp l_3.2.2.2.1.q ∧ VOK 1 l_3.2.2.2.2.1.n l_3.2.2.2.2.1.cap (RI.enc o_1.own9.floors) l_3.2.2.2.2.1.sp l_3.2.2.2.2.1.q ∧ VOK 3 l_3.2.2.2.2.2.1.n l_3.2.2.2.2.2.1.cap (RS.enc o_1.own9.sills) l_3.2.2.2.2.2.1.sp l_3.2.2.2.2.2.1.q ∧ VOK 2 l_3.2.2.2.2.2.2.1.n l_3.2.2.2.2.2.2.1.cap (RW.enc o_1.x10.table) l_3.2.2.2.2.2.2.1.sp l_3.2.2.2.2.2.2.1.q ∧ VOK 1 l_3.2.2.2.2.2.2.2.1.n l_3.2.2.2.2.2.2.2.1.cap (RI.enc o_1.x10.floors) l_3.2.2.2.2.2.2.2.1.sp l_3.2.2.2.2.2.2.2.1.q ∧ VOK 3 l_3.2.2.2.2.2.2.2.2.n l_3.2.2.2.2.2.2.2.2.cap (RS.enc o_1.x10.sills) l_3.2.2.2.2.2.2.2.2.sp l_3.2.2.2.2.2.2.2.2.q) (fun l_3 => [(1, .int .i64 minute1), (2, .int .i64 place2), (3, .slice qa3 na3 ca3), (4, ptr b 0), (9, ptr l_3.1 0), (10, ptr l_3.2.1 0), (11, slv l_3.2.2.1.q l_3.2.2.1.n l_3.2.2.1.cap)]) (fun l_3 => [(b, .cells #[.slice qa0 na0 ca0, .int .i64 s0.wind.lo, .int .i64 s0.wind.hi, .slice qa1 na1 ca1, .slice qa2 na2 ca2] 29 (0, 0)), (l_3.1, .cells #[slv l_3.2.2.2.1.q l_3.2.2.2.1.n l_3.2.2.2.1.cap, .int .i64 o_1.own9.wind.lo, .int .i64 o_1.own9.wind.hi, slv l_3.2.2.2.2.1.q l_3.2.2.2.2.1.n l_3.2.2.2.2.1.cap, slv l_3.2.2.2.2.2.1.q l_3.2.2.2.2.2.1.n l_3.2.2.2.2.2.1.cap] 29 (0, 0)), (l_3.2.1, .cells #[slv l_3.2.2.2.2.2.2.1.q l_3.2.2.2.2.2.2.1.n l_3.2.2.2.2.2.2.1.cap, .int .i64 o_1.x10.wind.lo, .int .i64 o_1.x10.wind.hi, slv l_3.2.2.2.2.2.2.2.1.q l_3.2.2.2.2.2.2.2.1.n l_3.2.2.2.2.2.2.2.1.cap, slv l_3.2.2.2.2.2.2.2.2.q l_3.2.2.2.2.2.2.2.2.n l_3.2.2.2.2.2.2.2.2.cap] 59 (0, 0))]) (fun l_3 => [⟨3, RI.enc o_1.mine11, l_3.2.2.1.sp, l_3.2.2.1.q⟩, ⟨68, RW.enc o_1.own9.table, l_3.2.2.2.1.sp, l_3.2.2.2.1.q⟩, ⟨3, RI.enc o_1.own9.floors, l_3.2.2.2.2.1.sp, l_3.2.2.2.2.1.q⟩, ⟨51, RS.enc o_1.own9.sills, l_3.2.2.2.2.2.1.sp, l_3.2.2.2.2.2.1.q⟩, ⟨158, RW.enc o_1.x10.table, l_3.2.2.2.2.2.2.1.sp, l_3.2.2.2.2.2.2.1.q⟩, ⟨3, RI.enc o_1.x10.floors, l_3.2.2.2.2.2.2.2.1.sp, l_3.2.2.2.2.2.2.2.1.q⟩, ⟨159, RS.enc o_1.x10.sills, l_3.2.2.2.2.2.2.2.2.sp, l_3.2.2.2.2.2.2.2.2.q⟩]) ?_ ?_
    ·replace hm := h10
     obtain ⟨t42, h19, hm⟩ := bindO hm
     obtain ⟨t44, h20, hm⟩ := bindO hm
     obtain ⟨t46, h21, hm⟩ := bindO hm
     refine g_draw none (.hoist 0 (.hoist 2 (.free 4 (.br (.alt 1 m_laurellaw01_TideStays_Q13 (.alt 6 m_laurellaw01_TideStays_Q10 (.alt 7 m_laurellaw01_TideStays_Q6 .nil))))))) _ rfl (by decide +kernel) (fun w k hh => hh.draw k) (fun w hh => hh) ?_
     refine p_hoist rfl rfl rfl rfl (fun w hh => v_loadAgg (vs := [_, _, _, _, _]) (Try.isAgg29 w) (Try.sizeOf29 w) rfl (hh.cells 0 rfl rfl)) ?_
     refine p_hoist rfl rfl rfl rfl (fun w hh => v_loadAgg (vs := [_, _, _, _, _]) (Try.isAgg29 w) (Try.sizeOf29 w) rfl (hh.cells 0 rfl rfl)) ?_
     refine p_free rfl rfl rfl rfl (fun _ _ => v_move rfl) ?_
     refine p_share (.free 10 .done) (fun g => ∀ (b_1 : Nat) (b_2 : Nat) (L : VL) (L_1 : VL) (L_2 : VL) (L_3 : VL) (L_4 : VL) (L_5 : VL) (L_6 : VL), vk 1 L (RI.enc t46) → vk 2 L_1 (RW.enc t42.table) → vk 1 L_2 (RI.enc t42.floors) → vk 3 L_3 (RS.enc t42.sills) → vk 2 L_4 (RW.enc t44.table) → vk 1 L_5 (RI.enc t44.floors) → vk 3 L_6 (RS.enc t44.sills) → g [(1, .int .i64 minute1), (2, .int .i64 place2), (3, .slice qa3 na3 ca3), (4, ptr b 0), (9, ptr b_1 0), (10, ptr b_2 0), (46, sL L)] [(b, .cells #[.slice qa0 na0 ca0, .int .i64 s0.wind.lo, .int .i64 s0.wind.hi, .slice qa1 na1 ca1, .slice qa2 na2 ca2] 29 (0, 0)), (b_1, .cells #[sL L_1, .int .i64 t42.wind.lo, .int .i64 t42.wind.hi, sL L_2, sL L_3] 29 (0, 0)), (b_2, .cells #[sL L_4, .int .i64 t44.wind.lo, .int .i64 t44.wind.hi, sL L_5, sL L_6] 59 (0, 0))] [vL 3 L (RI.enc t46), vL 68 L_1 (RW.enc t42.table), vL 3 L_2 (RI.enc t42.floors), vL 51 L_3 (RS.enc t42.sills), vL 158 L_4 (RW.enc t44.table), vL 3 L_5 (RI.enc t44.floors), vL 159 L_6 (RS.enc t44.sills)]) ?_ (fun h29 => ?_)
     ·intro b_1 b_2 L L_1 L_2 L_3 L_4 L_5 L_6 h22 h23 h24 h25 h26 h27 h28
      refine p_free rfl rfl rfl rfl (fun _ _ => v_assign rfl) ?_
      refine p_done ?_
      obtain rfl := Option.some.inj hm
      exact g_leaf (b_1, b_2, L, L_1, L_2, L_3, L_4, L_5, L_6) (⟨h22, h23, h24, h25, h26, h27, h28⟩) ((.cons rfl (.cons rfl (.cons rfl (.cons rfl (.cons rfl (.cons rfl (.cons rfl .nil)))))))) (fun w hh => hh)
     refine p_share (.one 9 (.free 10 .done)) (fun g => ∀ (b_3 : Nat) (b_4 : Nat) (L_7 : VL) (L_8 : VL) (L_9 : VL) (L_10 : VL) (L_11 : VL) (L_12 : VL) (L_13 : VL), vk 2 L_7 (RW.enc t44.table) → vk 1 L_8 (RI.enc t44.floors) → vk 3 L_9 (RS.enc t44.sills) → vk 1 L_10 (RI.enc t46) → vk 2 L_11 (RW.enc t42.table) → vk 1 L_12 (RI.enc t42.floors) → vk 3 L_13 (RS.enc t42.sills) → g [(1, .int .i64 minute1), (2, .int .i64 place2), (3, .slice qa3 na3 ca3), (4, ptr b 0), (9, ptr b_3 0), (10, ptr b_4 0), (44, .agg #[sL L_7, .int .i64 t44.wind.lo, .int .i64 t44.wind.hi, sL L_8, sL L_9]), (46, sL L_10)] [(b, .cells #[.slice qa0 na0 ca0, .int .i64 s0.wind.lo, .int .i64 s0.wind.hi, .slice qa1 na1 ca1, .slice qa2 na2 ca2] 29 (0, 0)), (b_3, .cells #[sL L_11, .int .i64 t42.wind.lo, .int .i64 t42.wind.hi, sL L_12, sL L_13] 29 (0, 0)), (b_4, .cells #[slv none 0 0, .int .i64 0, .int .i64 0, slv none 0 0, slv none 0 0] 59 (0, 0))] [vL 158 L_7 (RW.enc t44.table), vL 3 L_8 (RI.enc t44.floors), vL 159 L_9 (RS.enc t44.sills), vL 3 L_10 (RI.enc t46), vL 68 L_11 (RW.enc t42.table), vL 3 L_12 (RI.enc t42.floors), vL 51 L_13 (RS.enc t42.sills)]) ?_ (fun h37 => ?_)
     ·intro b_3 b_4 L_7 L_8 L_9 L_10 L_11 L_12 L_13 h30 h31 h32 h33 h34 h35 h36
      refine p_one rfl ?_
      refine g_stSA (us := #[_, _, _, _, _]) (cs' := [_, _, _, _, _]) (S' := [_, _, _]) 2 (fun w => Try.sizeOf59 w) rfl rfl rfl rfl rfl rfl rfl ?_
      refine p_next (fun w hh => hh.sel [0] [] 0 (by decide) (by decide) rfl rfl rfl) ?_
      exact p_shr (h29 b_3 b_4 L_10 L_11 L_12 L_13 L_7 L_8 L_9 h33 h34 h35 h36 h30 h31 h32) ((.cons rfl (.cons rfl (.cons rfl (.cons rfl (.cons rfl (.cons rfl (.cons rfl .nil)))))))) (fun w hh => hh.sel [0, 1, 2] [3, 4, 5, 6, 0, 1, 2] 0 (by decide) (by decide) rfl rfl rfl)
     refine p_share (.one 8 (.one 9 (.free 10 .done))) (fun g => ∀ (b_5 : Nat) (b_6 : Nat) (L_14 : VL) (L_15 : VL) (L_16 : VL) (L_17 : VL) (L_18 : VL) (L_19 : VL) (L_20 : VL), vk 2 L_14 (RW.enc t42.table) → vk 1 L_15 (RI.enc t42.floors) → vk 3 L_16 (RS.enc t42.sills) → vk 2 L_17 (RW.enc t44.table) → vk 1 L_18 (RI.enc t44.floors) → vk 3 L_19 (RS.enc t44.sills) → vk 1 L_20 (RI.enc t46) → g [(1, .int .i64 minute1), (2, .int .i64 place2), (3, .slice qa3 na3 ca3), (4, ptr b 0), (9, ptr b_5 0), (10, ptr b_6 0), (42, .agg #[sL L_14, .int .i64 t42.wind.lo, .int .i64 t42.wind.hi, sL L_15, sL L_16]), (44, .agg #[sL L_17, .int .i64 t44.wind.lo, .int .i64 t44.wind.hi, sL L_18, sL L_19]), (46, sL L_20)] [(b, .cells #[.slice qa0 na0 ca0, .int .i64 s0.wind.lo, .int .i64 s0.wind.hi, .slice qa1 na1 ca1, .slice qa2 na2 ca2] 29 (0, 0)), (b_5, .cells #[slv none 0 0, .int .i64 0, .int .i64 0, slv none 0 0, slv none 0 0] 29 (0, 0)), (b_6, .cells #[slv none 0 0, .int .i64 0, .int .i64 0, slv none 0 0, slv none 0 0] 59 (0, 0))] [vL 68 L_14 (RW.enc t42.table), vL 3 L_15 (RI.enc t42.floors), vL 51 L_16 (RS.enc t42.sills), vL 158 L_17 (RW.enc t44.table), vL 3 L_18 (RI.enc t44.floors), vL 159 L_19 (RS.enc t44.sills), vL 3 L_20 (RI.enc t46)]) ?_ (fun h45 => ?_)
     ·intro b_5 b_6 L_14 L_15 L_16 L_17 L_18 L_19 L_20 h38 h39 h40 h41 h42 h43 h44
      refine p_one rfl ?_
      refine g_stSA (us := #[_, _, _, _, _]) (cs' := [_, _, _, _, _]) (S' := [_, _, _]) 1 (fun w => Try.sizeOf29 w) rfl rfl rfl rfl rfl rfl rfl ?_
      refine p_next (fun w hh => hh.sel [0] [] 0 (by decide) (by decide) rfl rfl rfl) ?_
      exact p_shr (h37 b_5 b_6 L_17 L_18 L_19 L_20 L_14 L_15 L_16 h41 h42 h43 h44 h38 h39 h40) ((.cons rfl (.cons rfl (.cons rfl (.cons rfl (.cons rfl (.cons rfl (.cons rfl (.cons rfl .nil))))))))) (fun w hh => hh.sel [0, 1, 2] [3, 4, 5, 6, 0, 1, 2] 0 (by decide) (by decide) rfl rfl rfl)
     refine p_share m_laurellaw01_TideStays_Q2 (fun g => ∀ (b_7 : Nat) (b_8 : Nat) (L_21 : VL) (L_22 : VL) (L_23 : VL) (L_24 : VL) (L_25 : VL) (L_26 : VL), vk 2 L_21 (RW.enc t42.table) → vk 1 L_22 (RI.enc t42.floors) → vk 3 L_23 (RS.enc t42.sills) → vk 2 L_24 (RW.enc t44.table) → vk 1 L_25 (RI.enc t44.floors) → vk 3 L_26 (RS.enc t44.sills) → g [(1, .int .i64 minute1), (2, .int .i64 place2), (3, .slice qa3 na3 ca3), (4, ptr b 0), (9, ptr b_7 0), (10, ptr b_8 0), (42, .agg #[sL L_21, .int .i64 t42.wind.lo, .int .i64 t42.wind.hi, sL L_22, sL L_23]), (44, .agg #[sL L_24, .int .i64 t44.wind.lo, .int .i64 t44.wind.hi, sL L_25, sL L_26]), (45, .slice qa3 na3 ca3)] [(b, .cells #[.slice qa0 na0 ca0, .int .i64 s0.wind.lo, .int .i64 s0.wind.hi, .slice qa1 na1 ca1, .slice qa2 na2 ca2] 29 (0, 0)), (b_7, .cells #[slv none 0 0, .int .i64 0, .int .i64 0, slv none 0 0, slv none 0 0] 29 (0, 0)), (b_8, .cells #[slv none 0 0, .int .i64 0, .int .i64 0, slv none 0 0, slv none 0 0] 59 (0, 0))] [vL 68 L_21 (RW.enc t42.table), vL 3 L_22 (RI.enc t42.floors), vL 51 L_23 (RS.enc t42.sills), vL 158 L_24 (RW.enc t44.table), vL 3 L_25 (RI.enc t44.floors), vL 159 L_26 (RS.enc t44.sills)]) ?_ (fun h52 => ?_)
     ·intro b_7 b_8 L_21 L_22 L_23 L_24 L_25 L_26 h46 h47 h48 h49 h50 h51
      refine p_one rfl ?_
      refine g_callH [] [] rfl rfl rfl rfl rfl rfl rfl (fun a w => Try.call65 a w) (fun w hh => c_laurelkit_Dup_int places3 qa3 na3 ca3 w (HV.callee (S0 := []) (vs0 := []) hh (roC (hh.rsep (S0 := []) (vs0 := []) 3 rfl) roN)) hna3 hqa3 hla3 h21) (fun l_4 h53 => ?_)
      have h54 := h53
      refine g_sel (S' := [_, _, _]) (vs' := [_, _, _, _, _, _, _]) [0, 1, 2] [0, 1, 2, 3, 4, 5, 6] 0 (by decide) (by decide) rfl rfl rfl ?_
      refine p_next (fun w hh => hh.sel [0] [] 0 (by decide) (by decide) rfl rfl rfl) ?_
      exact p_shr (h45 b_7 b_8 L_21 L_22 L_23 L_24 L_25 L_26 l_4 h46 h47 h48 h49 h50 h51 h54) ((.cons rfl (.cons rfl (.cons rfl (.cons rfl (.cons rfl (.cons rfl (.cons rfl (.cons rfl (.cons rfl .nil)))))))))) (fun w hh => hh.sel [0, 1, 2] [1, 2, 3, 4, 5, 6, 0] 0 (by decide) (by decide) rfl rfl rfl)
     refine p_share m_laurellaw01_TideStays_Q3 (fun g => ∀ (b_9 : Nat) (L_27 : VL) (L_28 : VL) (L_29 : VL) (L_30 : VL) (L_31 : VL) (L_32 : VL) (L_33 : VL), vk 2 L_27 (RW.enc t42.table) → vk 1 L_28 (RI.enc t42.floors) → vk 3 L_29 (RS.enc t42.sills) → vk 2 L_30 (RW.enc t44.table) → vk 1 L_31 (RI.enc t44.floors) → vk 3 L_32 (RS.enc t44.sills) → vk 1 L_33 (RI.enc t46) → g [(1, .int .i64 minute1), (2, .int .i64 place2), (3, .slice qa3 na3 ca3), (4, ptr b 0), (10, ptr b_9 0), (42, .agg #[sL L_27, .int .i64 t42.wind.lo, .int .i64 t42.wind.hi, sL L_28, sL L_29]), (44, .agg #[sL L_30, .int .i64 t44.wind.lo, .int .i64 t44.wind.hi, sL L_31, sL L_32]), (46, sL L_33)] [(b, .cells #[.slice qa0 na0 ca0, .int .i64 s0.wind.lo, .int .i64 s0.wind.hi, .slice qa1 na1 ca1, .slice qa2 na2 ca2] 29 (0, 0)), (b_9, .cells #[slv none 0 0, .int .i64 0, .int .i64 0, slv none 0 0, slv none 0 0] 59 (0, 0))] [vL 68 L_27 (RW.enc t42.table), vL 3 L_28 (RI.enc t42.floors), vL 51 L_29 (RS.enc t42.sills), vL 158 L_30 (RW.enc t44.table), vL 3 L_31 (RI.enc t44.floors), vL 159 L_32 (RS.enc t44.sills), vL 3 L_33 (RI.enc t46)]) ?_ (fun h62 => ?_)
     ·intro b_9 L_27 L_28 L_29 L_30 L_31 L_32 L_33 h55 h56 h57 h58 h59 h60 h61
      refine p_one rfl ?_
      refine g_allocV (fun w => Try.zeroValue29 w) rfl (fun b_10 h63 => ?_)
      refine p_next (fun w hh => hh.sel [1] [] 0 (by decide) (by decide) rfl rfl rfl) ?_
      exact p_shr (h45 b_10 b_9 L_27 L_28 L_29 L_30 L_31 L_32 L_33 h55 h56 h57 h58 h59 h60 h61) ((.cons rfl (.cons rfl (.cons rfl (.cons rfl (.cons rfl (.cons rfl (.cons rfl (.cons rfl (.cons rfl .nil)))))))))) (fun w hh => hh.sel [1, 0, 2] [0, 1, 2, 3, 4, 5, 6] 0 (by decide) (by decide) rfl rfl rfl)
     refine p_share m_laurellaw01_TideStays_Q7 (fun g => ∀ (b_11 : Nat) (L_34 : VL) (L_35 : VL) (L_36 : VL) (L_37 : VL) (L_38 : VL) (L_39 : VL) (L_40 : VL), vk 2 L_34 (RW.enc t42.table) → vk 1 L_35 (RI.enc t42.floors) → vk 3 L_36 (RS.enc t42.sills) → vk 2 L_37 (RW.enc t44.table) → vk 1 L_38 (RI.enc t44.floors) → vk 3 L_39 (RS.enc t44.sills) → vk 1 L_40 (RI.enc t46) → g [(1, .int .i64 minute1), (2, .int .i64 place2), (3, .slice qa3 na3 ca3), (4, ptr b 0), (9, ptr b_11 0), (42, .agg #[sL L_34, .int .i64 t42.wind.lo, .int .i64 t42.wind.hi, sL L_35, sL L_36]), (44, .agg #[sL L_37, .int .i64 t44.wind.lo, .int .i64 t44.wind.hi, sL L_38, sL L_39]), (46, sL L_40)] [(b, .cells #[.slice qa0 na0 ca0, .int .i64 s0.wind.lo, .int .i64 s0.wind.hi, .slice qa1 na1 ca1, .slice qa2 na2 ca2] 29 (0, 0)), (b_11, .cells #[slv none 0 0, .int .i64 0, .int .i64 0, slv none 0 0, slv none 0 0] 29 (0, 0))] [vL 68 L_34 (RW.enc t42.table), vL 3 L_35 (RI.enc t42.floors), vL 51 L_36 (RS.enc t42.sills), vL 158 L_37 (RW.enc t44.table), vL 3 L_38 (RI.enc t44.floors), vL 159 L_39 (RS.enc t44.sills), vL 3 L_40 (RI.enc t46)]) ?_ (fun h71 => ?_)
     ·intro b_11 L_34 L_35 L_36 L_37 L_38 L_39 L_40 h64 h65 h66 h67 h68 h69 h70
      refine p_one rfl ?_
      refine g_allocV (fun w => Try.zeroValue59 w) rfl (fun b_12 h72 => ?_)
      refine p_next (fun w hh => hh.sel [1] [] 0 (by decide) (by decide) rfl rfl rfl) ?_
      exact p_shr (h45 b_11 b_12 L_34 L_35 L_36 L_37 L_38 L_39 L_40 h64 h65 h66 h67 h68 h69 h70) ((.cons rfl (.cons rfl (.cons rfl (.cons rfl (.cons rfl (.cons rfl (.cons rfl (.cons rfl (.cons rfl .nil)))))))))) (fun w hh => hh.sel [1, 2, 0] [0, 1, 2, 3, 4, 5, 6] 0 (by decide) (by decide) rfl rfl rfl)
     refine p_share m_laurellaw01_TideStays_Q1 (fun g => ∀ (b_13 : Nat) (b_14 : Nat) (L_41 : VL) (L_42 : VL) (L_43 : VL), vk 2 L_41 (RW.enc t42.table) → vk 1 L_42 (RI.enc t42.floors) → vk 3 L_43 (RS.enc t42.sills) → g [(1, .int .i64 minute1), (2, .int .i64 place2), (3, .slice qa3 na3 ca3), (4, ptr b 0), (9, ptr b_13 0), (10, ptr b_14 0), (42, .agg #[sL L_41, .int .i64 t42.wind.lo, .int .i64 t42.wind.hi, sL L_42, sL L_43]), (43, .agg #[.slice qa0 na0 ca0, .int .i64 s0.wind.lo, .int .i64 s0.wind.hi, .slice qa1 na1 ca1, .slice qa2 na2 ca2]), (45, .slice qa3 na3 ca3)] [(b, .cells #[.slice qa0 na0 ca0, .int .i64 s0.wind.lo, .int .i64 s0.wind.hi, .slice qa1 na1 ca1, .slice qa2 na2 ca2] 29 (0, 0)), (b_13, .cells #[slv none 0 0, .int .i64 0, .int .i64 0, slv none 0 0, slv none 0 0] 29 (0, 0)), (b_14, .cells #[slv none 0 0, .int .i64 0, .int .i64 0, slv none 0 0, slv none 0 0] 59 (0, 0))] [vL 68 L_41 (RW.enc t42.table), vL 3 L_42 (RI.enc t42.floors), vL 51 L_43 (RS.enc t42.sills)]) ?_ (fun h76 => ?_)
     ·intro b_13 b_14 L_41 L_42 L_43 h73 h74 h75
      refine p_one rfl ?_
      refine g_callH [] [] rfl rfl rfl rfl rfl rfl rfl (fun a w => Try.call32 a w) (fun w hh => c_laurellaw01_theirs s0 qa0 na0 ca0 qa1 na1 ca1 qa2 na2 ca2 w (HV.callee (S0 := []) (vs0 := []) hh (roC (hh.rsep (S0 := []) (vs0 := []) 0 rfl) (roC (hh.rsep (S0 := []) (vs0 := []) 1 rfl) (roC (hh.rsep (S0 := []) (vs0 := []) 2 rfl) roN)))) hna0 hqa0 hla0 hna1 hqa1 hla1 hna2 hqa2 hla2 h20) (fun l_5 h77 => ?_)
      obtain ⟨h78, h79, h80⟩ := h77
      refine g_sel (S' := [_, _, _]) (vs' := [_, _, _, _, _, _]) [0, 1, 2] [0, 1, 2, 3, 4, 5] 0 (by decide) (by decide) rfl rfl rfl ?_
      refine p_next (fun w hh => hh.sel [0] [] 0 (by decide) (by decide) rfl rfl rfl) ?_
      exact p_shr (h52 b_13 b_14 L_41 L_42 L_43 l_5.1 l_5.2.1 l_5.2.2 h73 h74 h75 h78 h79 h80) ((.cons rfl (.cons rfl (.cons rfl (.cons rfl (.cons rfl (.cons rfl (.cons rfl (.cons rfl (.cons rfl .nil)))))))))) (fun w hh => hh.sel [0, 1, 2] [3, 4, 5, 0, 1, 2] 0 (by decide) (by decide) rfl rfl rfl)
     refine p_share m_laurellaw01_TideStays_Q4 (fun g => ∀ (b_15 : Nat) (L_44 : VL) (L_45 : VL) (L_46 : VL) (L_47 : VL) (L_48 : VL) (L_49 : VL), vk 2 L_44 (RW.enc t42.table) → vk 1 L_45 (RI.enc t42.floors) → vk 3 L_46 (RS.enc t42.sills) → vk 2 L_47 (RW.enc t44.table) → vk 1 L_48 (RI.enc t44.floors) → vk 3 L_49 (RS.enc t44.sills) → g [(1, .int .i64 minute1), (2, .int .i64 place2), (3, .slice qa3 na3 ca3), (4, ptr b 0), (10, ptr b_15 0), (42, .agg #[sL L_44, .int .i64 t42.wind.lo, .int .i64 t42.wind.hi, sL L_45, sL L_46]), (44, .agg #[sL L_47, .int .i64 t44.wind.lo, .int .i64 t44.wind.hi, sL L_48, sL L_49]), (45, .slice qa3 na3 ca3)] [(b, .cells #[.slice qa0 na0 ca0, .int .i64 s0.wind.lo, .int .i64 s0.wind.hi, .slice qa1 na1 ca1, .slice qa2 na2 ca2] 29 (0, 0)), (b_15, .cells #[slv none 0 0, .int .i64 0, .int .i64 0, slv none 0 0, slv none 0 0] 59 (0, 0))] [vL 68 L_44 (RW.enc t42.table), vL 3 L_45 (RI.enc t42.floors), vL 51 L_46 (RS.enc t42.sills), vL 158 L_47 (RW.enc t44.table), vL 3 L_48 (RI.enc t44.floors), vL 159 L_49 (RS.enc t44.sills)]) ?_ (fun h87 => ?_)
     ·intro b_15 L_44 L_45 L_46 L_47 L_48 L_49 h81 h82 h83 h84 h85 h86
      refine p_br ?_
      refine p_alt rfl ?_ ?_
      ·refine g_callH [] [] rfl rfl rfl rfl rfl rfl rfl (fun a w => Try.call65 a w) (fun w hh => c_laurelkit_Dup_int places3 qa3 na3 ca3 w (HV.callee (S0 := []) (vs0 := []) hh (roC (hh.rsep (S0 := []) (vs0 := []) 3 rfl) roN)) hna3 hqa3 hla3 h21) (fun l_6 h88 => ?_)
       have h89 := h88
       refine g_sel (S' := [_, _]) (vs' := [_, _, _, _, _, _, _]) [0, 1] [0, 1, 2, 3, 4, 5, 6] 0 (by decide) (by decide) rfl rfl rfl ?_
       refine p_next (fun w hh => hh.sel [0] [] 0 (by decide) (by decide) rfl rfl rfl) ?_
       exact p_shr (h62 b_15 L_44 L_45 L_46 L_47 L_48 L_49 l_6 h81 h82 h83 h84 h85 h86 h89) ((.cons rfl (.cons rfl (.cons rfl (.cons rfl (.cons rfl (.cons rfl (.cons rfl (.cons rfl .nil))))))))) (fun w hh => hh.sel [0, 1] [1, 2, 3, 4, 5, 6, 0] 0 (by decide) (by decide) rfl rfl rfl)
      refine p_alt rfl ?_ ?_
      ·refine g_allocV (fun w => Try.zeroValue29 w) rfl (fun b_16 h90 => ?_)
       refine p_next (fun w hh => hh.sel [1] [] 0 (by decide) (by decide) rfl rfl rfl) ?_
       exact p_shr (h52 b_16 b_15 L_44 L_45 L_46 L_47 L_48 L_49 h81 h82 h83 h84 h85 h86) ((.cons rfl (.cons rfl (.cons rfl (.cons rfl (.cons rfl (.cons rfl (.cons rfl (.cons rfl (.cons rfl .nil)))))))))) (fun w hh => hh.sel [1, 0, 2] [0, 1, 2, 3, 4, 5] 0 (by decide) (by decide) rfl rfl rfl)
      exact p_nil
     refine p_share m_laurellaw01_TideStays_Q8 (fun g => ∀ (b_17 : Nat) (L_50 : VL) (L_51 : VL) (L_52 : VL) (L_53 : VL) (L_54 : VL) (L_55 : VL), vk 2 L_50 (RW.enc t42.table) → vk 1 L_51 (RI.enc t42.floors) → vk 3 L_52 (RS.enc t42.sills) → vk 2 L_53 (RW.enc t44.table) → vk 1 L_54 (RI.enc t44.floors) → vk 3 L_55 (RS.enc t44.sills) → g [(1, .int .i64 minute1), (2, .int .i64 place2), (3, .slice qa3 na3 ca3), (4, ptr b 0), (9, ptr b_17 0), (42, .agg #[sL L_50, .int .i64 t42.wind.lo, .int .i64 t42.wind.hi, sL L_51, sL L_52]), (44, .agg #[sL L_53, .int .i64 t44.wind.lo, .int .i64 t44.wind.hi, sL L_54, sL L_55]), (45, .slice qa3 na3 ca3)] [(b, .cells #[.slice qa0 na0 ca0, .int .i64 s0.wind.lo, .int .i64 s0.wind.hi, .slice qa1 na1 ca1, .slice qa2 na2 ca2] 29 (0, 0)), (b_17, .cells #[slv none 0 0, .int .i64 0, .int .i64 0, slv none 0 0, slv none 0 0] 29 (0, 0))] [vL 68 L_50 (RW.enc t42.table), vL 3 L_51 (RI.enc t42.floors), vL 51 L_52 (RS.enc t42.sills), vL 158 L_53 (RW.enc t44.table), vL 3 L_54 (RI.enc t44.floors), vL 159 L_55 (RS.enc t44.sills)]) ?_ (fun h97 => ?_)
     ·intro b_17 L_50 L_51 L_52 L_53 L_54 L_55 h91 h92 h93 h94 h95 h96
      refine p_br ?_
      refine p_alt rfl ?_ ?_
      ·refine g_callH [] [] rfl rfl rfl rfl rfl rfl rfl (fun a w => Try.call65 a w) (fun w hh => c_laurelkit_Dup_int places3 qa3 na3 ca3 w (HV.callee (S0 := []) (vs0 := []) hh (roC (hh.rsep (S0 := []) (vs0 := []) 3 rfl) roN)) hna3 hqa3 hla3 h21) (fun l_7 h98 => ?_)
       have h99 := h98
       refine g_sel (S' := [_, _]) (vs' := [_, _, _, _, _, _, _]) [0, 1] [0, 1, 2, 3, 4, 5, 6] 0 (by decide) (by decide) rfl rfl rfl ?_
       refine p_next (fun w hh => hh.sel [0] [] 0 (by decide) (by decide) rfl rfl rfl) ?_
       exact p_shr (h71 b_17 L_50 L_51 L_52 L_53 L_54 L_55 l_7 h91 h92 h93 h94 h95 h96 h99) ((.cons rfl (.cons rfl (.cons rfl (.cons rfl (.cons rfl (.cons rfl (.cons rfl (.cons rfl .nil))))))))) (fun w hh => hh.sel [0, 1] [1, 2, 3, 4, 5, 6, 0] 0 (by decide) (by decide) rfl rfl rfl)
      refine p_alt rfl ?_ ?_
      ·refine g_allocV (fun w => Try.zeroValue59 w) rfl (fun b_18 h100 => ?_)
       refine p_next (fun w hh => hh.sel [1] [] 0 (by decide) (by decide) rfl rfl rfl) ?_
       exact p_shr (h52 b_17 b_18 L_50 L_51 L_52 L_53 L_54 L_55 h91 h92 h93 h94 h95 h96) ((.cons rfl (.cons rfl (.cons rfl (.cons rfl (.cons rfl (.cons rfl (.cons rfl (.cons rfl (.cons rfl .nil)))))))))) (fun w hh => hh.sel [1, 2, 0] [0, 1, 2, 3, 4, 5] 0 (by decide) (by decide) rfl rfl rfl)
      exact p_nil
     refine p_share m_laurellaw01_TideStays_Q0 (fun g => ∀ (b_19 : Nat) (b_20 : Nat), g [(1, .int .i64 minute1), (2, .int .i64 place2), (3, .slice qa3 na3 ca3), (4, ptr b 0), (9, ptr b_19 0), (10, ptr b_20 0), (41, .agg #[.slice qa0 na0 ca0, .int .i64 s0.wind.lo, .int .i64 s0.wind.hi, .slice qa1 na1 ca1, .slice qa2 na2 ca2]), (43, .agg #[.slice qa0 na0 ca0, .int .i64 s0.wind.lo, .int .i64 s0.wind.hi, .slice qa1 na1 ca1, .slice qa2 na2 ca2]), (45, .slice qa3 na3 ca3)] [(b, .cells #[.slice qa0 na0 ca0, .int .i64 s0.wind.lo, .int .i64 s0.wind.hi, .slice qa1 na1 ca1, .slice qa2 na2 ca2] 29 (0, 0)), (b_19, .cells #[slv none 0 0, .int .i64 0, .int .i64 0, slv none 0 0, slv none 0 0] 29 (0, 0)), (b_20, .cells #[slv none 0 0, .int .i64 0, .int .i64 0, slv none 0 0, slv none 0 0] 59 (0, 0))] []) ?_ (fun h101 => ?_)
     ·intro b_19 b_20
      refine p_one rfl ?_
      refine g_callH [] [] rfl rfl rfl rfl rfl rfl rfl (fun a w => Try.call25 a w) (fun w hh => c_laurellaw01_Own s0 qa0 na0 ca0 qa1 na1 ca1 qa2 na2 ca2 w (HV.callee (S0 := []) (vs0 := []) hh (roC (hh.rsep (S0 := []) (vs0 := []) 0 rfl) (roC (hh.rsep (S0 := []) (vs0 := []) 1 rfl) (roC (hh.rsep (S0 := []) (vs0 := []) 2 rfl) roN)))) hna0 hqa0 hla0 hna1 hqa1 hla1 hna2 hqa2 hla2 h19) (fun l_8 h102 => ?_)
      obtain ⟨h103, h104, h105⟩ := h102
      refine g_sel (S' := [_, _, _]) (vs' := [_, _, _]) [0, 1, 2] [0, 1, 2] 0 (by decide) (by decide) rfl rfl rfl ?_
      refine p_next (fun w hh => hh.sel [0] [] 0 (by decide) (by decide) rfl rfl rfl) ?_
      exact p_shr (h76 b_19 b_20 l_8.1 l_8.2.1 l_8.2.2 h103 h104 h105) ((.cons rfl (.cons rfl (.cons rfl (.cons rfl (.cons rfl (.cons rfl (.cons rfl (.cons rfl (.cons rfl .nil)))))))))) (fun w hh => hh)
     refine p_share m_laurellaw01_TideStays_Q5 (fun g => ∀ (b_21 : Nat) (L_56 : VL) (L_57 : VL) (L_58 : VL), vk 2 L_56 (RW.enc t42.table) → vk 1 L_57 (RI.enc t42.floors) → vk 3 L_58 (RS.enc t42.sills) → g [(1, .int .i64 minute1), (2, .int .i64 place2), (3, .slice qa3 na3 ca3), (4, ptr b 0), (10, ptr b_21 0), (42, .agg #[sL L_56, .int .i64 t42.wind.lo, .int .i64 t42.wind.hi, sL L_57, sL L_58]), (43, .agg #[.slice qa0 na0 ca0, .int .i64 s0.wind.lo, .int .i64 s0.wind.hi, .slice qa1 na1 ca1, .slice qa2 na2 ca2]), (45, .slice qa3 na3 ca3)] [(b, .cells #[.slice qa0 na0 ca0, .int .i64 s0.wind.lo, .int .i64 s0.wind.hi, .slice qa1 na1 ca1, .slice qa2 na2 ca2] 29 (0, 0)), (b_21, .cells #[slv none 0 0, .int .i64 0, .int .i64 0, slv none 0 0, slv none 0 0] 59 (0, 0))] [vL 68 L_56 (RW.enc t42.table), vL 3 L_57 (RI.enc t42.floors), vL 51 L_58 (RS.enc t42.sills)]) ?_ (fun h109 => ?_)
     ·intro b_21 L_56 L_57 L_58 h106 h107 h108
      refine p_br ?_
      refine p_alt rfl ?_ ?_
      ·refine g_callH [] [] rfl rfl rfl rfl rfl rfl rfl (fun a w => Try.call32 a w) (fun w hh => c_laurellaw01_theirs s0 qa0 na0 ca0 qa1 na1 ca1 qa2 na2 ca2 w (HV.callee (S0 := []) (vs0 := []) hh (roC (hh.rsep (S0 := []) (vs0 := []) 0 rfl) (roC (hh.rsep (S0 := []) (vs0 := []) 1 rfl) (roC (hh.rsep (S0 := []) (vs0 := []) 2 rfl) roN)))) hna0 hqa0 hla0 hna1 hqa1 hla1 hna2 hqa2 hla2 h20) (fun l_9 h110 => ?_)
       obtain ⟨h111, h112, h113⟩ := h110
       refine g_sel (S' := [_, _]) (vs' := [_, _, _, _, _, _]) [0, 1] [0, 1, 2, 3, 4, 5] 0 (by decide) (by decide) rfl rfl rfl ?_
       refine p_next (fun w hh => hh.sel [0] [] 0 (by decide) (by decide) rfl rfl rfl) ?_
       exact p_shr (h87 b_21 L_56 L_57 L_58 l_9.1 l_9.2.1 l_9.2.2 h106 h107 h108 h111 h112 h113) ((.cons rfl (.cons rfl (.cons rfl (.cons rfl (.cons rfl (.cons rfl (.cons rfl (.cons rfl .nil))))))))) (fun w hh => hh.sel [0, 1] [3, 4, 5, 0, 1, 2] 0 (by decide) (by decide) rfl rfl rfl)
      refine p_alt rfl ?_ ?_
      ·refine g_allocV (fun w => Try.zeroValue29 w) rfl (fun b_22 h114 => ?_)
       refine p_next (fun w hh => hh.sel [1] [] 0 (by decide) (by decide) rfl rfl rfl) ?_
       exact p_shr (h76 b_22 b_21 L_56 L_57 L_58 h106 h107 h108) ((.cons rfl (.cons rfl (.cons rfl (.cons rfl (.cons rfl (.cons rfl (.cons rfl (.cons rfl (.cons rfl .nil)))))))))) (fun w hh => hh.sel [1, 0, 2] [0, 1, 2] 0 (by decide) (by decide) rfl rfl rfl)
      exact p_nil
     refine p_share m_laurellaw01_TideStays_Q9 (fun g => ∀ (b_23 : Nat) (L_59 : VL) (L_60 : VL) (L_61 : VL), vk 2 L_59 (RW.enc t42.table) → vk 1 L_60 (RI.enc t42.floors) → vk 3 L_61 (RS.enc t42.sills) → g [(1, .int .i64 minute1), (2, .int .i64 place2), (3, .slice qa3 na3 ca3), (4, ptr b 0), (9, ptr b_23 0), (42, .agg #[sL L_59, .int .i64 t42.wind.lo, .int .i64 t42.wind.hi, sL L_60, sL L_61]), (43, .agg #[.slice qa0 na0 ca0, .int .i64 s0.wind.lo, .int .i64 s0.wind.hi, .slice qa1 na1 ca1, .slice qa2 na2 ca2]), (45, .slice qa3 na3 ca3)] [(b, .cells #[.slice qa0 na0 ca0, .int .i64 s0.wind.lo, .int .i64 s0.wind.hi, .slice qa1 na1 ca1, .slice qa2 na2 ca2] 29 (0, 0)), (b_23, .cells #[slv none 0 0, .int .i64 0, .int .i64 0, slv none 0 0, slv none 0 0] 29 (0, 0))] [vL 68 L_59 (RW.enc t42.table), vL 3 L_60 (RI.enc t42.floors), vL 51 L_61 (RS.enc t42.sills)]) ?_ (fun h118 => ?_)
     ·intro b_23 L_59 L_60 L_61 h115 h116 h117
      refine p_br ?_
      refine p_alt rfl ?_ ?_
      ·refine g_callH [] [] rfl rfl rfl rfl rfl rfl rfl (fun a w => Try.call32 a w) (fun w hh => c_laurellaw01_theirs s0 qa0 na0 ca0 qa1 na1 ca1 qa2 na2 ca2 w (HV.callee (S0 := []) (vs0 := []) hh (roC (hh.rsep (S0 := []) (vs0 := []) 0 rfl) (roC (hh.rsep (S0 := []) (vs0 := []) 1 rfl) (roC (hh.rsep (S0 := []) (vs0 := []) 2 rfl) roN)))) hna0 hqa0 hla0 hna1 hqa1 hla1 hna2 hqa2 hla2 h20) (fun l_10 h119 => ?_)
       obtain ⟨h120, h121, h122⟩ := h119
       refine g_sel (S' := [_, _]) (vs' := [_, _, _, _, _, _]) [0, 1] [0, 1, 2, 3, 4, 5] 0 (by decide) (by decide) rfl rfl rfl ?_
       refine p_next (fun w hh => hh.sel [0] [] 0 (by decide) (by decide) rfl rfl rfl) ?_
       exact p_shr (h97 b_23 L_59 L_60 L_61 l_10.1 l_10.2.1 l_10.2.2 h115 h116 h117 h120 h121 h122) ((.cons rfl (.cons rfl (.cons rfl (.cons rfl (.cons rfl (.cons rfl (.cons rfl (.cons rfl .nil))))))))) (fun w hh => hh.sel [0, 1] [3, 4, 5, 0, 1, 2] 0 (by decide) (by decide) rfl rfl rfl)
      refine p_alt rfl ?_ ?_
      ·refine g_allocV (fun w => Try.zeroValue59 w) rfl (fun b_24 h123 => ?_)
       refine p_next (fun w hh => hh.sel [1] [] 0 (by decide) (by decide) rfl rfl rfl) ?_
       exact p_shr (h76 b_23 b_24 L_59 L_60 L_61 h115 h116 h117) ((.cons rfl (.cons rfl (.cons rfl (.cons rfl (.cons rfl (.cons rfl (.cons rfl (.cons rfl (.cons rfl .nil)))))))))) (fun w hh => hh.sel [1, 2, 0] [0, 1, 2] 0 (by decide) (by decide) rfl rfl rfl)
      exact p_nil
     refine p_br ?_
     refine p_alt rfl ?_ ?_
     ·refine g_callH [] [] rfl rfl rfl rfl rfl rfl rfl (fun a w => Try.call25 a w) (fun w hh => c_laurellaw01_Own s0 qa0 na0 ca0 qa1 na1 ca1 qa2 na2 ca2 w (HV.callee (S0 := []) (vs0 := []) hh (roC (hh.rsep (S0 := []) (vs0 := []) 0 rfl) (roC (hh.rsep (S0 := []) (vs0 := []) 1 rfl) (roC (hh.rsep (S0 := []) (vs0 := []) 2 rfl) roN)))) hna0 hqa0 hla0 hna1 hqa1 hla1 hna2 hqa2 hla2 h19) (fun l_11 h124 => ?_)
      obtain ⟨h125, h126, h127⟩ := h124
      refine g_sel (S' := [_]) (vs' := [_, _, _]) [0] [0, 1, 2] 0 (by decide) (by decide) rfl rfl rfl ?_
      refine p_next (fun w hh => hh.sel [0] [] 0 (by decide) (by decide) rfl rfl rfl) ?_
      refine p_br ?_
      refine p_alt rfl ?_ ?_
      ·refine g_callH [] [] rfl rfl rfl rfl rfl rfl rfl (fun a w => Try.call32 a w) (fun w hh => c_laurellaw01_theirs s0 qa0 na0 ca0 qa1 na1 ca1 qa2 na2 ca2 w (HV.callee (S0 := []) (vs0 := []) hh (roC (hh.rsep (S0 := []) (vs0 := []) 0 rfl) (roC (hh.rsep (S0 := []) (vs0 := []) 1 rfl) (roC (hh.rsep (S0 := []) (vs0 := []) 2 rfl) roN)))) hna0 hqa0 hla0 hna1 hqa1 hla1 hna2 hqa2 hla2 h20) (fun l_12 h128 => ?_)
       obtain ⟨h129, h130, h131⟩ := h128
       refine g_sel (S' := [_]) (vs' := [_, _, _, _, _, _]) [0] [0, 1, 2, 3, 4, 5] 0 (by decide) (by decide) rfl rfl rfl ?_
       refine p_next (fun w hh => hh.sel [0] [] 0 (by decide) (by decide) rfl rfl rfl) ?_
       refine p_br ?_
       refine p_alt rfl ?_ ?_
       ·refine g_callH [] [] rfl rfl rfl rfl rfl rfl rfl (fun a w => Try.call65 a w) (fun w hh => c_laurelkit_Dup_int places3 qa3 na3 ca3 w (HV.callee (S0 := []) (vs0 := []) hh (roC (hh.rsep (S0 := []) (vs0 := []) 3 rfl) roN)) hna3 hqa3 hla3 h21) (fun l_13 h132 => ?_)
        have h133 := h132
        refine g_sel (S' := [_]) (vs' := [_, _, _, _, _, _, _]) [0] [0, 1, 2, 3, 4, 5, 6] 0 (by decide) (by decide) rfl rfl rfl ?_
        refine p_next (fun w hh => hh.sel [0] [] 0 (by decide) (by decide) rfl rfl rfl) ?_
        refine p_br ?_
        refine p_alt rfl ?_ ?_
        ·refine g_allocV (fun w => Try.zeroValue29 w) rfl (fun b_25 h134 => ?_)
         refine p_next (fun w hh => hh.sel [1] [] 0 (by decide) (by decide) rfl rfl rfl) ?_
         exact p_shr (h71 b_25 l_11.1 l_11.2.1 l_11.2.2 l_12.1 l_12.2.1 l_12.2.2 l_13 h125 h126 h127 h129 h130 h131 h133) ((.cons rfl (.cons rfl (.cons rfl (.cons rfl (.cons rfl (.cons rfl (.cons rfl (.cons rfl .nil))))))))) (fun w hh => hh.sel [1, 0] [4, 5, 6, 1, 2, 3, 0] 0 (by decide) (by decide) rfl rfl rfl)
        refine p_alt rfl ?_ ?_
        ·refine g_allocV (fun w => Try.zeroValue59 w) rfl (fun b_26 h135 => ?_)
         refine p_next (fun w hh => hh.sel [1] [] 0 (by decide) (by decide) rfl rfl rfl) ?_
         exact p_shr (h62 b_26 l_11.1 l_11.2.1 l_11.2.2 l_12.1 l_12.2.1 l_12.2.2 l_13 h125 h126 h127 h129 h130 h131 h133) ((.cons rfl (.cons rfl (.cons rfl (.cons rfl (.cons rfl (.cons rfl (.cons rfl (.cons rfl .nil))))))))) (fun w hh => hh.sel [1, 0] [4, 5, 6, 1, 2, 3, 0] 0 (by decide) (by decide) rfl rfl rfl)
        exact p_nil
       refine p_alt rfl ?_ ?_
       ·refine g_allocV (fun w => Try.zeroValue29 w) rfl (fun b_27 h136 => ?_)
        refine p_next (fun w hh => hh.sel [1] [] 0 (by decide) (by decide) rfl rfl rfl) ?_
        exact p_shr (h97 b_27 l_11.1 l_11.2.1 l_11.2.2 l_12.1 l_12.2.1 l_12.2.2 h125 h126 h127 h129 h130 h131) ((.cons rfl (.cons rfl (.cons rfl (.cons rfl (.cons rfl (.cons rfl (.cons rfl (.cons rfl .nil))))))))) (fun w hh => hh.sel [1, 0] [3, 4, 5, 0, 1, 2] 0 (by decide) (by decide) rfl rfl rfl)
       refine p_alt rfl ?_ ?_
       ·refine g_allocV (fun w => Try.zeroValue59 w) rfl (fun b_28 h137 => ?_)
        refine p_next (fun w hh => hh.sel [1] [] 0 (by decide) (by decide) rfl rfl rfl) ?_
        exact p_shr (h87 b_28 l_11.1 l_11.2.1 l_11.2.2 l_12.1 l_12.2.1 l_12.2.2 h125 h126 h127 h129 h130 h131) ((.cons rfl (.cons rfl (.cons rfl (.cons rfl (.cons rfl (.cons rfl (.cons rfl (.cons rfl .nil))))))))) (fun w hh => hh.sel [1, 0] [3, 4, 5, 0, 1, 2] 0 (by decide) (by decide) rfl rfl rfl)
       exact p_nil
      refine p_alt rfl ?_ ?_
      ·refine g_allocV (fun w => Try.zeroValue29 w) rfl (fun b_29 h138 => ?_)
       refine p_next (fun w hh => hh.sel [1] [] 0 (by decide) (by decide) rfl rfl rfl) ?_
       exact p_shr (h118 b_29 l_11.1 l_11.2.1 l_11.2.2 h125 h126 h127) ((.cons rfl (.cons rfl (.cons rfl (.cons rfl (.cons rfl (.cons rfl (.cons rfl (.cons rfl .nil))))))))) (fun w hh => hh.sel [1, 0] [0, 1, 2] 0 (by decide) (by decide) rfl rfl rfl)
      refine p_alt rfl ?_ ?_
      ·refine g_allocV (fun w => Try.zeroValue59 w) rfl (fun b_30 h139 => ?_)
       refine p_next (fun w hh => hh.sel [1] [] 0 (by decide) (by decide) rfl rfl rfl) ?_
       exact p_shr (h109 b_30 l_11.1 l_11.2.1 l_11.2.2 h125 h126 h127) ((.cons rfl (.cons rfl (.cons rfl (.cons rfl (.cons rfl (.cons rfl (.cons rfl (.cons rfl .nil))))))))) (fun w hh => hh.sel [1, 0] [0, 1, 2] 0 (by decide) (by decide) rfl rfl rfl)
      exact p_nil
     refine p_alt rfl ?_ ?_
     ·refine g_allocV (fun w => Try.zeroValue29 w) rfl (fun b_31 h140 => ?_)
      refine p_next (fun w hh => hh.sel [1] [] 0 (by decide) (by decide) rfl rfl rfl) ?_
      refine p_br ?_
      refine p_alt rfl ?_ ?_
      ·refine g_callH [] [] rfl rfl rfl rfl rfl rfl rfl (fun a w => Try.call25 a w) (fun w hh => c_laurellaw01_Own s0 qa0 na0 ca0 qa1 na1 ca1 qa2 na2 ca2 w (HV.callee (S0 := []) (vs0 := []) hh (roC (hh.rsep (S0 := []) (vs0 := []) 0 rfl) (roC (hh.rsep (S0 := []) (vs0 := []) 1 rfl) (roC (hh.rsep (S0 := []) (vs0 := []) 2 rfl) roN)))) hna0 hqa0 hla0 hna1 hqa1 hla1 hna2 hqa2 hla2 h19) (fun l_14 h141 => ?_)
       obtain ⟨h142, h143, h144⟩ := h141
       refine g_sel (S' := [_, _]) (vs' := [_, _, _]) [0, 1] [0, 1, 2] 0 (by decide) (by decide) rfl rfl rfl ?_
       refine p_next (fun w hh => hh.sel [1] [] 0 (by decide) (by decide) rfl rfl rfl) ?_
       exact p_shr (h118 b_31 l_14.1 l_14.2.1 l_14.2.2 h142 h143 h144) ((.cons rfl (.cons rfl (.cons rfl (.cons rfl (.cons rfl (.cons rfl (.cons rfl (.cons rfl .nil))))))))) (fun w hh => hh.sel [1, 0] [0, 1, 2] 0 (by decide) (by decide) rfl rfl rfl)
      refine p_alt rfl ?_ ?_
      ·refine g_allocV (fun w => Try.zeroValue59 w) rfl (fun b_32 h145 => ?_)
       refine p_next (fun w hh => hh.sel [2] [] 0 (by decide) (by decide) rfl rfl rfl) ?_
       exact p_shr (h101 b_31 b_32) ((.cons rfl (.cons rfl (.cons rfl (.cons rfl (.cons rfl (.cons rfl (.cons rfl (.cons rfl (.cons rfl .nil)))))))))) (fun w hh => hh.sel [2, 1, 0] [] 0 (by decide) (by decide) rfl rfl rfl)
      exact p_nil
     refine p_alt rfl ?_ ?_
     ·refine g_allocV (fun w => Try.zeroValue59 w) rfl (fun b_33 h146 => ?_)
      refine p_next (fun w hh => hh.sel [1] [] 0 (by decide) (by decide) rfl rfl rfl) ?_
      refine p_br ?_
      refine p_alt rfl ?_ ?_
      ·refine g_callH [] [] rfl rfl rfl rfl rfl rfl rfl (fun a w => Try.call25 a w) (fun w hh => c_laurellaw01_Own s0 qa0 na0 ca0 qa1 na1 ca1 qa2 na2 ca2 w (HV.callee (S0 := []) (vs0 := []) hh (roC (hh.rsep (S0 := []) (vs0 := []) 0 rfl) (roC (hh.rsep (S0 := []) (vs0 := []) 1 rfl) (roC (hh.rsep (S0 := []) (vs0 := []) 2 rfl) roN)))) hna0 hqa0 hla0 hna1 hqa1 hla1 hna2 hqa2 hla2 h19) (fun l_15 h147 => ?_)
       obtain ⟨h148, h149, h150⟩ := h147
       refine g_sel (S' := [_, _]) (vs' := [_, _, _]) [0, 1] [0, 1, 2] 0 (by decide) (by decide) rfl rfl rfl ?_
       refine p_next (fun w hh => hh.sel [1] [] 0 (by decide) (by decide) rfl rfl rfl) ?_
       exact p_shr (h109 b_33 l_15.1 l_15.2.1 l_15.2.2 h148 h149 h150) ((.cons rfl (.cons rfl (.cons rfl (.cons rfl (.cons rfl (.cons rfl (.cons rfl (.cons rfl .nil))))))))) (fun w hh => hh.sel [1, 0] [0, 1, 2] 0 (by decide) (by decide) rfl rfl rfl)
      refine p_alt rfl ?_ ?_
      ·refine g_allocV (fun w => Try.zeroValue29 w) rfl (fun b_34 h151 => ?_)
       refine p_next (fun w hh => hh.sel [2] [] 0 (by decide) (by decide) rfl rfl rfl) ?_
       exact p_shr (h101 b_34 b_33) ((.cons rfl (.cons rfl (.cons rfl (.cons rfl (.cons rfl (.cons rfl (.cons rfl (.cons rfl (.cons rfl .nil)))))))))) (fun w hh => hh.sel [2, 0, 1] [] 0 (by decide) (by decide) rfl rfl rfl)
      exact p_nil
     exact p_nil
    ·intro l_3 hj
     obtain ⟨h12, h13, h14, h15, h16, h17, h18⟩ := hj
     replace hm := h11
     refine g_n_then ?_
     refine g_seq ?_
     refine g_region ?_
     refine g_val rfl rfl rfl (fun w hh => v_loadAgg (vs := [_, _, _, _, _]) (Try.isAgg59 w) (Try.sizeOf59 w) rfl (hh.cells 2 rfl rfl)) ?_
     obtain ⟨t48, h152, hm⟩ := bindO hm
     refine g_callH [] [] rfl rfl rfl rfl rfl rfl rfl (fun a w => Try.call33 a w) (fun w hh => c_laurelref01_Check o_1.x10 (qA l_3.2.2.2.2.2.2.1.q) l_3.2.2.2.2.2.2.1.n l_3.2.2.2.2.2.2.1.cap (qA l_3.2.2.2.2.2.2.2.1.q) l_3.2.2.2.2.2.2.2.1.n l_3.2.2.2.2.2.2.2.1.cap (qA l_3.2.2.2.2.2.2.2.2.q) l_3.2.2.2.2.2.2.2.2.n l_3.2.2.2.2.2.2.2.2.cap w (HV.callee (S0 := []) (vs0 := []) hh (roC (hh.vsepA (S0 := []) (vs0 := []) 4 rfl h16) (roC (hh.vsepA (S0 := []) (vs0 := []) 5 rfl h17) (roC (hh.vsepA (S0 := []) (vs0 := []) 6 rfl h18) roN)))) (vlen RW h16 rfl) (AOK.q (vne h16)) (h16).hle (vlen RI h17 rfl) (AOK.q (vne h17)) (h17).hle (vlen RS h18 rfl) (AOK.q (vne h18)) (h18).hle h152) (fun l_16 h153 => ?_)
     refine g_val rfl rfl rfl (fun _ _ => v_assign rfl) ?_
     refine g_nil ?_
     refine g_n_then ?_
     refine g_seq ?_
     refine g_region ?_
     refine g_val rfl rfl rfl (fun _ _ => v_move rfl) ?_
     refine g_val rfl rfl rfl (fun _ _ => v_move rfl) ?_
     refine g_val rfl rfl rfl (fun _ _ => v_assign rfl) ?_
     refine g_val rfl rfl rfl (fun _ _ => v_assign rfl) ?_
     refine g_nil ?_
     refine g_n_then ?_
     refine g_seq ?_
     refine g_region ?_
     refine g_val rfl rfl rfl (fun _ _ => v_build (vs := []) (cells := [_, _]) rfl rfl) ?_
     refine g_allocV (fun w => Try.zeroValue25 w) rfl (fun b_35 h154 => ?_)
     refine g_val rfl rfl rfl (fun _ _ => v_assign rfl) ?_
     refine g_val rfl rfl rfl (fun _ _ => v_assign rfl) ?_
     refine g_val rfl rfl rfl (fun _ _ => v_nilS rfl) ?_
     refine g_stSA (us := #[_, _]) (cs' := [_, _]) (S' := [_, _, _, _]) 0 (fun w => Try.sizeOf25 w) rfl rfl rfl rfl rfl rfl rfl ?_
     refine g_nil ?_
     refine g_n_then ?_
     refine g_seq ?_
     refine g_vnil 3 ?_
     obtain ⟨o_2, h155, h156⟩ := bindO hm
     refine g_cut (ι := VL) (fun l_17 => VOK 1 l_17.n l_17.cap (RI.enc o_2.want17) l_17.sp l_17.q) (fun l_17 => [(1, .int .i64 minute1), (2, .int .i64 place2), (3, .slice qa3 na3 ca3), (4, ptr b 0), (9, ptr l_3.1 0), (11, slv l_3.2.2.1.q l_3.2.2.1.n l_3.2.2.1.cap), (12, .int .i64 o_2.w12), (13, .int .i64 o_2.u13), (14, .int .i64 o_2.v14), (15, .int .i64 o_2.turn15), (16, .int .i64 o_2.at16), (17, slv l_17.q l_17.n l_17.cap), (18, ptr b_35 0)]) (fun l_17 => [(b_35, .cells #[.int .i64 o_2.span18_lo, .int .i64 o_2.span18_hi] 25 (0, 0)), (b, .cells #[.slice qa0 na0 ca0, .int .i64 s0.wind.lo, .int .i64 s0.wind.hi, .slice qa1 na1 ca1, .slice qa2 na2 ca2] 29 (0, 0)), (l_3.1, .cells #[slv l_3.2.2.2.1.q l_3.2.2.2.1.n l_3.2.2.2.1.cap, .int .i64 o_1.own9.wind.lo, .int .i64 o_1.own9.wind.hi, slv l_3.2.2.2.2.1.q l_3.2.2.2.2.1.n l_3.2.2.2.2.1.cap, slv l_3.2.2.2.2.2.1.q l_3.2.2.2.2.2.1.n l_3.2.2.2.2.2.1.cap] 29 (0, 0)), (l_3.2.1, .cells #[slv l_3.2.2.2.2.2.2.1.q l_3.2.2.2.2.2.2.1.n l_3.2.2.2.2.2.2.1.cap, .int .i64 o_1.x10.wind.lo, .int .i64 o_1.x10.wind.hi, slv l_3.2.2.2.2.2.2.2.1.q l_3.2.2.2.2.2.2.2.1.n l_3.2.2.2.2.2.2.2.1.cap, slv l_3.2.2.2.2.2.2.2.2.q l_3.2.2.2.2.2.2.2.2.n l_3.2.2.2.2.2.2.2.2.cap] 59 (0, 0))]) (fun l_17 => [⟨3, RI.enc o_1.mine11, l_3.2.2.1.sp, l_3.2.2.1.q⟩, ⟨3, RI.enc o_2.want17, l_17.sp, l_17.q⟩, ⟨68, RW.enc o_1.own9.table, l_3.2.2.2.1.sp, l_3.2.2.2.1.q⟩, ⟨3, RI.enc o_1.own9.floors, l_3.2.2.2.2.1.sp, l_3.2.2.2.2.1.q⟩, ⟨51, RS.enc o_1.own9.sills, l_3.2.2.2.2.2.1.sp, l_3.2.2.2.2.2.1.q⟩, ⟨158, RW.enc o_1.x10.table, l_3.2.2.2.2.2.2.1.sp, l_3.2.2.2.2.2.2.1.q⟩, ⟨3, RI.enc o_1.x10.floors, l_3.2.2.2.2.2.2.2.1.sp, l_3.2.2.2.2.2.2.2.1.q⟩, ⟨159, RS.enc o_1.x10.sills, l_3.2.2.2.2.2.2.2.2.sp, l_3.2.2.2.2.2.2.2.2.q⟩]) ?_ ?_
     ·replace hm := h155
      refine g_seq ?_
      refine g_region ?_
      refine g_val rfl rfl rfl (fun _ _ => v_move rfl) ?_
      refine g_val rfl rfl rfl (fun _ _ => v_eql rfl rfl) ?_
      refine g_nil ?_
      refine g_n_then ?_
      refine g_cond rfl (fun h158 => ?_) (fun h158 => ?_)
      ·replace hm := ifT (of_decide_eq_true h158) hm
       refine g_seq ?_
       refine g_region ?_
       refine g_val rfl rfl rfl (fun w hh => v_loadAgg (vs := [_, _, _, _, _]) (Try.isAgg59 w) (Try.sizeOf59 w) rfl (hh.cells 3 rfl rfl)) ?_
       obtain ⟨t55, h159, hm⟩ := bindO hm
       refine g_callH [] [] rfl rfl rfl rfl rfl rfl rfl (fun a w => Try.call43 a w) (fun w hh => c_laurelref01_Gates o_1.x10 (qA l_3.2.2.2.2.2.2.1.q) l_3.2.2.2.2.2.2.1.n l_3.2.2.2.2.2.2.1.cap (qA l_3.2.2.2.2.2.2.2.1.q) l_3.2.2.2.2.2.2.2.1.n l_3.2.2.2.2.2.2.2.1.cap (qA l_3.2.2.2.2.2.2.2.2.q) l_3.2.2.2.2.2.2.2.2.n l_3.2.2.2.2.2.2.2.2.cap w (HV.callee (S0 := []) (vs0 := []) hh (roC (hh.vsepA (S0 := []) (vs0 := []) 5 rfl h16) (roC (hh.vsepA (S0 := []) (vs0 := []) 6 rfl h17) (roC (hh.vsepA (S0 := []) (vs0 := []) 7 rfl h18) roN)))) (vlen RW h16 rfl) (AOK.q (vne h16)) (h16).hle (vlen RI h17 rfl) (AOK.q (vne h17)) (h17).hle (vlen RS h18 rfl) (AOK.q (vne h18)) (h18).hle h159) (fun l_18 h160 => ?_)
       have h161 := h160
       refine g_sel (S' := [_, _, _, _]) (vs' := [_, _, _, _, _, _, _, _, _]) [0, 1, 2, 3] [0, 1, 2, 3, 4, 5, 6, 7, 8] 0 (by decide) (by decide) rfl rfl rfl ?_
       refine g_val rfl rfl rfl (fun _ _ => v_assign rfl) ?_
       refine g_nil ?_
       refine g_n_then ?_
       refine g_seq ?_
       refine g_region ?_
       refine g_val rfl rfl rfl (fun w hh => v_loadAgg (vs := [_, _, _, _, _]) (Try.isAgg59 w) (Try.sizeOf59 w) rfl (hh.cells 3 rfl rfl)) ?_
       refine g_val rfl rfl rfl (fun _ _ => v_move rfl) ?_
       obtain ⟨t58, h162, hm⟩ := bindO hm
       refine g_callH [] [] rfl rfl rfl rfl rfl rfl rfl (fun a w => Try.call34 a w) (fun w hh => c_laurelref01_Minute o_1.x10 minute1 (qA l_3.2.2.2.2.2.2.1.q) l_3.2.2.2.2.2.2.1.n l_3.2.2.2.2.2.2.1.cap (qA l_3.2.2.2.2.2.2.2.1.q) l_3.2.2.2.2.2.2.2.1.n l_3.2.2.2.2.2.2.2.1.cap (qA l_3.2.2.2.2.2.2.2.2.q) l_3.2.2.2.2.2.2.2.2.n l_3.2.2.2.2.2.2.2.2.cap w (HV.callee (S0 := []) (vs0 := []) hh (roC (hh.vsepA (S0 := []) (vs0 := []) 6 rfl h16) (roC (hh.vsepA (S0 := []) (vs0 := []) 7 rfl h17) (roC (hh.vsepA (S0 := []) (vs0 := []) 8 rfl h18) roN)))) (vlen RW h16 rfl) (AOK.q (vne h16)) (h16).hle (vlen RI h17 rfl) (AOK.q (vne h17)) (h17).hle (vlen RS h18 rfl) (AOK.q (vne h18)) (h18).hle h162) (fun l_19 h163 => ?_)
       refine g_val rfl rfl rfl (fun _ _ => v_assign rfl) ?_
       refine g_nil ?_
       refine g_n_then ?_
       refine g_seq ?_
       obtain ⟨o_3, h164, h165⟩ := bindO hm
       refine g_cut (ι := Unit) (fun l_20 => True) (fun l_20 => [(1, .int .i64 minute1), (2, .int .i64 place2), (3, .slice qa3 na3 ca3), (4, ptr b 0), (9, ptr l_3.1 0), (10, ptr l_3.2.1 0), (11, slv l_3.2.2.1.q l_3.2.2.1.n l_3.2.2.1.cap), (12, .int .i64 o_3), (13, .int .i64 t58), (14, .int .i64 t48), (15, .int .i64 0), (16, .int .i64 0), (17, slv none 0 0), (18, ptr b_35 0), (19, slv l_18.q l_18.n l_18.cap)]) (fun l_20 => [(b_35, .cells #[.int .i64 0, .int .i64 0] 25 (0, 0)), (b, .cells #[.slice qa0 na0 ca0, .int .i64 s0.wind.lo, .int .i64 s0.wind.hi, .slice qa1 na1 ca1, .slice qa2 na2 ca2] 29 (0, 0)), (l_3.1, .cells #[slv l_3.2.2.2.1.q l_3.2.2.2.1.n l_3.2.2.2.1.cap, .int .i64 o_1.own9.wind.lo, .int .i64 o_1.own9.wind.hi, slv l_3.2.2.2.2.1.q l_3.2.2.2.2.1.n l_3.2.2.2.2.1.cap, slv l_3.2.2.2.2.2.1.q l_3.2.2.2.2.2.1.n l_3.2.2.2.2.2.1.cap] 29 (0, 0)), (l_3.2.1, .cells #[slv l_3.2.2.2.2.2.2.1.q l_3.2.2.2.2.2.2.1.n l_3.2.2.2.2.2.2.1.cap, .int .i64 o_1.x10.wind.lo, .int .i64 o_1.x10.wind.hi, slv l_3.2.2.2.2.2.2.2.1.q l_3.2.2.2.2.2.2.2.1.n l_3.2.2.2.2.2.2.2.1.cap, slv l_3.2.2.2.2.2.2.2.2.q l_3.2.2.2.2.2.2.2.2.n l_3.2.2.2.2.2.2.2.2.cap] 59 (0, 0))]) (fun l_20 => [⟨3, RI.enc o_1.mine11, l_3.2.2.1.sp, l_3.2.2.1.q⟩, ⟨3, RI.enc [], [], none⟩, ⟨3, RI.enc t55, l_18.sp, l_18.q⟩, ⟨68, RW.enc o_1.own9.table, l_3.2.2.2.1.sp, l_3.2.2.2.1.q⟩, ⟨3, RI.enc o_1.own9.floors, l_3.2.2.2.2.1.sp, l_3.2.2.2.2.1.q⟩, ⟨51, RS.enc o_1.own9.sills, l_3.2.2.2.2.2.1.sp, l_3.2.2.2.2.2.1.q⟩, ⟨158, RW.enc o_1.x10.table, l_3.2.2.2.2.2.2.1.sp, l_3.2.2.2.2.2.2.1.q⟩, ⟨3, RI.enc o_1.x10.floors, l_3.2.2.2.2.2.2.2.1.sp, l_3.2.2.2.2.2.2.2.1.q⟩, ⟨159, RS.enc o_1.x10.sills, l_3.2.2.2.2.2.2.2.2.sp, l_3.2.2.2.2.2.2.2.2.q⟩]) ?_ ?_
       ·replace hm := h164
        refine g_seq ?_
        refine g_region ?_
        refine g_val rfl rfl rfl (fun w hh => v_loadAgg (vs := [_, _, _, _, _]) (Try.isAgg59 w) (Try.sizeOf59 w) rfl (hh.cells 3 rfl rfl)) ?_
        refine g_val rfl rfl rfl (fun _ _ => v_move rfl) ?_
        obtain ⟨t61, h166, hm⟩ := bindO hm
        refine g_callH [] [] rfl rfl rfl rfl rfl rfl rfl (fun a w => Try.call44 a w) (fun w hh => c_laurelref01_Place o_1.x10 place2 (qA l_3.2.2.2.2.2.2.1.q) l_3.2.2.2.2.2.2.1.n l_3.2.2.2.2.2.2.1.cap (qA l_3.2.2.2.2.2.2.2.1.q) l_3.2.2.2.2.2.2.2.1.n l_3.2.2.2.2.2.2.2.1.cap (qA l_3.2.2.2.2.2.2.2.2.q) l_3.2.2.2.2.2.2.2.2.n l_3.2.2.2.2.2.2.2.2.cap w (HV.callee (S0 := []) (vs0 := []) hh (roC (hh.vsepA (S0 := []) (vs0 := []) 6 rfl h16) (roC (hh.vsepA (S0 := []) (vs0 := []) 7 rfl h17) (roC (hh.vsepA (S0 := []) (vs0 := []) 8 rfl h18) roN)))) (vlen RW h16 rfl) (AOK.q (vne h16)) (h16).hle (vlen RI h17 rfl) (AOK.q (vne h17)) (h17).hle (vlen RS h18 rfl) (AOK.q (vne h18)) (h18).hle h166) (fun l_21 h167 => ?_)
        refine g_val rfl rfl rfl (fun _ _ => v_assign rfl) ?_
        refine g_nil ?_
        refine g_n_then ?_
        refine g_seq ?_
        refine g_region ?_
        refine g_val rfl rfl rfl (fun _ _ => v_move rfl) ?_
        refine g_val rfl rfl rfl (fun _ _ => v_eql rfl rfl) ?_
        refine g_nil ?_
        refine g_n_then ?_
        refine g_cond rfl (fun h168 => ?_) (fun h168 => ?_)
        ·replace hm := ifT (of_decide_eq_true h168) hm
         refine g_region ?_
         refine g_val rfl rfl rfl (fun _ _ => v_move rfl) ?_
         refine g_val rfl rfl rfl (fun _ _ => v_assign rfl) ?_
         refine g_nil ?_
         obtain rfl := Option.some.inj hm
         exact g_leaf () (trivial) ((.cons rfl (.cons rfl (.cons rfl (.cons rfl (.cons rfl (.cons rfl (.cons rfl (.cons rfl (.cons rfl (.cons rfl (.cons rfl (.cons rfl (.cons rfl (.cons rfl (.cons rfl .nil)))))))))))))))) (fun w hh => hh.sel [0, 1, 2, 3] [2, 1, 0, 3, 4, 5, 6, 7, 8] 0 (by decide) (by decide) rfl rfl rfl)
        ·replace hm := ifF (of_decide_eq_false h168) hm
         refine g_skip ?_
         obtain rfl := Option.some.inj hm
         exact g_leaf () (trivial) ((.cons rfl (.cons rfl (.cons rfl (.cons rfl (.cons rfl (.cons rfl (.cons rfl (.cons rfl (.cons rfl (.cons rfl (.cons rfl (.cons rfl (.cons rfl (.cons rfl (.cons rfl .nil)))))))))))))))) (fun w hh => hh.sel [0, 1, 2, 3] [2, 1, 0, 3, 4, 5, 6, 7, 8] 0 (by decide) (by decide) rfl rfl rfl)
       ·intro l_20 hj
        replace hm := h165
        refine g_n_then ?_
        refine g_seq ?_
        obtain ⟨o_4, h169, h170⟩ := bindO hm
        refine g_cut (ι := Unit) (fun l_22 => True) (fun l_22 => [(1, .int .i64 minute1), (2, .int .i64 place2), (3, .slice qa3 na3 ca3), (4, ptr b 0), (9, ptr l_3.1 0), (10, ptr l_3.2.1 0), (11, slv l_3.2.2.1.q l_3.2.2.1.n l_3.2.2.1.cap), (12, .int .i64 o_4.w12), (13, .int .i64 t58), (14, .int .i64 t48), (15, .int .i64 o_4.turn15), (16, .int .i64 0), (17, slv none 0 0), (18, ptr b_35 0), (19, slv l_18.q l_18.n l_18.cap)]) (fun l_22 => [(b_35, .cells #[.int .i64 0, .int .i64 0] 25 (0, 0)), (b, .cells #[.slice qa0 na0 ca0, .int .i64 s0.wind.lo, .int .i64 s0.wind.hi, .slice qa1 na1 ca1, .slice qa2 na2 ca2] 29 (0, 0)), (l_3.1, .cells #[slv l_3.2.2.2.1.q l_3.2.2.2.1.n l_3.2.2.2.1.cap, .int .i64 o_1.own9.wind.lo, .int .i64 o_1.own9.wind.hi, slv l_3.2.2.2.2.1.q l_3.2.2.2.2.1.n l_3.2.2.2.2.1.cap, slv l_3.2.2.2.2.2.1.q l_3.2.2.2.2.2.1.n l_3.2.2.2.2.2.1.cap] 29 (0, 0)), (l_3.2.1, .cells #[slv l_3.2.2.2.2.2.2.1.q l_3.2.2.2.2.2.2.1.n l_3.2.2.2.2.2.2.1.cap, .int .i64 o_1.x10.wind.lo, .int .i64 o_1.x10.wind.hi, slv l_3.2.2.2.2.2.2.2.1.q l_3.2.2.2.2.2.2.2.1.n l_3.2.2.2.2.2.2.2.1.cap, slv l_3.2.2.2.2.2.2.2.2.q l_3.2.2.2.2.2.2.2.2.n l_3.2.2.2.2.2.2.2.2.cap] 59 (0, 0))]) (fun l_22 => [⟨3, RI.enc o_1.mine11, l_3.2.2.1.sp, l_3.2.2.1.q⟩, ⟨3, RI.enc [], [], none⟩, ⟨3, RI.enc t55, l_18.sp, l_18.q⟩, ⟨68, RW.enc o_1.own9.table, l_3.2.2.2.1.sp, l_3.2.2.2.1.q⟩, ⟨3, RI.enc o_1.own9.floors, l_3.2.2.2.2.1.sp, l_3.2.2.2.2.1.q⟩, ⟨51, RS.enc o_1.own9.sills, l_3.2.2.2.2.2.1.sp, l_3.2.2.2.2.2.1.q⟩, ⟨158, RW.enc o_1.x10.table, l_3.2.2.2.2.2.2.1.sp, l_3.2.2.2.2.2.2.1.q⟩, ⟨3, RI.enc o_1.x10.floors, l_3.2.2.2.2.2.2.2.1.sp, l_3.2.2.2.2.2.2.2.1.q⟩, ⟨159, RS.enc o_1.x10.sills, l_3.2.2.2.2.2.2.2.2.sp, l_3.2.2.2.2.2.2.2.2.q⟩]) ?_ ?_
        ·replace hm := h169
         refine g_seq ?_
         refine g_region ?_
         refine g_val rfl rfl rfl (fun _ _ => v_move rfl) ?_
         refine g_val rfl rfl rfl (fun _ _ => v_eql rfl rfl) ?_
         refine g_nil ?_
         refine g_n_then ?_
         refine g_cond rfl (fun h171 => ?_) (fun h171 => ?_)
         ·replace hm := ifT (of_decide_eq_true h171) hm
          refine g_seq ?_
          obtain ⟨o_5, h172, h173⟩ := bindO hm
          refine g_cut (ι := Nat) (fun l_23 => True) (fun l_23 => [(1, .int .i64 minute1), (2, .int .i64 place2), (3, .slice qa3 na3 ca3), (4, ptr b 0), (9, ptr l_3.1 0), (10, ptr l_3.2.1 0), (11, slv l_3.2.2.1.q l_3.2.2.1.n l_3.2.2.1.cap), (12, .int .i64 o_3), (13, .int .i64 t58), (14, .int .i64 t48), (16, .int .i64 0), (17, slv none 0 0), (18, ptr b_35 0), (19, slv l_18.q l_18.n l_18.cap), (20, ptr l_23 0), (21, .bool o_5.is21)]) (fun l_23 => [(b_35, .cells #[.int .i64 0, .int .i64 0] 25 (0, 0)), (b, .cells #[.slice qa0 na0 ca0, .int .i64 s0.wind.lo, .int .i64 s0.wind.hi, .slice qa1 na1 ca1, .slice qa2 na2 ca2] 29 (0, 0)), (l_3.1, .cells #[slv l_3.2.2.2.1.q l_3.2.2.2.1.n l_3.2.2.2.1.cap, .int .i64 o_1.own9.wind.lo, .int .i64 o_1.own9.wind.hi, slv l_3.2.2.2.2.1.q l_3.2.2.2.2.1.n l_3.2.2.2.2.1.cap, slv l_3.2.2.2.2.2.1.q l_3.2.2.2.2.2.1.n l_3.2.2.2.2.2.1.cap] 29 (0, 0)), (l_3.2.1, .cells #[slv l_3.2.2.2.2.2.2.1.q l_3.2.2.2.2.2.2.1.n l_3.2.2.2.2.2.2.1.cap, .int .i64 o_1.x10.wind.lo, .int .i64 o_1.x10.wind.hi, slv l_3.2.2.2.2.2.2.2.1.q l_3.2.2.2.2.2.2.2.1.n l_3.2.2.2.2.2.2.2.1.cap, slv l_3.2.2.2.2.2.2.2.2.q l_3.2.2.2.2.2.2.2.2.n l_3.2.2.2.2.2.2.2.2.cap] 59 (0, 0)), (l_23, .cells #[.int .i64 o_5.run20.lo, .int .i64 o_5.run20.hi] 25 (0, 0))]) (fun l_23 => [⟨3, RI.enc o_1.mine11, l_3.2.2.1.sp, l_3.2.2.1.q⟩, ⟨3, RI.enc [], [], none⟩, ⟨3, RI.enc t55, l_18.sp, l_18.q⟩, ⟨68, RW.enc o_1.own9.table, l_3.2.2.2.1.sp, l_3.2.2.2.1.q⟩, ⟨3, RI.enc o_1.own9.floors, l_3.2.2.2.2.1.sp, l_3.2.2.2.2.1.q⟩, ⟨51, RS.enc o_1.own9.sills, l_3.2.2.2.2.2.1.sp, l_3.2.2.2.2.2.1.q⟩, ⟨158, RW.enc o_1.x10.table, l_3.2.2.2.2.2.2.1.sp, l_3.2.2.2.2.2.2.1.q⟩, ⟨3, RI.enc o_1.x10.floors, l_3.2.2.2.2.2.2.2.1.sp, l_3.2.2.2.2.2.2.2.1.q⟩, ⟨159, RS.enc o_1.x10.sills, l_3.2.2.2.2.2.2.2.2.sp, l_3.2.2.2.2.2.2.2.2.q⟩]) ?_ ?_
          ·replace hm := h172
           obtain ⟨t72, h174, hm⟩ := bindO hm
           obtain ⟨t74, h175, hm⟩ := bindO hm
           obtain ⟨t76, h176, hm⟩ := bindO hm
           refine g_draw none (.hoist 0 (.hoist 1 (.free 2 (.free 3 (.free 4 (.hoist 5 (.free 7 (.br (.alt 6 (.br (.alt 8 (.free 9 (.free 10 (.free 11 (.one 12 (.one 13 (.free 14 .done)))))) (.alt 12 (.one 8 (.free 9 (.free 10 (.free 11 (.one 13 (.free 14 .done)))))) .nil))) (.alt 12 (.one 6 (.one 8 (.free 9 (.free 10 (.free 11 (.one 13 (.free 14 .done))))))) .nil)))))))))) _ rfl (by decide +kernel) (fun w k hh => hh.draw k) (fun w hh => hh) ?_
           refine p_hoist rfl rfl rfl rfl (fun w hh => v_loadAgg (vs := [_, _, _, _, _]) (Try.isAgg59 w) (Try.sizeOf59 w) rfl (hh.cells 3 rfl rfl)) ?_
           refine p_hoist rfl rfl rfl rfl (fun w hh => v_loadAgg (vs := [_, _, _, _, _]) (Try.isAgg59 w) (Try.sizeOf59 w) rfl (hh.cells 3 rfl rfl)) ?_
           refine p_free rfl rfl rfl rfl (fun _ _ => v_move rfl) ?_
           refine p_free rfl rfl rfl rfl (fun _ _ => v_move rfl) ?_
           refine p_free rfl rfl rfl rfl (fun w _ => v_ixA h174 (Try.runUnderlying26 w) (Try.sizeOf3 w) rfl rfl (vlen RI h161 rfl) (vne h161)) ?_
           refine p_hoist rfl rfl rfl rfl (fun w hh => v_ldE RI 0 h174 (Try.isAgg3 w) rfl (hh.vseg 2 rfl h161) rfl (Nat.add_zero _).symm) ?_
           refine p_free rfl rfl rfl rfl (fun _ _ => v_move rfl) ?_
           refine p_br ?_
           refine p_alt rfl ?_ ?_
           ·refine g_callH [] [] rfl rfl rfl rfl rfl rfl rfl (fun a w => Try.call49 a w) (fun w hh => c_laurelref01_Says o_1.x10 t72 0 (qA l_3.2.2.2.2.2.2.1.q) l_3.2.2.2.2.2.2.1.n l_3.2.2.2.2.2.2.1.cap (qA l_3.2.2.2.2.2.2.2.1.q) l_3.2.2.2.2.2.2.2.1.n l_3.2.2.2.2.2.2.2.1.cap (qA l_3.2.2.2.2.2.2.2.2.q) l_3.2.2.2.2.2.2.2.2.n l_3.2.2.2.2.2.2.2.2.cap w (HV.callee (S0 := []) (vs0 := []) hh (roC (hh.vsepA (S0 := []) (vs0 := []) 6 rfl h16) (roC (hh.vsepA (S0 := []) (vs0 := []) 7 rfl h17) (roC (hh.vsepA (S0 := []) (vs0 := []) 8 rfl h18) roN)))) (vlen RW h16 rfl) (AOK.q (vne h16)) (h16).hle (vlen RI h17 rfl) (AOK.q (vne h17)) (h17).hle (vlen RS h18 rfl) (AOK.q (vne h18)) (h18).hle h175) (fun l_24 h177 => ?_)
            have h178 := h177
            refine g_sel (S' := [_, _, _, _]) (vs' := [_, _, _, _, _, _, _, _, _, _]) [0, 1, 2, 3] [0, 1, 2, 3, 4, 5, 6, 7, 8, 9] 0 (by decide) (by decide) rfl rfl rfl ?_
            refine p_next (fun w hh => hh.sel [0, 1, 2, 3] [1, 2, 3, 4, 5, 6, 7, 8, 9] 0 (by decide) (by decide) rfl rfl rfl) ?_
            refine p_br ?_
            refine p_alt rfl ?_ ?_
            ·refine g_callH [] [] rfl rfl rfl rfl rfl rfl rfl (fun a w => Try.call73 a w) (fun w hh => c_laurelref01_Run o_1.x10 t74 minute1 (qA l_3.2.2.2.2.2.2.1.q) l_3.2.2.2.2.2.2.1.n l_3.2.2.2.2.2.2.1.cap (qA l_3.2.2.2.2.2.2.2.1.q) l_3.2.2.2.2.2.2.2.1.n l_3.2.2.2.2.2.2.2.1.cap (qA l_3.2.2.2.2.2.2.2.2.q) l_3.2.2.2.2.2.2.2.2.n l_3.2.2.2.2.2.2.2.2.cap (qA l_24.q) l_24.n l_24.cap w (HV.callee (S0 := []) (vs0 := []) hh (roC (hh.vsepA (S0 := []) (vs0 := []) 7 rfl h16) (roC (hh.vsepA (S0 := []) (vs0 := []) 8 rfl h17) (roC (hh.vsepA (S0 := []) (vs0 := []) 9 rfl h18) (roC (hh.vsepA (S0 := []) (vs0 := []) 0 rfl h178) roN))))) (vlen RW h16 rfl) (AOK.q (vne h16)) (h16).hle (vlen RI h17 rfl) (AOK.q (vne h17)) (h17).hle (vlen RS h18 rfl) (AOK.q (vne h18)) (h18).hle (vlen RB h178 rfl) (AOK.q (vne h178)) (h178).hle h176) (fun l_25 h179 => ?_)
             refine p_next (fun w hh => hh.sel [0, 1, 2, 3] [1, 2, 3, 4, 5, 6, 7, 8, 9] 0 (by decide) (by decide) rfl rfl rfl) ?_
             refine p_free rfl rfl rfl rfl (fun _ _ => v_move rfl) ?_
             refine p_free rfl rfl rfl rfl (fun _ _ => v_extract rfl rfl) ?_
             refine p_free rfl rfl rfl rfl (fun _ _ => v_extract rfl rfl) ?_
             refine p_one rfl ?_
             refine g_allocV (fun w => Try.zeroValue25 w) rfl (fun b_36 h180 => ?_)
             refine p_next (fun w hh => hh.sel [1, 2, 3, 4] [1, 2, 3, 4, 5, 6, 7, 8, 9] 0 (by decide) (by decide) rfl rfl rfl) ?_
             refine p_one rfl ?_
             refine g_stSA (us := #[_, _]) (cs' := [_, _]) (S' := [_, _, _, _, _]) 0 (fun w => Try.sizeOf25 w) rfl rfl rfl rfl rfl rfl rfl ?_
             refine p_next (fun w hh => hh.sel [1, 2, 3, 4] [1, 2, 3, 4, 5, 6, 7, 8, 9] 0 (by decide) (by decide) rfl rfl rfl) ?_
             refine p_free rfl rfl rfl rfl (fun _ _ => v_assign rfl) ?_
             refine p_done ?_
             obtain rfl := Option.some.inj hm
             exact g_leaf b_36 (trivial) ((.cons rfl (.cons rfl (.cons rfl (.cons rfl (.cons rfl (.cons rfl (.cons rfl (.cons rfl (.cons rfl (.cons rfl (.cons rfl (.cons rfl (.cons rfl (.cons rfl (.cons rfl (.cons rfl .nil))))))))))))))))) (fun w hh => hh.sel [1, 2, 3, 4, 0] [1, 2, 3, 4, 5, 6, 7, 8, 9] 0 (by decide) (by decide) rfl rfl rfl)
            refine p_alt rfl ?_ ?_
            ·refine g_allocV (fun w => Try.zeroValue25 w) rfl (fun b_37 h181 => ?_)
             refine p_next (fun w hh => hh.sel [1, 2, 3, 4] [1, 2, 3, 4, 5, 6, 7, 8, 9] 0 (by decide) (by decide) rfl rfl rfl) ?_
             refine p_one rfl ?_
             refine g_callH [] [] rfl rfl rfl rfl rfl rfl rfl (fun a w => Try.call73 a w) (fun w hh => c_laurelref01_Run o_1.x10 t74 minute1 (qA l_3.2.2.2.2.2.2.1.q) l_3.2.2.2.2.2.2.1.n l_3.2.2.2.2.2.2.1.cap (qA l_3.2.2.2.2.2.2.2.1.q) l_3.2.2.2.2.2.2.2.1.n l_3.2.2.2.2.2.2.2.1.cap (qA l_3.2.2.2.2.2.2.2.2.q) l_3.2.2.2.2.2.2.2.2.n l_3.2.2.2.2.2.2.2.2.cap (qA l_24.q) l_24.n l_24.cap w (HV.callee (S0 := []) (vs0 := []) hh (roC (hh.vsepA (S0 := []) (vs0 := []) 7 rfl h16) (roC (hh.vsepA (S0 := []) (vs0 := []) 8 rfl h17) (roC (hh.vsepA (S0 := []) (vs0 := []) 9 rfl h18) (roC (hh.vsepA (S0 := []) (vs0 := []) 0 rfl h178) roN))))) (vlen RW h16 rfl) (AOK.q (vne h16)) (h16).hle (vlen RI h17 rfl) (AOK.q (vne h17)) (h17).hle (vlen RS h18 rfl) (AOK.q (vne h18)) (h18).hle (vlen RB h178 rfl) (AOK.q (vne h178)) (h178).hle h176) (fun l_26 h182 => ?_)
             refine p_next (fun w hh => hh.sel [1, 2, 3, 4] [1, 2, 3, 4, 5, 6, 7, 8, 9] 0 (by decide) (by decide) rfl rfl rfl) ?_
             refine p_free rfl rfl rfl rfl (fun _ _ => v_move rfl) ?_
             refine p_free rfl rfl rfl rfl (fun _ _ => v_extract rfl rfl) ?_
             refine p_free rfl rfl rfl rfl (fun _ _ => v_extract rfl rfl) ?_
             refine p_one rfl ?_
             refine g_stSA (us := #[_, _]) (cs' := [_, _]) (S' := [_, _, _, _, _]) 0 (fun w => Try.sizeOf25 w) rfl rfl rfl rfl rfl rfl rfl ?_
             refine p_next (fun w hh => hh.sel [1, 2, 3, 4] [1, 2, 3, 4, 5, 6, 7, 8, 9] 0 (by decide) (by decide) rfl rfl rfl) ?_
             refine p_free rfl rfl rfl rfl (fun _ _ => v_assign rfl) ?_
             refine p_done ?_
             obtain rfl := Option.some.inj hm
             exact g_leaf b_37 (trivial) ((.cons rfl (.cons rfl (.cons rfl (.cons rfl (.cons rfl (.cons rfl (.cons rfl (.cons rfl (.cons rfl (.cons rfl (.cons rfl (.cons rfl (.cons rfl (.cons rfl (.cons rfl (.cons rfl .nil))))))))))))))))) (fun w hh => hh.sel [1, 2, 3, 4, 0] [1, 2, 3, 4, 5, 6, 7, 8, 9] 0 (by decide) (by decide) rfl rfl rfl)
            exact p_nil
           refine p_alt rfl ?_ ?_
           ·refine g_allocV (fun w => Try.zeroValue25 w) rfl (fun b_38 h183 => ?_)
            refine p_next (fun w hh => hh.sel [1, 2, 3, 4] [0, 1, 2, 3, 4, 5, 6, 7, 8] 0 (by decide) (by decide) rfl rfl rfl) ?_
            refine p_one rfl ?_
            refine g_callH [] [] rfl rfl rfl rfl rfl rfl rfl (fun a w => Try.call49 a w) (fun w hh => c_laurelref01_Says o_1.x10 t72 0 (qA l_3.2.2.2.2.2.2.1.q) l_3.2.2.2.2.2.2.1.n l_3.2.2.2.2.2.2.1.cap (qA l_3.2.2.2.2.2.2.2.1.q) l_3.2.2.2.2.2.2.2.1.n l_3.2.2.2.2.2.2.2.1.cap (qA l_3.2.2.2.2.2.2.2.2.q) l_3.2.2.2.2.2.2.2.2.n l_3.2.2.2.2.2.2.2.2.cap w (HV.callee (S0 := []) (vs0 := []) hh (roC (hh.vsepA (S0 := []) (vs0 := []) 6 rfl h16) (roC (hh.vsepA (S0 := []) (vs0 := []) 7 rfl h17) (roC (hh.vsepA (S0 := []) (vs0 := []) 8 rfl h18) roN)))) (vlen RW h16 rfl) (AOK.q (vne h16)) (h16).hle (vlen RI h17 rfl) (AOK.q (vne h17)) (h17).hle (vlen RS h18 rfl) (AOK.q (vne h18)) (h18).hle h175) (fun l_27 h184 => ?_)
            have h185 := h184
            refine g_sel (S' := [_, _, _, _, _]) (vs' := [_, _, _, _, _, _, _, _, _, _]) [0, 1, 2, 3, 4] [0, 1, 2, 3, 4, 5, 6, 7, 8, 9] 0 (by decide) (by decide) rfl rfl rfl ?_
            refine p_next (fun w hh => hh.sel [1, 2, 3, 4] [1, 2, 3, 4, 5, 6, 7, 8, 9] 0 (by decide) (by decide) rfl rfl rfl) ?_
            refine p_one rfl ?_
            refine g_callH [] [] rfl rfl rfl rfl rfl rfl rfl (fun a w => Try.call73 a w) (fun w hh => c_laurelref01_Run o_1.x10 t74 minute1 (qA l_3.2.2.2.2.2.2.1.q) l_3.2.2.2.2.2.2.1.n l_3.2.2.2.2.2.2.1.cap (qA l_3.2.2.2.2.2.2.2.1.q) l_3.2.2.2.2.2.2.2.1.n l_3.2.2.2.2.2.2.2.1.cap (qA l_3.2.2.2.2.2.2.2.2.q) l_3.2.2.2.2.2.2.2.2.n l_3.2.2.2.2.2.2.2.2.cap (qA l_27.q) l_27.n l_27.cap w (HV.callee (S0 := []) (vs0 := []) hh (roC (hh.vsepA (S0 := []) (vs0 := []) 7 rfl h16) (roC (hh.vsepA (S0 := []) (vs0 := []) 8 rfl h17) (roC (hh.vsepA (S0 := []) (vs0 := []) 9 rfl h18) (roC (hh.vsepA (S0 := []) (vs0 := []) 0 rfl h185) roN))))) (vlen RW h16 rfl) (AOK.q (vne h16)) (h16).hle (vlen RI h17 rfl) (AOK.q (vne h17)) (h17).hle (vlen RS h18 rfl) (AOK.q (vne h18)) (h18).hle (vlen RB h185 rfl) (AOK.q (vne h185)) (h185).hle h176) (fun l_28 h186 => ?_)
            refine p_next (fun w hh => hh.sel [1, 2, 3, 4] [1, 2, 3, 4, 5, 6, 7, 8, 9] 0 (by decide) (by decide) rfl rfl rfl) ?_
            refine p_free rfl rfl rfl rfl (fun _ _ => v_move rfl) ?_
            refine p_free rfl rfl rfl rfl (fun _ _ => v_extract rfl rfl) ?_
            refine p_free rfl rfl rfl rfl (fun _ _ => v_extract rfl rfl) ?_
            refine p_one rfl ?_
            refine g_stSA (us := #[_, _]) (cs' := [_, _]) (S' := [_, _, _, _, _]) 0 (fun w => Try.sizeOf25 w) rfl rfl rfl rfl rfl rfl rfl ?_
            refine p_next (fun w hh => hh.sel [1, 2, 3, 4] [1, 2, 3, 4, 5, 6, 7, 8, 9] 0 (by decide) (by decide) rfl rfl rfl) ?_
            refine p_free rfl rfl rfl rfl (fun _ _ => v_assign rfl) ?_
            refine p_done ?_
            obtain rfl := Option.some.inj hm
            exact g_leaf b_38 (trivial) ((.cons rfl (.cons rfl (.cons rfl (.cons rfl (.cons rfl (.cons rfl (.cons rfl (.cons rfl (.cons rfl (.cons rfl (.cons rfl (.cons rfl (.cons rfl (.cons rfl (.cons rfl (.cons rfl .nil))))))))))))))))) (fun w hh => hh.sel [1, 2, 3, 4, 0] [1, 2, 3, 4, 5, 6, 7, 8, 9] 0 (by decide) (by decide) rfl rfl rfl)
           exact p_nil
          ·intro l_23 hj
           replace hm := h173
           refine g_n_then ?_
           refine g_seq ?_
           refine g_region ?_
           refine g_val rfl rfl rfl (fun w _ => v_fieldAddr 1 (Try.runUnderlying25 w) rfl (Try.sizeOf3 w) rfl) ?_
           refine g_val rfl rfl rfl (fun w hh => v_load (Try.isAgg3 w) rfl (hh.cell 4 rfl rfl)) ?_
           refine g_val rfl rfl rfl (fun _ _ => v_assign rfl) ?_
           refine g_nil ?_
           refine g_n_then ?_
           refine g_seq ?_
           refine g_region ?_
           refine g_val rfl rfl rfl (fun _ _ => v_move rfl) ?_
           refine g_val rfl rfl rfl (fun _ _ => v_not rfl) ?_
           refine g_nil ?_
           refine g_n_then ?_
           refine g_cond rfl (fun h187 => ?_) (fun h187 => ?_)
           ·replace hm := ifT (h187) hm
            refine g_region ?_
            refine g_val rfl rfl rfl (fun _ _ => v_assign rfl) ?_
            refine g_val rfl rfl rfl (fun _ _ => v_assign rfl) ?_
            refine g_nil ?_
            obtain rfl := Option.some.inj hm
            exact g_leaf () (trivial) ((.cons rfl (.cons rfl (.cons rfl (.cons rfl (.cons rfl (.cons rfl (.cons rfl (.cons rfl (.cons rfl (.cons rfl (.cons rfl (.cons rfl (.cons rfl (.cons rfl (.cons rfl .nil)))))))))))))))) (fun w hh => hh.sel [0, 1, 2, 3] [0, 1, 2, 3, 4, 5, 6, 7, 8] 0 (by decide) (by decide) rfl rfl rfl)
           ·replace hm := ifF ((fun hh => Bool.noConfusion ((h187).symm.trans hh))) hm
            refine g_skip ?_
            obtain rfl := Option.some.inj hm
            exact g_leaf () (trivial) ((.cons rfl (.cons rfl (.cons rfl (.cons rfl (.cons rfl (.cons rfl (.cons rfl (.cons rfl (.cons rfl (.cons rfl (.cons rfl (.cons rfl (.cons rfl (.cons rfl (.cons rfl .nil)))))))))))))))) (fun w hh => hh.sel [0, 1, 2, 3] [0, 1, 2, 3, 4, 5, 6, 7, 8] 0 (by decide) (by decide) rfl rfl rfl)
         ·replace hm := ifF (of_decide_eq_false h171) hm
          refine g_skip ?_
          obtain rfl := Option.some.inj hm
          exact g_leaf () (trivial) ((.cons rfl (.cons rfl (.cons rfl (.cons rfl (.cons rfl (.cons rfl (.cons rfl (.cons rfl (.cons rfl (.cons rfl (.cons rfl (.cons rfl (.cons rfl (.cons rfl (.cons rfl .nil)))))))))))))))) (fun w hh => hh)
        ·intro l_22 hj
         replace hm := h170
         refine g_n_then ?_
         refine g_seq ?_
         obtain ⟨o_6, h188, h189⟩ := bindO hm
         refine g_cut (ι := VL) (fun l_29 => VOK 1 l_29.n l_29.cap (RI.enc o_6.want17) l_29.sp l_29.q) (fun l_29 => [(1, .int .i64 minute1), (2, .int .i64 place2), (3, .slice qa3 na3 ca3), (4, ptr b 0), (9, ptr l_3.1 0), (10, ptr l_3.2.1 0), (11, slv l_3.2.2.1.q l_3.2.2.1.n l_3.2.2.1.cap), (12, .int .i64 o_4.w12), (13, .int .i64 o_6.u13), (14, .int .i64 t48), (15, .int .i64 o_4.turn15), (16, .int .i64 o_6.at16), (17, slv l_29.q l_29.n l_29.cap), (18, ptr b_35 0), (19, slv l_18.q l_18.n l_18.cap)]) (fun l_29 => [(b_35, .cells #[.int .i64 0, .int .i64 0] 25 (0, 0)), (b, .cells #[.slice qa0 na0 ca0, .int .i64 s0.wind.lo, .int .i64 s0.wind.hi, .slice qa1 na1 ca1, .slice qa2 na2 ca2] 29 (0, 0)), (l_3.1, .cells #[slv l_3.2.2.2.1.q l_3.2.2.2.1.n l_3.2.2.2.1.cap, .int .i64 o_1.own9.wind.lo, .int .i64 o_1.own9.wind.hi, slv l_3.2.2.2.2.1.q l_3.2.2.2.2.1.n l_3.2.2.2.2.1.cap, slv l_3.2.2.2.2.2.1.q l_3.2.2.2.2.2.1.n l_3.2.2.2.2.2.1.cap] 29 (0, 0)), (l_3.2.1, .cells #[slv l_3.2.2.2.2.2.2.1.q l_3.2.2.2.2.2.2.1.n l_3.2.2.2.2.2.2.1.cap, .int .i64 o_1.x10.wind.lo, .int .i64 o_1.x10.wind.hi, slv l_3.2.2.2.2.2.2.2.1.q l_3.2.2.2.2.2.2.2.1.n l_3.2.2.2.2.2.2.2.1.cap, slv l_3.2.2.2.2.2.2.2.2.q l_3.2.2.2.2.2.2.2.2.n l_3.2.2.2.2.2.2.2.2.cap] 59 (0, 0))]) (fun l_29 => [⟨3, RI.enc o_1.mine11, l_3.2.2.1.sp, l_3.2.2.1.q⟩, ⟨3, RI.enc o_6.want17, l_29.sp, l_29.q⟩, ⟨3, RI.enc t55, l_18.sp, l_18.q⟩, ⟨68, RW.enc o_1.own9.table, l_3.2.2.2.1.sp, l_3.2.2.2.1.q⟩, ⟨3, RI.enc o_1.own9.floors, l_3.2.2.2.2.1.sp, l_3.2.2.2.2.1.q⟩, ⟨51, RS.enc o_1.own9.sills, l_3.2.2.2.2.2.1.sp, l_3.2.2.2.2.2.1.q⟩, ⟨158, RW.enc o_1.x10.table, l_3.2.2.2.2.2.2.1.sp, l_3.2.2.2.2.2.2.1.q⟩, ⟨3, RI.enc o_1.x10.floors, l_3.2.2.2.2.2.2.2.1.sp, l_3.2.2.2.2.2.2.2.1.q⟩, ⟨159, RS.enc o_1.x10.sills, l_3.2.2.2.2.2.2.2.2.sp, l_3.2.2.2.2.2.2.2.2.q⟩]) ?_ ?_
         ·replace hm := h188
          refine g_seq ?_
          refine g_region ?_
          refine g_val rfl rfl rfl (fun _ _ => v_move rfl) ?_
          refine g_val rfl rfl rfl (fun _ _ => v_eql rfl rfl) ?_
          refine g_nil ?_
          refine g_n_then ?_
          refine g_cond rfl (fun h191 => ?_) (fun h191 => ?_)
          ·replace hm := ifT (of_decide_eq_true h191) hm
           refine g_seq ?_
           refine g_region ?_
           refine g_val rfl rfl rfl (fun _ _ => v_assign rfl) ?_
           refine g_nil ?_
           refine g_n_then ?_
           refine g_seq ?_
           refine g_region ?_
           refine g_val rfl rfl rfl (fun w hh => v_loadAgg (vs := [_, _, _, _, _]) (Try.isAgg59 w) (Try.sizeOf59 w) rfl (hh.cells 3 rfl rfl)) ?_
           refine g_val rfl rfl rfl (fun _ _ => v_move rfl) ?_
           refine g_val rfl rfl rfl (fun _ _ => v_move rfl) ?_
           obtain ⟨t89, h192, hm⟩ := bindO hm
           refine g_callH [] [] rfl rfl rfl rfl rfl rfl rfl (fun a w => Try.call74 a w) (fun w hh => c_laurelref01_Flood o_1.x10 t55 minute1 (qA l_3.2.2.2.2.2.2.1.q) l_3.2.2.2.2.2.2.1.n l_3.2.2.2.2.2.2.1.cap (qA l_3.2.2.2.2.2.2.2.1.q) l_3.2.2.2.2.2.2.2.1.n l_3.2.2.2.2.2.2.2.1.cap (qA l_3.2.2.2.2.2.2.2.2.q) l_3.2.2.2.2.2.2.2.2.n l_3.2.2.2.2.2.2.2.2.cap (qA l_18.q) l_18.n l_18.cap w (HV.callee (S0 := []) (vs0 := []) hh (roC (hh.vsepA (S0 := []) (vs0 := []) 6 rfl h16) (roC (hh.vsepA (S0 := []) (vs0 := []) 7 rfl h17) (roC (hh.vsepA (S0 := []) (vs0 := []) 8 rfl h18) (roC (hh.vsepA (S0 := []) (vs0 := []) 2 rfl h161) roN))))) (vlen RW h16 rfl) (AOK.q (vne h16)) (h16).hle (vlen RI h17 rfl) (AOK.q (vne h17)) (h17).hle (vlen RS h18 rfl) (AOK.q (vne h18)) (h18).hle (vlen RI h161 rfl) (AOK.q (vne h161)) (h161).hle h192) (fun l_30 h193 => ?_)
           have h194 := h193
           refine g_sel (S' := [_, _, _, _]) (vs' := [_, _, _, _, _, _, _, _, _, _]) [0, 1, 2, 3] [0, 1, 2, 3, 4, 5, 6, 7, 8, 9] 0 (by decide) (by decide) rfl rfl rfl ?_
           refine g_val rfl rfl rfl (fun _ _ => v_move rfl) ?_
           refine g_val rfl rfl rfl (fun _ _ => v_extract rfl rfl) ?_
           refine g_val rfl rfl rfl (fun _ _ => v_extract rfl rfl) ?_
           refine g_val rfl rfl rfl (fun _ _ => v_extract rfl rfl) ?_
           refine g_val rfl rfl rfl (fun _ _ => v_assign rfl) ?_
           refine g_val rfl rfl rfl (fun _ _ => v_assign rfl) ?_
           refine g_val rfl rfl rfl (fun _ _ => v_assign rfl) ?_
           refine g_nil ?_
           refine g_n_then ?_
           refine g_seq ?_
           refine g_region ?_
           refine g_val rfl rfl rfl (fun _ _ => v_move rfl) ?_
           refine g_val rfl rfl rfl (fun _ _ => v_not rfl) ?_
           refine g_nil ?_
           refine g_n_then ?_
           refine g_cond rfl (fun h195 => ?_) (fun h195 => ?_)
           ·replace hm := ifT (h195) hm
            refine g_region ?_
            refine g_val rfl rfl rfl (fun _ _ => v_assign rfl) ?_
            refine g_nil ?_
            obtain rfl := Option.some.inj hm
            exact g_leaf l_30 (h194) ((.cons rfl (.cons rfl (.cons rfl (.cons rfl (.cons rfl (.cons rfl (.cons rfl (.cons rfl (.cons rfl (.cons rfl (.cons rfl (.cons rfl (.cons rfl (.cons rfl (.cons rfl .nil)))))))))))))))) (fun w hh => hh.sel [0, 1, 2, 3] [1, 0, 3, 4, 5, 6, 7, 8, 9] 0 (by decide) (by decide) rfl rfl rfl)
           ·replace hm := ifF ((fun hh => Bool.noConfusion ((h195).symm.trans hh))) hm
            refine g_skip ?_
            obtain rfl := Option.some.inj hm
            exact g_leaf l_30 (h194) ((.cons rfl (.cons rfl (.cons rfl (.cons rfl (.cons rfl (.cons rfl (.cons rfl (.cons rfl (.cons rfl (.cons rfl (.cons rfl (.cons rfl (.cons rfl (.cons rfl (.cons rfl .nil)))))))))))))))) (fun w hh => hh.sel [0, 1, 2, 3] [1, 0, 3, 4, 5, 6, 7, 8, 9] 0 (by decide) (by decide) rfl rfl rfl)
          ·replace hm := ifF (of_decide_eq_false h191) hm
           refine g_skip ?_
           obtain rfl := Option.some.inj hm
           exact g_leaf ⟨none, 0, 0, []⟩ (VOK.nil) ((.cons rfl (.cons rfl (.cons rfl (.cons rfl (.cons rfl (.cons rfl (.cons rfl (.cons rfl (.cons rfl (.cons rfl (.cons rfl (.cons rfl (.cons rfl (.cons rfl (.cons rfl .nil)))))))))))))))) (fun w hh => hh)
         ·intro l_29 hj
          have h190 := hj
          replace hm := h189
          refine g_n_then ?_
          refine g_seq ?_
          refine g_seq ?_
          refine g_region ?_
          refine g_val rfl rfl rfl (fun _ _ => v_move rfl) ?_
          refine g_val rfl rfl rfl (fun w _ => v_lenR hna3 (Try.runUnderlying26 w) rfl) ?_
          refine g_val rfl rfl rfl (fun _ _ => v_move rfl) ?_
          refine g_nil ?_
          refine g_n_then ?_
          obtain ⟨o_7, h196, h197⟩ := bindO hm
          refine g_cut (ι := Unit) (fun l_31 => True) (fun l_31 => [(1, .int .i64 minute1), (2, .int .i64 place2), (3, .slice qa3 na3 ca3), (4, ptr b 0), (9, ptr l_3.1 0), (10, ptr l_3.2.1 0), (11, slv l_3.2.2.1.q l_3.2.2.1.n l_3.2.2.1.cap), (12, .int .i64 o_4.w12), (13, .int .i64 o_6.u13), (14, .int .i64 o_7), (15, .int .i64 o_4.turn15), (16, .int .i64 o_6.at16), (17, slv l_29.q l_29.n l_29.cap), (18, ptr b_35 0), (19, slv l_18.q l_18.n l_18.cap)]) (fun l_31 => [(b_35, .cells #[.int .i64 0, .int .i64 0] 25 (0, 0)), (b, .cells #[.slice qa0 na0 ca0, .int .i64 s0.wind.lo, .int .i64 s0.wind.hi, .slice qa1 na1 ca1, .slice qa2 na2 ca2] 29 (0, 0)), (l_3.1, .cells #[slv l_3.2.2.2.1.q l_3.2.2.2.1.n l_3.2.2.2.1.cap, .int .i64 o_1.own9.wind.lo, .int .i64 o_1.own9.wind.hi, slv l_3.2.2.2.2.1.q l_3.2.2.2.2.1.n l_3.2.2.2.2.1.cap, slv l_3.2.2.2.2.2.1.q l_3.2.2.2.2.2.1.n l_3.2.2.2.2.2.1.cap] 29 (0, 0)), (l_3.2.1, .cells #[slv l_3.2.2.2.2.2.2.1.q l_3.2.2.2.2.2.2.1.n l_3.2.2.2.2.2.2.1.cap, .int .i64 o_1.x10.wind.lo, .int .i64 o_1.x10.wind.hi, slv l_3.2.2.2.2.2.2.2.1.q l_3.2.2.2.2.2.2.2.1.n l_3.2.2.2.2.2.2.2.1.cap, slv l_3.2.2.2.2.2.2.2.2.q l_3.2.2.2.2.2.2.2.2.n l_3.2.2.2.2.2.2.2.2.cap] 59 (0, 0))]) (fun l_31 => [⟨3, RI.enc o_1.mine11, l_3.2.2.1.sp, l_3.2.2.1.q⟩, ⟨3, RI.enc o_6.want17, l_29.sp, l_29.q⟩, ⟨3, RI.enc t55, l_18.sp, l_18.q⟩, ⟨68, RW.enc o_1.own9.table, l_3.2.2.2.1.sp, l_3.2.2.2.1.q⟩, ⟨3, RI.enc o_1.own9.floors, l_3.2.2.2.2.1.sp, l_3.2.2.2.2.1.q⟩, ⟨51, RS.enc o_1.own9.sills, l_3.2.2.2.2.2.1.sp, l_3.2.2.2.2.2.1.q⟩, ⟨158, RW.enc o_1.x10.table, l_3.2.2.2.2.2.2.1.sp, l_3.2.2.2.2.2.2.1.q⟩, ⟨3, RI.enc o_1.x10.floors, l_3.2.2.2.2.2.2.2.1.sp, l_3.2.2.2.2.2.2.2.1.q⟩, ⟨159, RS.enc o_1.x10.sills, l_3.2.2.2.2.2.2.2.2.sp, l_3.2.2.2.2.2.2.2.2.q⟩]) ?_ ?_
          ·replace hm := h196
           refine g_block ?_
           refine g_loopF (ι := Unit) hm (fun s l_32 => True) (fun s l_32 => [(1, .int .i64 minute1), (2, .int .i64 place2), (3, .slice qa3 na3 ca3), (4, ptr b 0), (9, ptr l_3.1 0), (10, ptr l_3.2.1 0), (11, slv l_3.2.2.1.q l_3.2.2.1.n l_3.2.2.1.cap), (12, .int .i64 o_4.w12), (13, .int .i64 o_6.u13), (14, .int .i64 s.v14), (15, .int .i64 o_4.turn15), (16, .int .i64 o_6.at16), (17, slv l_29.q l_29.n l_29.cap), (18, ptr b_35 0), (19, slv l_18.q l_18.n l_18.cap), (95, .slice qa3 na3 ca3), (96, .int .i64 (places3.length : Int)), (97, .int .i64 s.t97)]) (fun s l_32 => [(b_35, .cells #[.int .i64 0, .int .i64 0] 25 (0, 0)), (b, .cells #[.slice qa0 na0 ca0, .int .i64 s0.wind.lo, .int .i64 s0.wind.hi, .slice qa1 na1 ca1, .slice qa2 na2 ca2] 29 (0, 0)), (l_3.1, .cells #[slv l_3.2.2.2.1.q l_3.2.2.2.1.n l_3.2.2.2.1.cap, .int .i64 o_1.own9.wind.lo, .int .i64 o_1.own9.wind.hi, slv l_3.2.2.2.2.1.q l_3.2.2.2.2.1.n l_3.2.2.2.2.1.cap, slv l_3.2.2.2.2.2.1.q l_3.2.2.2.2.2.1.n l_3.2.2.2.2.2.1.cap] 29 (0, 0)), (l_3.2.1, .cells #[slv l_3.2.2.2.2.2.2.1.q l_3.2.2.2.2.2.2.1.n l_3.2.2.2.2.2.2.1.cap, .int .i64 o_1.x10.wind.lo, .int .i64 o_1.x10.wind.hi, slv l_3.2.2.2.2.2.2.2.1.q l_3.2.2.2.2.2.2.2.1.n l_3.2.2.2.2.2.2.2.1.cap, slv l_3.2.2.2.2.2.2.2.2.q l_3.2.2.2.2.2.2.2.2.n l_3.2.2.2.2.2.2.2.2.cap] 59 (0, 0))]) (fun s l_32 => [⟨3, RI.enc o_1.mine11, l_3.2.2.1.sp, l_3.2.2.1.q⟩, ⟨3, RI.enc o_6.want17, l_29.sp, l_29.q⟩, ⟨3, RI.enc t55, l_18.sp, l_18.q⟩, ⟨68, RW.enc o_1.own9.table, l_3.2.2.2.1.sp, l_3.2.2.2.1.q⟩, ⟨3, RI.enc o_1.own9.floors, l_3.2.2.2.2.1.sp, l_3.2.2.2.2.1.q⟩, ⟨51, RS.enc o_1.own9.sills, l_3.2.2.2.2.2.1.sp, l_3.2.2.2.2.2.1.q⟩, ⟨158, RW.enc o_1.x10.table, l_3.2.2.2.2.2.2.1.sp, l_3.2.2.2.2.2.2.1.q⟩, ⟨3, RI.enc o_1.x10.floors, l_3.2.2.2.2.2.2.2.1.sp, l_3.2.2.2.2.2.2.2.1.q⟩, ⟨159, RS.enc o_1.x10.sills, l_3.2.2.2.2.2.2.2.2.sp, l_3.2.2.2.2.2.2.2.2.q⟩]) () (trivial) ((.cons rfl (.cons rfl (.cons rfl (.cons rfl (.cons rfl (.cons rfl (.cons rfl (.cons rfl (.cons rfl (.cons rfl (.cons rfl (.cons rfl (.cons rfl (.cons rfl (.cons rfl (.cons rfl (.cons rfl (.cons rfl .nil))))))))))))))))))) (fun w hh => hh) (fun s l_32 r hpl hm h198 => ?_)
           unfold m_laurellaw01_TideStays_L0 at hm
           refine g_seq ?_
           refine g_region ?_
           refine g_val rfl rfl rfl (fun _ _ => v_lss rfl rfl) ?_
           refine g_nil ?_
           refine g_n_then ?_
           refine g_seq ?_
           refine g_cond rfl (fun h199 => ?_) (fun h199 => ?_)
           ·replace hm := ifT (of_decide_eq_true h199) hm
            refine g_skip ?_
            refine g_n_then ?_
            refine g_seq ?_
            obtain ⟨o_8, h200, h201⟩ := bindO hm
            refine g_cut (ι := Unit) (fun l_33 => True) (fun l_33 => [(1, .int .i64 minute1), (2, .int .i64 place2), (3, .slice qa3 na3 ca3), (4, ptr b 0), (9, ptr l_3.1 0), (10, ptr l_3.2.1 0), (11, slv l_3.2.2.1.q l_3.2.2.1.n l_3.2.2.1.cap), (12, .int .i64 o_4.w12), (13, .int .i64 o_6.u13), (14, .int .i64 o_8), (15, .int .i64 o_4.turn15), (16, .int .i64 o_6.at16), (17, slv l_29.q l_29.n l_29.cap), (18, ptr b_35 0), (19, slv l_18.q l_18.n l_18.cap), (95, .slice qa3 na3 ca3), (96, .int .i64 (places3.length : Int)), (97, .int .i64 s.t97)]) (fun l_33 => [(b_35, .cells #[.int .i64 0, .int .i64 0] 25 (0, 0)), (b, .cells #[.slice qa0 na0 ca0, .int .i64 s0.wind.lo, .int .i64 s0.wind.hi, .slice qa1 na1 ca1, .slice qa2 na2 ca2] 29 (0, 0)), (l_3.1, .cells #[slv l_3.2.2.2.1.q l_3.2.2.2.1.n l_3.2.2.2.1.cap, .int .i64 o_1.own9.wind.lo, .int .i64 o_1.own9.wind.hi, slv l_3.2.2.2.2.1.q l_3.2.2.2.2.1.n l_3.2.2.2.2.1.cap, slv l_3.2.2.2.2.2.1.q l_3.2.2.2.2.2.1.n l_3.2.2.2.2.2.1.cap] 29 (0, 0)), (l_3.2.1, .cells #[slv l_3.2.2.2.2.2.2.1.q l_3.2.2.2.2.2.2.1.n l_3.2.2.2.2.2.2.1.cap, .int .i64 o_1.x10.wind.lo, .int .i64 o_1.x10.wind.hi, slv l_3.2.2.2.2.2.2.2.1.q l_3.2.2.2.2.2.2.2.1.n l_3.2.2.2.2.2.2.2.1.cap, slv l_3.2.2.2.2.2.2.2.2.q l_3.2.2.2.2.2.2.2.2.n l_3.2.2.2.2.2.2.2.2.cap] 59 (0, 0))]) (fun l_33 => [⟨3, RI.enc o_1.mine11, l_3.2.2.1.sp, l_3.2.2.1.q⟩, ⟨3, RI.enc o_6.want17, l_29.sp, l_29.q⟩, ⟨3, RI.enc t55, l_18.sp, l_18.q⟩, ⟨68, RW.enc o_1.own9.table, l_3.2.2.2.1.sp, l_3.2.2.2.1.q⟩, ⟨3, RI.enc o_1.own9.floors, l_3.2.2.2.2.1.sp, l_3.2.2.2.2.1.q⟩, ⟨51, RS.enc o_1.own9.sills, l_3.2.2.2.2.2.1.sp, l_3.2.2.2.2.2.1.q⟩, ⟨158, RW.enc o_1.x10.table, l_3.2.2.2.2.2.2.1.sp, l_3.2.2.2.2.2.2.1.q⟩, ⟨3, RI.enc o_1.x10.floors, l_3.2.2.2.2.2.2.2.1.sp, l_3.2.2.2.2.2.2.2.1.q⟩, ⟨159, RS.enc o_1.x10.sills, l_3.2.2.2.2.2.2.2.2.sp, l_3.2.2.2.2.2.2.2.2.q⟩]) ?_ ?_
            ·replace hm := h200
             refine g_block ?_
             refine g_seq ?_
             refine g_region ?_
             obtain ⟨t99, h202, hm⟩ := bindO hm
             refine g_val rfl rfl rfl (fun w _ => v_ixR h202 (Try.runUnderlying26 w) (Try.sizeOf3 w) rfl rfl hna3 hqa3) ?_
             refine g_val rfl rfl rfl (fun w hh => v_ldE RI 0 h202 (Try.isAgg3 w) rfl (hh.seg 3 rfl) rfl (Nat.add_zero _).symm) ?_
             refine g_val rfl rfl rfl (fun _ _ => v_assign rfl) ?_
             refine g_nil ?_
             refine g_n_then ?_
             refine g_seq ?_
             refine g_region ?_
             refine g_val rfl rfl rfl (fun _ _ => v_move rfl) ?_
             refine g_val rfl rfl rfl (fun _ _ => v_eql rfl rfl) ?_
             refine g_nil ?_
             refine g_n_then ?_
             refine g_cond rfl (fun h203 => ?_) (fun h203 => ?_)
             ·replace hm := ifT (of_decide_eq_true h203) hm
              refine g_region ?_
              refine g_val rfl rfl rfl (fun w hh => v_loadAgg (vs := [_, _, _, _, _]) (Try.isAgg59 w) (Try.sizeOf59 w) rfl (hh.cells 3 rfl rfl)) ?_
              refine g_val rfl rfl rfl (fun _ _ => v_move rfl) ?_
              obtain ⟨t105, h204, hm⟩ := bindO hm
              refine g_callH [] [] rfl rfl rfl rfl rfl rfl rfl (fun a w => Try.call44 a w) (fun w hh => c_laurelref01_Place o_1.x10 t99 (qA l_3.2.2.2.2.2.2.1.q) l_3.2.2.2.2.2.2.1.n l_3.2.2.2.2.2.2.1.cap (qA l_3.2.2.2.2.2.2.2.1.q) l_3.2.2.2.2.2.2.2.1.n l_3.2.2.2.2.2.2.2.1.cap (qA l_3.2.2.2.2.2.2.2.2.q) l_3.2.2.2.2.2.2.2.2.n l_3.2.2.2.2.2.2.2.2.cap w (HV.callee (S0 := []) (vs0 := []) hh (roC (hh.vsepA (S0 := []) (vs0 := []) 6 rfl h16) (roC (hh.vsepA (S0 := []) (vs0 := []) 7 rfl h17) (roC (hh.vsepA (S0 := []) (vs0 := []) 8 rfl h18) roN)))) (vlen RW h16 rfl) (AOK.q (vne h16)) (h16).hle (vlen RI h17 rfl) (AOK.q (vne h17)) (h17).hle (vlen RS h18 rfl) (AOK.q (vne h18)) (h18).hle h204) (fun l_34 h205 => ?_)
              refine g_val rfl rfl rfl (fun _ _ => v_assign rfl) ?_
              refine g_nil ?_
              refine g_n_blk ?_
              obtain rfl := Option.some.inj hm
              exact g_leaf () (trivial) ((.cons rfl (.cons rfl (.cons rfl (.cons rfl (.cons rfl (.cons rfl (.cons rfl (.cons rfl (.cons rfl (.cons rfl (.cons rfl (.cons rfl (.cons rfl (.cons rfl (.cons rfl (.cons rfl (.cons rfl (.cons rfl .nil))))))))))))))))))) (fun w hh => hh)
             ·replace hm := ifF (of_decide_eq_false h203) hm
              refine g_skip ?_
              refine g_n_blk ?_
              obtain rfl := Option.some.inj hm
              exact g_leaf () (trivial) ((.cons rfl (.cons rfl (.cons rfl (.cons rfl (.cons rfl (.cons rfl (.cons rfl (.cons rfl (.cons rfl (.cons rfl (.cons rfl (.cons rfl (.cons rfl (.cons rfl (.cons rfl (.cons rfl (.cons rfl (.cons rfl .nil))))))))))))))))))) (fun w hh => hh)
            ·intro l_33 hj
             replace hm := h201
             refine g_n_then ?_
             refine g_region ?_
             obtain ⟨t106, h206, hm⟩ := bindO hm
             refine g_val rfl rfl rfl (fun _ _ => v_addc h206 rfl rfl) ?_
             refine g_val rfl rfl rfl (fun _ _ => v_move rfl) ?_
             refine g_nil ?_
             obtain rfl := Option.some.inj hm
             refine g_n_then ?_
             exact g_again' _ () rfl (trivial) ((.cons rfl (.cons rfl (.cons rfl (.cons rfl (.cons rfl (.cons rfl (.cons rfl (.cons rfl (.cons rfl (.cons rfl (.cons rfl (.cons rfl (.cons rfl (.cons rfl (.cons rfl (.cons rfl (.cons rfl (.cons rfl .nil))))))))))))))))))) (fun w hh => hh)
           ·replace hm := ifF (of_decide_eq_false h199) hm
            refine g_exit ?_
            refine g_x_then ?_
            refine g_x_then ?_
            refine g_x_blk ?_
            obtain rfl := Option.some.inj hm
            have hbo := h198 _ rfl
            subst hbo
            exact g_leaf () (trivial) ((.cons rfl (.cons rfl (.cons rfl (.cons rfl (.cons rfl (.cons rfl (.cons rfl (.cons rfl (.cons rfl (.cons rfl (.cons rfl (.cons rfl (.cons rfl (.cons rfl (.cons rfl .nil)))))))))))))))) (fun w hh => hh)
          ·intro l_31 hj
           replace hm := h197
           refine g_n_then ?_
           refine g_seq ?_
           refine g_region ?_
           refine g_val rfl rfl rfl (fun _ _ => v_move rfl) ?_
           refine g_val rfl rfl rfl (fun _ _ => v_eql rfl rfl) ?_
           refine g_nil ?_
           refine g_n_then ?_
           refine g_cond rfl (fun h207 => ?_) (fun h207 => ?_)
           ·replace hm := ifT (of_decide_eq_true h207) hm
            refine g_seq ?_
            refine g_region ?_
            refine g_val rfl rfl rfl (fun _ _ => v_assign rfl) ?_
            refine g_nil ?_
            refine g_n_then ?_
            refine g_seq ?_
            refine g_draw none (.hoist 0 (.hoist 1 (.free 2 (.free 3 (.one 4 (.one 5 (.free 6 (.free 7 (.free 8 (.one 9 (.free 10 .done))))))))))) (HV _ _ [(b, .cells #[.slice qa0 na0 ca0, .int .i64 s0.wind.lo, .int .i64 s0.wind.hi, .slice qa1 na1 ca1, .slice qa2 na2 ca2] 29 (0, 0)), (l_3.1, .cells #[slv l_3.2.2.2.1.q l_3.2.2.2.1.n l_3.2.2.2.1.cap, .int .i64 o_1.own9.wind.lo, .int .i64 o_1.own9.wind.hi, slv l_3.2.2.2.2.1.q l_3.2.2.2.2.1.n l_3.2.2.2.2.1.cap, slv l_3.2.2.2.2.2.1.q l_3.2.2.2.2.2.1.n l_3.2.2.2.2.2.1.cap] 29 (0, 0)), (l_3.2.1, .cells #[slv l_3.2.2.2.2.2.2.1.q l_3.2.2.2.2.2.2.1.n l_3.2.2.2.2.2.2.1.cap, .int .i64 o_1.x10.wind.lo, .int .i64 o_1.x10.wind.hi, slv l_3.2.2.2.2.2.2.2.1.q l_3.2.2.2.2.2.2.2.1.n l_3.2.2.2.2.2.2.2.1.cap, slv l_3.2.2.2.2.2.2.2.2.q l_3.2.2.2.2.2.2.2.2.n l_3.2.2.2.2.2.2.2.2.cap] 59 (0, 0))] [⟨3, RI.enc o_1.mine11, l_3.2.2.1.sp, l_3.2.2.1.q⟩, ⟨3, RI.enc o_6.want17, l_29.sp, l_29.q⟩, ⟨3, RI.enc t55, l_18.sp, l_18.q⟩, ⟨68, RW.enc o_1.own9.table, l_3.2.2.2.1.sp, l_3.2.2.2.1.q⟩, ⟨3, RI.enc o_1.own9.floors, l_3.2.2.2.2.1.sp, l_3.2.2.2.2.1.q⟩, ⟨51, RS.enc o_1.own9.sills, l_3.2.2.2.2.2.1.sp, l_3.2.2.2.2.2.1.q⟩, ⟨158, RW.enc o_1.x10.table, l_3.2.2.2.2.2.2.1.sp, l_3.2.2.2.2.2.2.1.q⟩, ⟨3, RI.enc o_1.x10.floors, l_3.2.2.2.2.2.2.2.1.sp, l_3.2.2.2.2.2.2.2.1.q⟩, ⟨159, RS.enc o_1.x10.sills, l_3.2.2.2.2.2.2.2.2.sp, l_3.2.2.2.2.2.2.2.2.q⟩] _) rfl (by decide +kernel) (fun w k hh => hh.draw k) (fun w hh => hh.sel [1, 2, 3] [0, 1, 2, 3, 4, 5, 6, 7, 8] 0 (by decide) (by decide) rfl rfl rfl) ?_
            refine p_hoist rfl rfl rfl rfl (fun w hh => v_loadAgg (vs := [_, _, _, _, _]) (Try.isAgg59 w) (Try.sizeOf59 w) rfl (hh.cells 2 rfl rfl)) ?_
            refine p_hoist rfl rfl rfl rfl (fun w hh => v_loadAgg (vs := [_, _, _, _, _]) (Try.isAgg59 w) (Try.sizeOf59 w) rfl (hh.cells 2 rfl rfl)) ?_
            refine p_free rfl rfl rfl rfl (fun _ _ => v_move rfl) ?_
            refine p_free rfl rfl rfl rfl (fun _ _ => v_move rfl) ?_
            refine p_one rfl ?_
            obtain ⟨t114, h208, hm⟩ := bindO hm
            refine g_callH [] [] rfl rfl rfl rfl rfl rfl rfl (fun a w => Try.call76 a w) (fun w hh => c_laurelref01_Together o_1.x10 t55 places3 (qA l_3.2.2.2.2.2.2.1.q) l_3.2.2.2.2.2.2.1.n l_3.2.2.2.2.2.2.1.cap (qA l_3.2.2.2.2.2.2.2.1.q) l_3.2.2.2.2.2.2.2.1.n l_3.2.2.2.2.2.2.2.1.cap (qA l_3.2.2.2.2.2.2.2.2.q) l_3.2.2.2.2.2.2.2.2.n l_3.2.2.2.2.2.2.2.2.cap (qA l_18.q) l_18.n l_18.cap qa3 na3 ca3 w (HV.callee (S0 := []) (vs0 := []) hh (roC (hh.vsepA (S0 := []) (vs0 := []) 6 rfl h16) (roC (hh.vsepA (S0 := []) (vs0 := []) 7 rfl h17) (roC (hh.vsepA (S0 := []) (vs0 := []) 8 rfl h18) (roC (hh.vsepA (S0 := []) (vs0 := []) 2 rfl h161) (roC (hh.rsep (S0 := []) (vs0 := []) 3 rfl) roN)))))) (vlen RW h16 rfl) (AOK.q (vne h16)) (h16).hle (vlen RI h17 rfl) (AOK.q (vne h17)) (h17).hle (vlen RS h18 rfl) (AOK.q (vne h18)) (h18).hle (vlen RI h161 rfl) (AOK.q (vne h161)) (h161).hle hna3 hqa3 hla3 h208) (fun l_35 h209 => ?_)
            have h210 := h209
            refine g_sel (S' := [_, _, _, _]) (vs' := [_, _, _, _, _, _, _, _, _, _]) [0, 1, 2, 3] [0, 1, 2, 3, 4, 5, 6, 7, 8, 9] 0 (by decide) (by decide) rfl rfl rfl ?_
            refine p_next (fun w hh => hh.sel [1, 2, 3] [1, 2, 3, 4, 5, 6, 7, 8, 9] 0 (by decide) (by decide) rfl rfl rfl) ?_
            refine p_one rfl ?_
            obtain ⟨t115, h211, hm⟩ := bindO hm
            refine g_callH [] [] rfl rfl rfl rfl rfl rfl rfl (fun a w => Try.call75 a w) (fun w hh => c_laurelref01_Longest o_1.x10 t114 (qA l_3.2.2.2.2.2.2.1.q) l_3.2.2.2.2.2.2.1.n l_3.2.2.2.2.2.2.1.cap (qA l_3.2.2.2.2.2.2.2.1.q) l_3.2.2.2.2.2.2.2.1.n l_3.2.2.2.2.2.2.2.1.cap (qA l_3.2.2.2.2.2.2.2.2.q) l_3.2.2.2.2.2.2.2.2.n l_3.2.2.2.2.2.2.2.2.cap (qA l_35.q) l_35.n l_35.cap w (HV.callee (S0 := []) (vs0 := []) hh (roC (hh.vsepA (S0 := []) (vs0 := []) 7 rfl h16) (roC (hh.vsepA (S0 := []) (vs0 := []) 8 rfl h17) (roC (hh.vsepA (S0 := []) (vs0 := []) 9 rfl h18) (roC (hh.vsepA (S0 := []) (vs0 := []) 0 rfl h210) roN))))) (vlen RW h16 rfl) (AOK.q (vne h16)) (h16).hle (vlen RI h17 rfl) (AOK.q (vne h17)) (h17).hle (vlen RS h18 rfl) (AOK.q (vne h18)) (h18).hle (vlen RB h210 rfl) (AOK.q (vne h210)) (h210).hle h211) (fun l_36 h212 => ?_)
            refine p_next (fun w hh => hh.sel [1, 2, 3] [1, 2, 3, 4, 5, 6, 7, 8, 9] 0 (by decide) (by decide) rfl rfl rfl) ?_
            refine p_free rfl rfl rfl rfl (fun _ _ => v_move rfl) ?_
            refine p_free rfl rfl rfl rfl (fun _ _ => v_extract rfl rfl) ?_
            refine p_free rfl rfl rfl rfl (fun _ _ => v_extract rfl rfl) ?_
            refine p_one rfl ?_
            refine g_stSA (us := #[_, _]) (cs' := [_, _]) (S' := [_, _, _, _]) 0 (fun w => Try.sizeOf25 w) rfl rfl rfl rfl rfl rfl rfl ?_
            refine p_next (fun w hh => hh.sel [1, 2, 3] [1, 2, 3, 4, 5, 6, 7, 8, 9] 0 (by decide) (by decide) rfl rfl rfl) ?_
            refine p_free rfl rfl rfl rfl (fun _ _ => v_assign rfl) ?_
            refine p_done ?_
            refine g_n_then ?_
            refine g_seq ?_
            refine g_region ?_
            refine g_val rfl rfl rfl (fun _ _ => v_move rfl) ?_
            refine g_val rfl rfl rfl (fun _ _ => v_not rfl) ?_
            refine g_nil ?_
            refine g_n_then ?_
            refine g_cond rfl (fun h213 => ?_) (fun h213 => ?_)
            ·replace hm := ifT (h213) hm
             refine g_region ?_
             refine g_val rfl rfl rfl (fun _ _ => v_assign rfl) ?_
             refine g_nil ?_
             obtain rfl := Option.some.inj hm
             exact g_leaf l_29 (h190) ((.cons rfl (.cons rfl (.cons rfl (.cons rfl (.cons rfl (.cons rfl (.cons rfl (.cons rfl (.cons rfl (.cons rfl (.cons rfl (.cons rfl (.cons rfl .nil)))))))))))))) (fun w hh => hh.sel [0, 1, 2, 3] [1, 2, 4, 5, 6, 7, 8, 9] 0 (by decide) (by decide) rfl rfl rfl)
            ·replace hm := ifF ((fun hh => Bool.noConfusion ((h213).symm.trans hh))) hm
             refine g_skip ?_
             obtain rfl := Option.some.inj hm
             exact g_leaf l_29 (h190) ((.cons rfl (.cons rfl (.cons rfl (.cons rfl (.cons rfl (.cons rfl (.cons rfl (.cons rfl (.cons rfl (.cons rfl (.cons rfl (.cons rfl (.cons rfl .nil)))))))))))))) (fun w hh => hh.sel [0, 1, 2, 3] [1, 2, 4, 5, 6, 7, 8, 9] 0 (by decide) (by decide) rfl rfl rfl)
           ·replace hm := ifF (of_decide_eq_false h207) hm
            refine g_skip ?_
            obtain rfl := Option.some.inj hm
            exact g_leaf l_29 (h190) ((.cons rfl (.cons rfl (.cons rfl (.cons rfl (.cons rfl (.cons rfl (.cons rfl (.cons rfl (.cons rfl (.cons rfl (.cons rfl (.cons rfl (.cons rfl .nil)))))))))))))) (fun w hh => hh.sel [0, 1, 2, 3] [0, 1, 3, 4, 5, 6, 7, 8] 0 (by decide) (by decide) rfl rfl rfl)
      ·replace hm := ifF (of_decide_eq_false h158) hm
       refine g_skip ?_
       obtain rfl := Option.some.inj hm
       exact g_leaf ⟨none, 0, 0, []⟩ (VOK.nil) ((.cons rfl (.cons rfl (.cons rfl (.cons rfl (.cons rfl (.cons rfl (.cons rfl (.cons rfl (.cons rfl (.cons rfl (.cons rfl (.cons rfl (.cons rfl .nil)))))))))))))) (fun w hh => hh.sel [0, 1, 2, 3] [1, 0, 2, 3, 4, 5, 6, 7] 0 (by decide) (by decide) rfl rfl rfl)
     ·intro l_17 hj
      have h157 := hj
      replace hm := h156
      refine g_n_then ?_
      refine g_seq ?_
      refine g_region ?_
      refine g_val rfl rfl rfl (fun w hh => v_loadAgg (vs := [_, _, _, _, _]) (Try.isAgg29 w) (Try.sizeOf29 w) rfl (hh.cells 2 rfl rfl)) ?_
      refine g_val rfl rfl rfl (fun _ _ => v_move rfl) ?_
      refine g_val rfl rfl rfl (fun _ _ => v_move rfl) ?_
      obtain ⟨t124, h214, hm⟩ := bindO hm
      refine g_callH [] [] rfl rfl rfl rfl rfl rfl rfl (fun a w => Try.call41 a w) (fun w hh => cx_Turn o_1.own9 place2 minute1 l_3.2.2.2.1.q l_3.2.2.2.1.n l_3.2.2.2.1.cap l_3.2.2.2.2.1.q l_3.2.2.2.2.1.n l_3.2.2.2.2.1.cap l_3.2.2.2.2.2.1.q l_3.2.2.2.2.2.1.n l_3.2.2.2.2.2.1.cap w (HV.callee (S0 := []) (vs0 := []) hh (roC (hh.vsep (S0 := []) (vs0 := []) 2 rfl h13) (roC (hh.vsep (S0 := []) (vs0 := []) 3 rfl h14) (roC (hh.vsep (S0 := []) (vs0 := []) 4 rfl h15) roN)))) (vlen RW h13 rfl) (vne h13) (h13).hle (vlen RI h14 rfl) (vne h14) (h14).hle (vlen RS h15 rfl) (vne h15) (h15).hle h214) (fun l_37 h215 => ?_)
      refine g_val rfl rfl rfl (fun _ _ => v_move rfl) ?_
      refine g_val rfl rfl rfl (fun _ _ => v_extract rfl rfl) ?_
      refine g_val rfl rfl rfl (fun _ _ => v_extract rfl rfl) ?_
      refine g_val rfl rfl rfl (fun _ _ => v_assign rfl) ?_
      refine g_val rfl rfl rfl (fun _ _ => v_assign rfl) ?_
      refine g_nil ?_
      refine g_n_then ?_
      refine g_seq ?_
      refine g_region ?_
      refine g_val rfl rfl rfl (fun w hh => v_loadAgg (vs := [_, _, _, _, _]) (Try.isAgg29 w) (Try.sizeOf29 w) rfl (hh.cells 2 rfl rfl)) ?_
      refine g_val rfl rfl rfl (fun _ _ => v_move rfl) ?_
      obtain ⟨t130, h216, hm⟩ := bindO hm
      refine g_callH [] [] rfl rfl rfl rfl rfl rfl rfl (fun a w => Try.call77 a w) (fun w hh => c_tide_Flood_1 o_1.own9 minute1 l_3.2.2.2.1.q l_3.2.2.2.1.n l_3.2.2.2.1.cap l_3.2.2.2.2.1.q l_3.2.2.2.2.1.n l_3.2.2.2.2.1.cap l_3.2.2.2.2.2.1.q l_3.2.2.2.2.2.1.n l_3.2.2.2.2.2.1.cap w (HV.callee (S0 := []) (vs0 := []) hh (roC (hh.vsep (S0 := []) (vs0 := []) 2 rfl h13) (roC (hh.vsep (S0 := []) (vs0 := []) 3 rfl h14) (roC (hh.vsep (S0 := []) (vs0 := []) 4 rfl h15) roN)))) (vlen RW h13 rfl) (vne h13) (h13).hle (vlen RI h14 rfl) (vne h14) (h14).hle (vlen RS h15 rfl) (vne h15) (h15).hle h216) (fun l_38 h217 => ?_)
      have h218 := h217
      refine g_sel (S' := [_, _, _, _]) (vs' := [_, _, _, _, _, _, _, _, _]) [0, 1, 2, 3] [0, 1, 2, 3, 4, 5, 6, 7, 8] 0 (by decide) (by decide) rfl rfl rfl ?_
      refine g_val rfl rfl rfl (fun _ _ => v_move rfl) ?_
      refine g_val rfl rfl rfl (fun _ _ => v_extract rfl rfl) ?_
      refine g_val rfl rfl rfl (fun _ _ => v_extract rfl rfl) ?_
      refine g_val rfl rfl rfl (fun _ _ => v_extract rfl rfl) ?_
      refine g_val rfl rfl rfl (fun _ _ => v_assign rfl) ?_
      refine g_val rfl rfl rfl (fun _ _ => v_assign rfl) ?_
      refine g_val rfl rfl rfl (fun _ _ => v_assign rfl) ?_
      refine g_nil ?_
      refine g_n_then ?_
      refine g_seq ?_
      refine g_region ?_
      refine g_val rfl rfl rfl (fun w hh => v_loadAgg (vs := [_, _, _, _, _]) (Try.isAgg29 w) (Try.sizeOf29 w) rfl (hh.cells 2 rfl rfl)) ?_
      refine g_val rfl rfl rfl (fun _ _ => v_move rfl) ?_
      obtain ⟨t137, h219, hm⟩ := bindO hm
      refine g_callH [] [] rfl rfl rfl rfl rfl rfl rfl (fun a w => Try.call70 a w) (fun w hh => c_tide_Longest_1 o_1.own9 o_1.mine11 l_3.2.2.2.1.q l_3.2.2.2.1.n l_3.2.2.2.1.cap l_3.2.2.2.2.1.q l_3.2.2.2.2.1.n l_3.2.2.2.2.1.cap l_3.2.2.2.2.2.1.q l_3.2.2.2.2.2.1.n l_3.2.2.2.2.2.1.cap l_3.2.2.1.q l_3.2.2.1.n l_3.2.2.1.cap w (HV.callee (S0 := []) (vs0 := []) hh (roC (hh.vsep (S0 := []) (vs0 := []) 3 rfl h13) (roC (hh.vsep (S0 := []) (vs0 := []) 4 rfl h14) (roC (hh.vsep (S0 := []) (vs0 := []) 5 rfl h15) (roC (hh.vsep (S0 := []) (vs0 := []) 1 rfl h12) roN))))) (vlen RW h13 rfl) (vne h13) (h13).hle (vlen RI h14 rfl) (vne h14) (h14).hle (vlen RS h15 rfl) (vne h15) (h15).hle (vlen RI h12 rfl) (vne h12) (h12).hle h219) (fun l_39 h220 => ?_)
      refine g_val rfl rfl rfl (fun _ _ => v_move rfl) ?_
      refine g_val rfl rfl rfl (fun _ _ => v_extract rfl rfl) ?_
      refine g_val rfl rfl rfl (fun _ _ => v_extract rfl rfl) ?_
      refine g_allocV (fun w => Try.zeroValue25 w) rfl (fun b_39 h221 => ?_)
      refine g_stSA (us := #[_, _]) (cs' := [_, _]) (S' := [_, _, _, _, _]) 0 (fun w => Try.sizeOf25 w) rfl rfl rfl rfl rfl rfl rfl ?_
      refine g_val rfl rfl rfl (fun _ _ => v_assign rfl) ?_
      refine g_nil ?_
      refine g_n_then ?_
      refine g_seq ?_
      obtain ⟨o_9, h222, h223⟩ := bindO hm
      refine g_cut (ι := Unit) (fun l_40 => True) (fun l_40 => [(8, .bool o_9)]) (fun l_40 => [(b_39, .cells #[.int .i64 t137.r0.lo, .int .i64 t137.r0.hi] 25 (0, 0)), (b_35, .cells #[.int .i64 o_2.span18_lo, .int .i64 o_2.span18_hi] 25 (0, 0)), (b, .cells #[.slice qa0 na0 ca0, .int .i64 s0.wind.lo, .int .i64 s0.wind.hi, .slice qa1 na1 ca1, .slice qa2 na2 ca2] 29 (0, 0)), (l_3.1, .cells #[slv l_3.2.2.2.1.q l_3.2.2.2.1.n l_3.2.2.2.1.cap, .int .i64 o_1.own9.wind.lo, .int .i64 o_1.own9.wind.hi, slv l_3.2.2.2.2.1.q l_3.2.2.2.2.1.n l_3.2.2.2.2.1.cap, slv l_3.2.2.2.2.2.1.q l_3.2.2.2.2.2.1.n l_3.2.2.2.2.2.1.cap] 29 (0, 0)), (l_3.2.1, .cells #[slv l_3.2.2.2.2.2.2.1.q l_3.2.2.2.2.2.2.1.n l_3.2.2.2.2.2.2.1.cap, .int .i64 o_1.x10.wind.lo, .int .i64 o_1.x10.wind.hi, slv l_3.2.2.2.2.2.2.2.1.q l_3.2.2.2.2.2.2.2.1.n l_3.2.2.2.2.2.2.2.1.cap, slv l_3.2.2.2.2.2.2.2.2.q l_3.2.2.2.2.2.2.2.2.n l_3.2.2.2.2.2.2.2.2.cap] 59 (0, 0))]) (fun l_40 => [⟨68, RW.enc o_1.own9.table, l_3.2.2.2.1.sp, l_3.2.2.2.1.q⟩, ⟨3, RI.enc o_1.own9.floors, l_3.2.2.2.2.1.sp, l_3.2.2.2.2.1.q⟩, ⟨51, RS.enc o_1.own9.sills, l_3.2.2.2.2.2.1.sp, l_3.2.2.2.2.2.1.q⟩, ⟨158, RW.enc o_1.x10.table, l_3.2.2.2.2.2.2.1.sp, l_3.2.2.2.2.2.2.1.q⟩, ⟨3, RI.enc o_1.x10.floors, l_3.2.2.2.2.2.2.2.1.sp, l_3.2.2.2.2.2.2.2.1.q⟩, ⟨159, RS.enc o_1.x10.sills, l_3.2.2.2.2.2.2.2.2.sp, l_3.2.2.2.2.2.2.2.2.q⟩]) ?_ ?_
      ·replace hm := h222
       refine g_region ?_
       refine g_val rfl rfl rfl (fun _ _ => v_move rfl) ?_
       refine g_val rfl rfl rfl (fun _ _ => v_move rfl) ?_
       refine g_val rfl rfl rfl (fun _ _ => v_eql rfl rfl) ?_
       refine g_val rfl rfl rfl (fun _ _ => v_move rfl) ?_
       refine g_case 143 rfl (fun h224 => ?_) (fun h224 => ?_)
       ·replace hm := ifT (of_decide_eq_true h224) hm
        refine v_unguard rfl rfl ?_
        refine g_val rfl rfl rfl (fun _ _ => v_move rfl) ?_
        refine v_unguard rfl rfl ?_
        refine g_val rfl rfl rfl (fun _ _ => v_move rfl) ?_
        refine v_unguard rfl rfl ?_
        refine g_val rfl rfl rfl (fun _ _ => v_eql rfl rfl) ?_
        refine g_val rfl rfl rfl (fun _ _ => v_pickT rfl rfl) ?_
        refine g_val rfl rfl rfl (fun _ _ => v_move rfl) ?_
        refine g_case 148 rfl (fun h225 => ?_) (fun h225 => ?_)
        ·replace hm := ifT (of_decide_eq_true h225) hm
         refine v_unguard rfl rfl ?_
         refine g_val rfl rfl rfl (fun _ _ => v_move rfl) ?_
         refine v_unguard rfl rfl ?_
         refine g_val rfl rfl rfl (fun _ _ => v_move rfl) ?_
         refine v_unguard rfl rfl ?_
         refine g_val rfl rfl rfl (fun _ _ => v_eql rfl rfl) ?_
         refine g_val rfl rfl rfl (fun _ _ => v_pickT rfl rfl) ?_
         refine g_val rfl rfl rfl (fun _ _ => v_move rfl) ?_
         refine g_case 153 rfl (fun h226 => ?_) (fun h226 => ?_)
         ·replace hm := ifT (of_decide_eq_true h226) hm
          refine v_unguard rfl rfl ?_
          refine g_val rfl rfl rfl (fun _ _ => v_move rfl) ?_
          refine v_unguard rfl rfl ?_
          refine g_val rfl rfl rfl (fun _ _ => v_move rfl) ?_
          refine v_unguard rfl rfl ?_
          refine g_val rfl rfl rfl (fun _ _ => v_eql rfl rfl) ?_
          refine g_val rfl rfl rfl (fun _ _ => v_pickT rfl rfl) ?_
          refine g_val rfl rfl rfl (fun _ _ => v_move rfl) ?_
          refine g_case 158 rfl (fun h227 => ?_) (fun h227 => ?_)
          ·replace hm := ifT (of_decide_eq_true h227) hm
           refine v_unguard rfl rfl ?_
           refine g_val rfl rfl rfl (fun _ _ => v_move rfl) ?_
           refine v_unguard rfl rfl ?_
           refine g_val rfl rfl rfl (fun _ _ => v_move rfl) ?_
           refine v_unguard rfl rfl ?_
           refine g_val rfl rfl rfl (fun _ _ => v_eql rfl rfl) ?_
           refine g_val rfl rfl rfl (fun _ _ => v_pickT rfl rfl) ?_
           refine g_val rfl rfl rfl (fun _ _ => v_move rfl) ?_
           refine g_case 163 rfl (fun h228 => ?_) (fun h228 => ?_)
           ·replace hm := ifT (of_decide_eq_true h228) hm
            refine v_unguard rfl rfl ?_
            refine g_val rfl rfl rfl (fun _ _ => v_move rfl) ?_
            refine v_unguard rfl rfl ?_
            refine g_val rfl rfl rfl (fun _ _ => v_move rfl) ?_
            refine v_unguard rfl rfl ?_
            obtain ⟨t166, h229, hm⟩ := bindO hm
            refine g_callH [] [] rfl rfl rfl rfl rfl rfl rfl (fun a w => Try.call59 a w) (fun w hh => c_laurelkit_Eq_int t130.r1 o_2.want17 (qA l_38.q) l_38.n l_38.cap (qA l_17.q) l_17.n l_17.cap w (HV.callee (S0 := []) (vs0 := []) hh (roC (hh.vsepA (S0 := []) (vs0 := []) 0 rfl h218) (roC (hh.vsepA (S0 := []) (vs0 := []) 2 rfl h157) roN))) (vlen RI h218 rfl) (AOK.q (vne h218)) (h218).hle (vlen RI h157 rfl) (AOK.q (vne h157)) (h157).hle h229) (fun l_41 h230 => ?_)
            refine g_val rfl rfl rfl (fun _ _ => v_pickT rfl rfl) ?_
            refine g_val rfl rfl rfl (fun _ _ => v_move rfl) ?_
            refine g_case 168 rfl (fun h231 => ?_) (fun h231 => ?_)
            ·replace hm := ifT (h231) hm
             refine v_unguard rfl rfl ?_
             refine g_val rfl rfl rfl (fun w hh => v_loadAgg (vs := [_, _]) (Try.isAgg25 w) (Try.sizeOf25 w) rfl (hh.cells 0 rfl rfl)) ?_
             refine v_unguard rfl rfl ?_
             refine g_val rfl rfl rfl (fun w hh => v_loadAgg (vs := [_, _]) (Try.isAgg25 w) (Try.sizeOf25 w) rfl (hh.cells 1 rfl rfl)) ?_
             refine v_unguard rfl rfl ?_
             refine g_val rfl rfl rfl (fun w _ => v_eqlAgg (gxeq25 t137.r0 (⟨o_2.span18_lo, o_2.span18_hi⟩ : Span) w) gxeqg25 rfl rfl) ?_
             refine g_val rfl rfl rfl (fun _ _ => v_pickT rfl rfl) ?_
             refine g_val rfl rfl rfl (fun _ _ => v_move rfl) ?_
             refine g_case 173 rfl (fun h232 => ?_) (fun h232 => ?_)
             ·replace hm := ifT (of_decide_eq_true h232) hm
              refine v_unguard rfl rfl ?_
              refine g_val rfl rfl rfl (fun w hh => v_loadAgg (vs := [_, _, _, _, _]) (Try.isAgg29 w) (Try.sizeOf29 w) rfl (hh.cells 3 rfl rfl)) ?_
              refine v_unguard rfl rfl ?_
              refine g_val rfl rfl rfl (fun w hh => v_loadAgg (vs := [_, _, _, _, _]) (Try.isAgg29 w) (Try.sizeOf29 w) rfl (hh.cells 2 rfl rfl)) ?_
              refine v_unguard rfl rfl ?_
              obtain ⟨t176, h233, hm⟩ := bindO hm
              refine g_callH [] [] rfl rfl rfl rfl rfl rfl rfl (fun a w => Try.call38 a w) (fun w hh => c_laurellaw01_same o_1.own9 s0 (qA l_3.2.2.2.1.q) l_3.2.2.2.1.n l_3.2.2.2.1.cap (qA l_3.2.2.2.2.1.q) l_3.2.2.2.2.1.n l_3.2.2.2.2.1.cap (qA l_3.2.2.2.2.2.1.q) l_3.2.2.2.2.2.1.n l_3.2.2.2.2.2.1.cap qa0 na0 ca0 qa1 na1 ca1 qa2 na2 ca2 w (HV.callee (S0 := []) (vs0 := []) hh (roC (hh.vsepA (S0 := []) (vs0 := []) 3 rfl h13) (roC (hh.vsepA (S0 := []) (vs0 := []) 4 rfl h14) (roC (hh.vsepA (S0 := []) (vs0 := []) 5 rfl h15) (roC (hh.rsep (S0 := []) (vs0 := []) 0 rfl) (roC (hh.rsep (S0 := []) (vs0 := []) 1 rfl) (roC (hh.rsep (S0 := []) (vs0 := []) 2 rfl) roN))))))) (vlen RW h13 rfl) (AOK.q (vne h13)) (h13).hle (vlen RI h14 rfl) (AOK.q (vne h14)) (h14).hle (vlen RS h15 rfl) (AOK.q (vne h15)) (h15).hle hna0 hqa0 hla0 hna1 hqa1 hla1 hna2 hqa2 hla2 h233) (fun l_42 h234 => ?_)
              refine g_val rfl rfl rfl (fun _ _ => v_pickT rfl rfl) ?_
              refine g_val rfl rfl rfl (fun _ _ => v_move rfl) ?_
              refine g_case 178 rfl (fun h235 => ?_) (fun h235 => ?_)
              ·replace hm := ifT (h235) hm
               refine v_unguard rfl rfl ?_
               refine g_val rfl rfl rfl (fun _ _ => v_move rfl) ?_
               refine v_unguard rfl rfl ?_
               refine g_val rfl rfl rfl (fun _ _ => v_move rfl) ?_
               refine v_unguard rfl rfl ?_
               obtain ⟨t181, h236, hm⟩ := bindO hm
               refine g_callH [] [] rfl rfl rfl rfl rfl rfl rfl (fun a w => Try.call59 a w) (fun w hh => c_laurelkit_Eq_int o_1.mine11 places3 (qA l_3.2.2.1.q) l_3.2.2.1.n l_3.2.2.1.cap qa3 na3 ca3 w (HV.callee (S0 := []) (vs0 := []) hh (roC (hh.vsepA (S0 := []) (vs0 := []) 1 rfl h12) (roC (hh.rsep (S0 := []) (vs0 := []) 3 rfl) roN))) (vlen RI h12 rfl) (AOK.q (vne h12)) (h12).hle hna3 hqa3 hla3 h236) (fun l_43 h237 => ?_)
               refine g_val rfl rfl rfl (fun _ _ => v_pickT rfl rfl) ?_
               refine g_val rfl rfl rfl (fun _ _ => v_move rfl) ?_
               refine g_case 183 rfl (fun h238 => ?_) (fun h238 => ?_)
               ·replace hm := ifT (h238) hm
                refine v_unguard rfl rfl ?_
                obtain ⟨t184, h239, hm⟩ := bindO hm
                refine g_callH [] [] rfl rfl rfl rfl rfl rfl rfl (fun a w => Try.call30 a w) (fun w hh => cx_awake  w (HV.callee (S0 := []) (vs0 := []) hh roN)  h239) (fun l_44 h240 => ?_)
                refine g_val rfl rfl rfl (fun _ _ => v_pickT rfl rfl) ?_
                refine g_val rfl rfl rfl (fun _ _ => v_assign rfl) ?_
                refine g_nil ?_
                obtain rfl := Option.some.inj hm
                exact g_leaf () (trivial) ((.cons rfl .nil)) (fun w hh => hh.sel [0, 1, 2, 3, 4] [3, 4, 5, 6, 7, 8] 0 (by decide) (by decide) rfl rfl rfl)
               ·replace hm := ifF ((fun hh => Bool.noConfusion ((h238).symm.trans hh))) hm
                refine g_skipG rfl rfl rfl rfl rfl rfl ?_
                refine g_val rfl rfl rfl (fun _ _ => v_pickF rfl rfl) ?_
                refine g_val rfl rfl rfl (fun _ _ => v_assign rfl) ?_
                refine g_nil ?_
                obtain rfl := Option.some.inj hm
                exact g_leaf () (trivial) ((.cons rfl .nil)) (fun w hh => hh.sel [0, 1, 2, 3, 4] [3, 4, 5, 6, 7, 8] 0 (by decide) (by decide) rfl rfl rfl)
              ·replace hm := ifF ((fun hh => Bool.noConfusion ((h235).symm.trans hh))) hm
               refine g_skipG rfl rfl rfl rfl rfl rfl ?_
               refine g_skipG rfl rfl rfl rfl rfl rfl ?_
               refine g_skipG rfl rfl rfl rfl rfl rfl ?_
               refine g_val rfl rfl rfl (fun _ _ => v_pickF rfl rfl) ?_
               refine g_val rfl rfl rfl (fun _ _ => v_move rfl) ?_
               refine g_skipG rfl rfl rfl rfl rfl rfl ?_
               refine g_val rfl rfl rfl (fun _ _ => v_pickF rfl rfl) ?_
               refine g_val rfl rfl rfl (fun _ _ => v_assign rfl) ?_
               refine g_nil ?_
               obtain rfl := Option.some.inj hm
               exact g_leaf () (trivial) ((.cons rfl .nil)) (fun w hh => hh.sel [0, 1, 2, 3, 4] [3, 4, 5, 6, 7, 8] 0 (by decide) (by decide) rfl rfl rfl)
             ·replace hm := ifF (of_decide_eq_false h232) hm
              refine g_skipG rfl rfl rfl rfl rfl rfl ?_
              refine g_skipG rfl rfl rfl rfl rfl rfl ?_
              refine g_skipG rfl rfl rfl rfl rfl rfl ?_
              refine g_val rfl rfl rfl (fun _ _ => v_pickF rfl rfl) ?_
              refine g_val rfl rfl rfl (fun _ _ => v_move rfl) ?_
              refine g_skipG rfl rfl rfl rfl rfl rfl ?_
              refine g_skipG rfl rfl rfl rfl rfl rfl ?_
              refine g_skipG rfl rfl rfl rfl rfl rfl ?_
              refine g_val rfl rfl rfl (fun _ _ => v_pickF rfl rfl) ?_
              refine g_val rfl rfl rfl (fun _ _ => v_move rfl) ?_
              refine g_skipG rfl rfl rfl rfl rfl rfl ?_
              refine g_val rfl rfl rfl (fun _ _ => v_pickF rfl rfl) ?_
              refine g_val rfl rfl rfl (fun _ _ => v_assign rfl) ?_
              refine g_nil ?_
              obtain rfl := Option.some.inj hm
              exact g_leaf () (trivial) ((.cons rfl .nil)) (fun w hh => hh.sel [0, 1, 2, 3, 4] [3, 4, 5, 6, 7, 8] 0 (by decide) (by decide) rfl rfl rfl)
            ·replace hm := ifF ((fun hh => Bool.noConfusion ((h231).symm.trans hh))) hm
             refine g_skipG rfl rfl rfl rfl rfl rfl ?_
             refine g_skipG rfl rfl rfl rfl rfl rfl ?_
             refine g_skipG rfl rfl rfl rfl rfl rfl ?_
             refine g_val rfl rfl rfl (fun _ _ => v_pickF rfl rfl) ?_
             refine g_val rfl rfl rfl (fun _ _ => v_move rfl) ?_
             refine g_skipG rfl rfl rfl rfl rfl rfl ?_
             refine g_skipG rfl rfl rfl rfl rfl rfl ?_
             refine g_skipG rfl rfl rfl rfl rfl rfl ?_
             refine g_val rfl rfl rfl (fun _ _ => v_pickF rfl rfl) ?_
             refine g_val rfl rfl rfl (fun _ _ => v_move rfl) ?_
             refine g_skipG rfl rfl rfl rfl rfl rfl ?_
             refine g_skipG rfl rfl rfl rfl rfl rfl ?_
             refine g_skipG rfl rfl rfl rfl rfl rfl ?_
             refine g_val rfl rfl rfl (fun _ _ => v_pickF rfl rfl) ?_
             refine g_val rfl rfl rfl (fun _ _ => v_move rfl) ?_
             refine g_skipG rfl rfl rfl rfl rfl rfl ?_
             refine g_val rfl rfl rfl (fun _ _ => v_pickF rfl rfl) ?_
             refine g_val rfl rfl rfl (fun _ _ => v_assign rfl) ?_
             refine g_nil ?_
             obtain rfl := Option.some.inj hm
             exact g_leaf () (trivial) ((.cons rfl .nil)) (fun w hh => hh.sel [0, 1, 2, 3, 4] [3, 4, 5, 6, 7, 8] 0 (by decide) (by decide) rfl rfl rfl)
           ·replace hm := ifF (of_decide_eq_false h228) hm
            refine g_skipG rfl rfl rfl rfl rfl rfl ?_
            refine g_skipG rfl rfl rfl rfl rfl rfl ?_
            refine g_skipG rfl rfl rfl rfl rfl rfl ?_
            refine g_val rfl rfl rfl (fun _ _ => v_pickF rfl rfl) ?_
            refine g_val rfl rfl rfl (fun _ _ => v_move rfl) ?_
            refine g_skipG rfl rfl rfl rfl rfl rfl ?_
            refine g_skipG rfl rfl rfl rfl rfl rfl ?_
            refine g_skipG rfl rfl rfl rfl rfl rfl ?_
            refine g_val rfl rfl rfl (fun _ _ => v_pickF rfl rfl) ?_
            refine g_val rfl rfl rfl (fun _ _ => v_move rfl) ?_
            refine g_skipG rfl rfl rfl rfl rfl rfl ?_
            refine g_skipG rfl rfl rfl rfl rfl rfl ?_
            refine g_skipG rfl rfl rfl rfl rfl rfl ?_
            refine g_val rfl rfl rfl (fun _ _ => v_pickF rfl rfl) ?_
            refine g_val rfl rfl rfl (fun _ _ => v_move rfl) ?_
            refine g_skipG rfl rfl rfl rfl rfl rfl ?_
            refine g_skipG rfl rfl rfl rfl rfl rfl ?_
            refine g_skipG rfl rfl rfl rfl rfl rfl ?_
            refine g_val rfl rfl rfl (fun _ _ => v_pickF rfl rfl) ?_
            refine g_val rfl rfl rfl (fun _ _ => v_move rfl) ?_
            refine g_skipG rfl rfl rfl rfl rfl rfl ?_
            refine g_val rfl rfl rfl (fun _ _ => v_pickF rfl rfl) ?_
            refine g_val rfl rfl rfl (fun _ _ => v_assign rfl) ?_
            refine g_nil ?_
            obtain rfl := Option.some.inj hm
            exact g_leaf () (trivial) ((.cons rfl .nil)) (fun w hh => hh.sel [0, 1, 2, 3, 4] [3, 4, 5, 6, 7, 8] 0 (by decide) (by decide) rfl rfl rfl)
          ·replace hm := ifF (of_decide_eq_false h227) hm
           refine g_skipG rfl rfl rfl rfl rfl rfl ?_
           refine g_skipG rfl rfl rfl rfl rfl rfl ?_
           refine g_skipG rfl rfl rfl rfl rfl rfl ?_
           refine g_val rfl rfl rfl (fun _ _ => v_pickF rfl rfl) ?_
           refine g_val rfl rfl rfl (fun _ _ => v_move rfl) ?_
           refine g_skipG rfl rfl rfl rfl rfl rfl ?_
           refine g_skipG rfl rfl rfl rfl rfl rfl ?_
           refine g_skipG rfl rfl rfl rfl rfl rfl ?_
           refine g_val rfl rfl rfl (fun _ _ => v_pickF rfl rfl) ?_
           refine g_val rfl rfl rfl (fun _ _ => v_move rfl) ?_
           refine g_skipG rfl rfl rfl rfl rfl rfl ?_
           refine g_skipG rfl rfl rfl rfl rfl rfl ?_
           refine g_skipG rfl rfl rfl rfl rfl rfl ?_
           refine g_val rfl rfl rfl (fun _ _ => v_pickF rfl rfl) ?_
           refine g_val rfl rfl rfl (fun _ _ => v_move rfl) ?_
           refine g_skipG rfl rfl rfl rfl rfl rfl ?_
           refine g_skipG rfl rfl rfl rfl rfl rfl ?_
           refine g_skipG rfl rfl rfl rfl rfl rfl ?_
           refine g_val rfl rfl rfl (fun _ _ => v_pickF rfl rfl) ?_
           refine g_val rfl rfl rfl (fun _ _ => v_move rfl) ?_
           refine g_skipG rfl rfl rfl rfl rfl rfl ?_
           refine g_skipG rfl rfl rfl rfl rfl rfl ?_
           refine g_skipG rfl rfl rfl rfl rfl rfl ?_
           refine g_val rfl rfl rfl (fun _ _ => v_pickF rfl rfl) ?_
           refine g_val rfl rfl rfl (fun _ _ => v_move rfl) ?_
           refine g_skipG rfl rfl rfl rfl rfl rfl ?_
           refine g_val rfl rfl rfl (fun _ _ => v_pickF rfl rfl) ?_
           refine g_val rfl rfl rfl (fun _ _ => v_assign rfl) ?_
           refine g_nil ?_
           obtain rfl := Option.some.inj hm
           exact g_leaf () (trivial) ((.cons rfl .nil)) (fun w hh => hh.sel [0, 1, 2, 3, 4] [3, 4, 5, 6, 7, 8] 0 (by decide) (by decide) rfl rfl rfl)
         ·replace hm := ifF (of_decide_eq_false h226) hm
          refine g_skipG rfl rfl rfl rfl rfl rfl ?_
          refine g_skipG rfl rfl rfl rfl rfl rfl ?_
          refine g_skipG rfl rfl rfl rfl rfl rfl ?_
          refine g_val rfl rfl rfl (fun _ _ => v_pickF rfl rfl) ?_
          refine g_val rfl rfl rfl (fun _ _ => v_move rfl) ?_
          refine g_skipG rfl rfl rfl rfl rfl rfl ?_
          refine g_skipG rfl rfl rfl rfl rfl rfl ?_
          refine g_skipG rfl rfl rfl rfl rfl rfl ?_
          refine g_val rfl rfl rfl (fun _ _ => v_pickF rfl rfl) ?_
          refine g_val rfl rfl rfl (fun _ _ => v_move rfl) ?_
          refine g_skipG rfl rfl rfl rfl rfl rfl ?_
          refine g_skipG rfl rfl rfl rfl rfl rfl ?_
          refine g_skipG rfl rfl rfl rfl rfl rfl ?_
          refine g_val rfl rfl rfl (fun _ _ => v_pickF rfl rfl) ?_
          refine g_val rfl rfl rfl (fun _ _ => v_move rfl) ?_
          refine g_skipG rfl rfl rfl rfl rfl rfl ?_
          refine g_skipG rfl rfl rfl rfl rfl rfl ?_
          refine g_skipG rfl rfl rfl rfl rfl rfl ?_
          refine g_val rfl rfl rfl (fun _ _ => v_pickF rfl rfl) ?_
          refine g_val rfl rfl rfl (fun _ _ => v_move rfl) ?_
          refine g_skipG rfl rfl rfl rfl rfl rfl ?_
          refine g_skipG rfl rfl rfl rfl rfl rfl ?_
          refine g_skipG rfl rfl rfl rfl rfl rfl ?_
          refine g_val rfl rfl rfl (fun _ _ => v_pickF rfl rfl) ?_
          refine g_val rfl rfl rfl (fun _ _ => v_move rfl) ?_
          refine g_skipG rfl rfl rfl rfl rfl rfl ?_
          refine g_skipG rfl rfl rfl rfl rfl rfl ?_
          refine g_skipG rfl rfl rfl rfl rfl rfl ?_
          refine g_val rfl rfl rfl (fun _ _ => v_pickF rfl rfl) ?_
          refine g_val rfl rfl rfl (fun _ _ => v_move rfl) ?_
          refine g_skipG rfl rfl rfl rfl rfl rfl ?_
          refine g_val rfl rfl rfl (fun _ _ => v_pickF rfl rfl) ?_
          refine g_val rfl rfl rfl (fun _ _ => v_assign rfl) ?_
          refine g_nil ?_
          obtain rfl := Option.some.inj hm
          exact g_leaf () (trivial) ((.cons rfl .nil)) (fun w hh => hh.sel [0, 1, 2, 3, 4] [3, 4, 5, 6, 7, 8] 0 (by decide) (by decide) rfl rfl rfl)
        ·replace hm := ifF (of_decide_eq_false h225) hm
         refine g_skipG rfl rfl rfl rfl rfl rfl ?_
         refine g_skipG rfl rfl rfl rfl rfl rfl ?_
         refine g_skipG rfl rfl rfl rfl rfl rfl ?_
         refine g_val rfl rfl rfl (fun _ _ => v_pickF rfl rfl) ?_
         refine g_val rfl rfl rfl (fun _ _ => v_move rfl) ?_
         refine g_skipG rfl rfl rfl rfl rfl rfl ?_
         refine g_skipG rfl rfl rfl rfl rfl rfl ?_
         refine g_skipG rfl rfl rfl rfl rfl rfl ?_
         refine g_val rfl rfl rfl (fun _ _ => v_pickF rfl rfl) ?_
         refine g_val rfl rfl rfl (fun _ _ => v_move rfl) ?_
         refine g_skipG rfl rfl rfl rfl rfl rfl ?_
         refine g_skipG rfl rfl rfl rfl rfl rfl ?_
         refine g_skipG rfl rfl rfl rfl rfl rfl ?_
         refine g_val rfl rfl rfl (fun _ _ => v_pickF rfl rfl) ?_
         refine g_val rfl rfl rfl (fun _ _ => v_move rfl) ?_
         refine g_skipG rfl rfl rfl rfl rfl rfl ?_
         refine g_skipG rfl rfl rfl rfl rfl rfl ?_
         refine g_skipG rfl rfl rfl rfl rfl rfl ?_
         refine g_val rfl rfl rfl (fun _ _ => v_pickF rfl rfl) ?_
         refine g_val rfl rfl rfl (fun _ _ => v_move rfl) ?_
         refine g_skipG rfl rfl rfl rfl rfl rfl ?_
         refine g_skipG rfl rfl rfl rfl rfl rfl ?_
         refine g_skipG rfl rfl rfl rfl rfl rfl ?_
         refine g_val rfl rfl rfl (fun _ _ => v_pickF rfl rfl) ?_
         refine g_val rfl rfl rfl (fun _ _ => v_move rfl) ?_
         refine g_skipG rfl rfl rfl rfl rfl rfl ?_
         refine g_skipG rfl rfl rfl rfl rfl rfl ?_
         refine g_skipG rfl rfl rfl rfl rfl rfl ?_
         refine g_val rfl rfl rfl (fun _ _ => v_pickF rfl rfl) ?_
         refine g_val rfl rfl rfl (fun _ _ => v_move rfl) ?_
         refine g_skipG rfl rfl rfl rfl rfl rfl ?_
         refine g_skipG rfl rfl rfl rfl rfl rfl ?_
         refine g_skipG rfl rfl rfl rfl rfl rfl ?_
         refine g_val rfl rfl rfl (fun _ _ => v_pickF rfl rfl) ?_
         refine g_val rfl rfl rfl (fun _ _ => v_move rfl) ?_
         refine g_skipG rfl rfl rfl rfl rfl rfl ?_
         refine g_val rfl rfl rfl (fun _ _ => v_pickF rfl rfl) ?_
         refine g_val rfl rfl rfl (fun _ _ => v_assign rfl) ?_
         refine g_nil ?_
         obtain rfl := Option.some.inj hm
         exact g_leaf () (trivial) ((.cons rfl .nil)) (fun w hh => hh.sel [0, 1, 2, 3, 4] [3, 4, 5, 6, 7, 8] 0 (by decide) (by decide) rfl rfl rfl)
       ·replace hm := ifF (of_decide_eq_false h224) hm
        refine g_skipG rfl rfl rfl rfl rfl rfl ?_
        refine g_skipG rfl rfl rfl rfl rfl rfl ?_
        refine g_skipG rfl rfl rfl rfl rfl rfl ?_
        refine g_val rfl rfl rfl (fun _ _ => v_pickF rfl rfl) ?_
        refine g_val rfl rfl rfl (fun _ _ => v_move rfl) ?_
        refine g_skipG rfl rfl rfl rfl rfl rfl ?_
        refine g_skipG rfl rfl rfl rfl rfl rfl ?_
        refine g_skipG rfl rfl rfl rfl rfl rfl ?_
        refine g_val rfl rfl rfl (fun _ _ => v_pickF rfl rfl) ?_
        refine g_val rfl rfl rfl (fun _ _ => v_move rfl) ?_
        refine g_skipG rfl rfl rfl rfl rfl rfl ?_
        refine g_skipG rfl rfl rfl rfl rfl rfl ?_
        refine g_skipG rfl rfl rfl rfl rfl rfl ?_
        refine g_val rfl rfl rfl (fun _ _ => v_pickF rfl rfl) ?_
        refine g_val rfl rfl rfl (fun _ _ => v_move rfl) ?_
        refine g_skipG rfl rfl rfl rfl rfl rfl ?_
        refine g_skipG rfl rfl rfl rfl rfl rfl ?_
        refine g_skipG rfl rfl rfl rfl rfl rfl ?_
        refine g_val rfl rfl rfl (fun _ _ => v_pickF rfl rfl) ?_
        refine g_val rfl rfl rfl (fun _ _ => v_move rfl) ?_
        refine g_skipG rfl rfl rfl rfl rfl rfl ?_
        refine g_skipG rfl rfl rfl rfl rfl rfl ?_
        refine g_skipG rfl rfl rfl rfl rfl rfl ?_
        refine g_val rfl rfl rfl (fun _ _ => v_pickF rfl rfl) ?_
        refine g_val rfl rfl rfl (fun _ _ => v_move rfl) ?_
        refine g_skipG rfl rfl rfl rfl rfl rfl ?_
        refine g_skipG rfl rfl rfl rfl rfl rfl ?_
        refine g_skipG rfl rfl rfl rfl rfl rfl ?_
        refine g_val rfl rfl rfl (fun _ _ => v_pickF rfl rfl) ?_
        refine g_val rfl rfl rfl (fun _ _ => v_move rfl) ?_
        refine g_skipG rfl rfl rfl rfl rfl rfl ?_
        refine g_skipG rfl rfl rfl rfl rfl rfl ?_
        refine g_skipG rfl rfl rfl rfl rfl rfl ?_
        refine g_val rfl rfl rfl (fun _ _ => v_pickF rfl rfl) ?_
        refine g_val rfl rfl rfl (fun _ _ => v_move rfl) ?_
        refine g_skipG rfl rfl rfl rfl rfl rfl ?_
        refine g_skipG rfl rfl rfl rfl rfl rfl ?_
        refine g_skipG rfl rfl rfl rfl rfl rfl ?_
        refine g_val rfl rfl rfl (fun _ _ => v_pickF rfl rfl) ?_
        refine g_val rfl rfl rfl (fun _ _ => v_move rfl) ?_
        refine g_skipG rfl rfl rfl rfl rfl rfl ?_
        refine g_val rfl rfl rfl (fun _ _ => v_pickF rfl rfl) ?_
        refine g_val rfl rfl rfl (fun _ _ => v_assign rfl) ?_
        refine g_nil ?_
        obtain rfl := Option.some.inj hm
        exact g_leaf () (trivial) ((.cons rfl .nil)) (fun w hh => hh.sel [0, 1, 2, 3, 4] [3, 4, 5, 6, 7, 8] 0 (by decide) (by decide) rfl rfl rfl)
      ·intro l_40 hj
       replace hm := h223
       refine g_n_then ?_
       refine g_ret ?_
       obtain rfl := Option.some.inj hm
       refine g_done rfl (fun w hh => (.tmp rfl .nil)) (fun w hh => ⟨(), rfl, trivial, hh.sel [] [] 4 (by decide) (by decide) rfl rfl rfl⟩)
end Go.Proofs.Wk

namespace Go.Proofs.Wk
open Go Go.Gx Go.Pl
set_option linter.unusedVariables false
/-! ### which places flood first -/
def wets (s : Sands) (m a : Int) (p : Nat) : Bool := decide (stateF s m (p : Int) = 0) && !decide (stateF s a (p : Int) = 0)
def floodL (s : Sands) (m a : Int) : List Int := filtL (wets s m a) s.floors.length
def floodK (s : Sands) (m : Int) : Option Nat := (List.range (lastM s - m).toNat).find? fun j : Nat => decide (floodL s m (m + 1 + (j : Int)) ≠ [])
def FloodR (s : Sands) (m : Int) : (Int × List Int) × Int := if check s ≠ 0 then ((0, []), check s) else if dayF s m = false then ((0, []), 3) else match floodK s m with
  | some j => ((m + 1 + (j : Int), floodL s m (m + 1 + (j : Int))), 0)
  | none => ((0, []), 6)
theorem floodL_len {s : Sands} {m a : Int} : (floodL s m a).length ≤ s.floors.length := filtL_len
theorem len_pos {l : List Int} : 0 < (l.length : Int) ↔ l ≠ [] := by
  cases l with
  | nil => simp
  | cons x l => simp
theorem flood_L1 {s : Sands} (hG : Good s) {m : Int} (hd : dayF s m = true) {S : m_tide_Flood_1_S0} (ha : dayF s S.at10 = true) : iterM FU (m_tide_Flood_1_L1 s m S) ⟨0, []⟩ = some (floodL s m S.at10) := by
  have hfl := hG.fl
  refine iterM_run (f := m_tide_Flood_1_L1 s m S) (fun k : Nat => (⟨(k : Int), filtL (wets s m S.at10) k⟩ : m_tide_Flood_1_S1)) s.floors.length (fun k hk => ?_) ?_ FU (FU_lt (by omega))
  · have hp : isPlace s (k : Int) = true := isPlace_iff.2 ⟨by omega, by omega⟩
    have hlen := filtL_len (p := wets s m S.at10) (k := k)
    unfold m_tide_Flood_1_L1
    dsimp only
    rw [if_pos (by omega), x_at_eq hG hd hp, Option.bind_some, filtL_succ]
    unfold wets
    by_cases h0 : stateF s m (k : Int) = 0
    · rw [if_pos h0, x_at_eq hG ha hp, Option.bind_some, Option.bind_some, decide_eq_true h0, Bool.true_and]
      by_cases h1 : (!decide (stateF s S.at10 (k : Int) = 0)) = true
      · rw [if_pos h1, if_pos h1, appc_eq (by simp only [List.length_singleton]; unfold wets at hlen; omega), Option.bind_some, Option.bind_some, addc_eq (by omega), Option.bind_some]
        rfl
      · rw [if_neg h1, if_neg h1, Option.bind_some, addc_eq (by omega), Option.bind_some]
        rfl
    · rw [if_neg h0, Option.bind_some, if_neg (by decide), Option.bind_some, addc_eq (by omega), Option.bind_some, decide_eq_false h0, Bool.false_and, if_neg (by decide)]
      rfl
  · unfold m_tide_Flood_1_L1
    dsimp only
    rw [if_neg (by omega)]
    rfl
theorem flood_eq {s : Sands} (hS : Short s) {m : Int} : m_tide_Flood_1 s m = some ⟨(FloodR s m).1.1, (FloodR s m).2, (FloodR s m).1.2⟩ := by
  have h1 := hS.t
  have h2 := hS.f
  have h3 := hS.s
  unfold m_tide_Flood_1 FloodR
  rw [if_pos ⟨by omega, by omega, by omega⟩]
  by_cases hc : check s = 0
  · have hG := good_of_check hc
    have hds := day_span hG
    rw [if_pos hc, if_neg (show ¬ (check s ≠ 0) by rw [hc]; simp), x_day_eq hG, Option.bind_some]
    by_cases hd : dayF s m = true
    · have hd' := hd
      simp only [dayF, inr_iff] at hd'
      rw [hd, if_neg (by decide), if_neg (show ¬ (true = false) by decide), addc_eq (by omega), Option.bind_some]
      have key := iterM_find (f := m_tide_Flood_1_L0 s m) (fun k : Nat => (⟨m + 1 + (k : Int), []⟩ : m_tide_Flood_1_S0)) (lastM s - m).toNat (fun j : Nat => decide (floodL s m (m + 1 + (j : Int)) ≠ [])) (fun j => ⟨m + 1 + (j : Int), floodL s m (m + 1 + (j : Int))⟩) ⟨lastM s + 1, []⟩ (fun k hk _ => by
        have ha : dayF s (m + 1 + (k : Int)) = true := by simp only [dayF, inr_iff]; omega
        unfold m_tide_Flood_1_L0
        dsimp only
        rw [x_day_eq hG, Option.bind_some, ha, if_pos rfl, flood_L1 hG hd (S := ⟨m + 1 + (k : Int), []⟩) ha, Option.bind_some]
        by_cases hne : floodL s m (m + 1 + (k : Int)) = []
        · rw [if_neg (by rw [hne]; simp), addc_eq (by omega), Option.bind_some, if_neg (by simp [hne]), hne]
          rw [show m + 1 + (k : Int) + 1 = m + 1 + ((k + 1 : Nat) : Int) by omega]
        · rw [if_pos (len_pos.2 hne), if_pos (by simp [hne])]) (by
        have ha : dayF s (m + 1 + (((lastM s - m).toNat : Nat) : Int)) = false := by
          cases h : dayF s (m + 1 + (((lastM s - m).toNat : Nat) : Int)) with
          | false => rfl
          | true => simp only [dayF, inr_iff] at h; omega
        unfold m_tide_Flood_1_L0
        dsimp only
        rw [x_day_eq hG, Option.bind_some, ha, if_neg (by decide), show m + 1 + (((lastM s - m).toNat : Nat) : Int) = lastM s + 1 by omega]) (N := FU) (FU_lt (by omega))
      have hz : (⟨m + 1, []⟩ : m_tide_Flood_1_S0) = (fun k : Nat => (⟨m + 1 + (k : Int), []⟩ : m_tide_Flood_1_S0)) 0 := by simp
      rw [hz, key, Option.bind_some]
      unfold floodK
      cases hf : (List.range (lastM s - m).toNat).find? (fun j : Nat => decide (floodL s m (m + 1 + (j : Int)) ≠ [])) with
      | none => rfl
      | some j =>
        have hj := List.find?_some hf
        have hne : floodL s m (m + 1 + (j : Int)) ≠ [] := of_decide_eq_true hj
        have := len_pos.2 hne
        dsimp only
        rw [if_neg (by omega)]
    · have hd' : dayF s m = false := by simpa using hd
      rw [hd', if_pos (show (!false) = true from rfl), if_pos rfl]
  · rw [if_neg hc, if_pos (show check s ≠ 0 from hc)]
theorem refflood_L1 {s : Sands} (hG : Good s) {m a : Int} (hd : dayF s m = true) (ha : dayF s a = true) : iterM FU (m_laurelref01_Flood_L1 ((List.range s.floors.length).map (fun p : Nat => refGate ((gatesOf s).getD p 0))) s (heightF s m) (heightF s a)) ⟨0, []⟩ = some (floodL s m a) := by
  have hfl := hG.fl
  have hgo := gates_ok (s := s)
  refine iterM_run (f := m_laurelref01_Flood_L1 ((List.range s.floors.length).map (fun p : Nat => refGate ((gatesOf s).getD p 0))) s (heightF s m) (heightF s a)) (fun k : Nat => (⟨(k : Int), filtL (wets s m a) k⟩ : m_laurelref01_Flood_S1)) s.floors.length (fun k hk => ?_) ?_ FU (FU_lt (by omega))
  · have hlen := filtL_len (p := wets s m a) (k := k)
    have hst : ∀ b, stateG s ((gatesOf s).getD k 0) b = stateF s b (k : Int) := fun b => by unfold stateF; rw [Int.toNat_natCast]
    unfold m_laurelref01_Flood_L1
    dsimp only
    rw [if_pos (by simp; omega), refgates_ixn hk, Option.bind_some, refstate_gate hG hd ⟨hgo.lo _, hgo.hi _⟩, Option.bind_some, filtL_succ, hst]
    unfold wets
    by_cases h0 : stateF s m (k : Int) = 0
    · rw [if_pos h0, Option.bind_some, refstate_gate hG ha ⟨hgo.lo _, hgo.hi _⟩, Option.bind_some, Option.bind_some, hst, decide_eq_true h0, Bool.true_and]
      by_cases h1 : (!decide (stateF s a (k : Int) = 0)) = true
      · rw [if_pos h1, if_pos h1, appc_eq (by simp only [List.length_singleton]; unfold wets at hlen; omega), Option.bind_some, Option.bind_some, addc_eq (by omega), Option.bind_some]
        rfl
      · rw [if_neg h1, if_neg h1, Option.bind_some, addc_eq (by omega), Option.bind_some]
        rfl
    · rw [if_neg h0, Option.bind_some, if_neg (by decide), Option.bind_some, addc_eq (by omega), Option.bind_some, decide_eq_false h0, Bool.false_and, if_neg (by decide)]
      rfl
  · unfold m_laurelref01_Flood_L1
    dsimp only
    rw [if_neg (by simp)]
    rfl
theorem refflood_eq {s : Sands} (hG : Good s) {m : Int} (hd : dayF s m = true) : m_laurelref01_Flood s ((List.range s.floors.length).map (fun p : Nat => refGate ((gatesOf s).getD p 0))) m = some (match floodK s m with
    | some j => ⟨m + 1 + (j : Int), true, floodL s m (m + 1 + (j : Int))⟩
    | none => ⟨0, false, []⟩) := by
  have hds := day_span hG
  have hS := Good.short hG
  have htl := hG.tl
  have hd' := hd
  simp only [dayF, inr_iff] at hd'
  unfold m_laurelref01_Flood
  rw [refheight_eq hG hd, Option.bind_some, addc_eq (by omega), Option.bind_some]
  have key := iterM_find (f := m_laurelref01_Flood_L0 s ((List.range s.floors.length).map (fun p : Nat => refGate ((gatesOf s).getD p 0))) (heightF s m)) (fun k : Nat => m + 1 + (k : Int)) (lastM s - m).toNat (fun j : Nat => decide (floodL s m (m + 1 + (j : Int)) ≠ [])) (fun j => .inr ⟨m + 1 + (j : Int), true, floodL s m (m + 1 + (j : Int))⟩) (.inl ()) (fun k hk _ => by
    have ha : dayF s (m + 1 + (k : Int)) = true := by simp only [dayF, inr_iff]; omega
    unfold m_laurelref01_Flood_L0
    rw [reflast_eq hS (by omega), Option.bind_some, if_pos (by omega), refheight_eq hG ha, Option.bind_some, refflood_L1 hG hd ha, Option.bind_some]
    by_cases hne : floodL s m (m + 1 + (k : Int)) = []
    · rw [if_neg (by rw [hne]; simp), addc_eq (by omega), Option.bind_some, if_neg (by simp [hne])]
      rw [show m + 1 + (k : Int) + 1 = m + 1 + ((k + 1 : Nat) : Int) by omega]
    · rw [if_pos (len_pos.2 hne), if_pos (by simp [hne])]) (by
    unfold m_laurelref01_Flood_L0
    rw [reflast_eq hS (by omega), Option.bind_some, if_neg (by omega)]) (N := FU) (FU_lt (by omega))
  have hz : m + 1 + ((0 : Nat) : Int) = m + 1 := by omega
  rw [hz] at key
  rw [key, Option.bind_some]
  unfold floodK
  cases (List.range (lastM s - m).toNat).find? (fun j : Nat => decide (floodL s m (m + 1 + (j : Int)) ≠ [])) <;> rfl
end Go.Proofs.Wk

namespace Go.Proofs.Wk
open Go Go.Gx Go.Pl
set_option linter.unusedVariables false
/-! ### the reference's longest span -/
def refG (s : Sands) : List Int := (List.range s.floors.length).map (fun p : Nat => refGate ((gatesOf s).getD p 0))
theorem together_L1 {s : Sands} (hG : Good s) {pl : List Int} (hpl : pl.all (isPlace s) = true) (hl : pl.length ≤ 1000) {i : Nat} (hi : i < dayN s) {S : m_laurelref01_Together_S0} (hS : S.i9 = (i : Int)) :
    iterM FU (m_laurelref01_Together_L1 pl (dayL s (heightF s) (dayN s)) S (refG s) s) ⟨true, 0⟩ = some (allDry s pl (firstM s + (i : Int))) := by
  have hds := day_span hG
  obtain ⟨hn, hn2⟩ := Go.Pl.dayN_eq hG
  have hgo := gates_ok (s := s)
  have hd : dayF s (firstM s + (i : Int)) = true := by simp only [dayF, inr_iff]; omega
  have key := iterM_run (f := m_laurelref01_Together_L1 pl (dayL s (heightF s) (dayN s)) S (refG s) s) (b := allDry s pl (firstM s + (i : Int))) (fun k : Nat => (⟨allDry s (pl.take k) (firstM s + (i : Int)), (k : Int)⟩ : m_laurelref01_Together_S1)) pl.length (fun k hk => by
    have hp : isPlace s (pl.getD k 0) = true := all_getD hpl hk
    have hsucc : allDry s (pl.take (k + 1)) (firstM s + (i : Int)) = (allDry s (pl.take k) (firstM s + (i : Int)) && decide (stateF s (firstM s + (i : Int)) (pl.getD k 0) = 0)) := by
      unfold allDry
      rw [← take_snoc 0 hk, List.all_append]
      simp
    unfold m_laurelref01_Together_L1
    dsimp only
    rw [if_pos (by omega), hsucc]
    cases allDry s (pl.take k) (firstM s + (i : Int)) with
    | true =>
      have e : stateG s ((gatesOf s).getD (pl.getD k 0).toNat 0) (firstM s + (i : Int)) = stateF s (firstM s + (i : Int)) (pl.getD k 0) := rfl
      rw [if_pos rfl, hS, dayL_ix (by omega) (by omega), Option.bind_some, ix_nat 0 hk, Option.bind_some, show ix (refG s) (pl.getD k 0) = some (refGate ((gatesOf s).getD (pl.getD k 0).toNat 0)) from gates_ix hp, Option.bind_some, refstate_gate hG hd ⟨hgo.lo _, hgo.hi _⟩, Option.bind_some, Option.bind_some, addc_eq (by omega), Option.bind_some, e, Bool.true_and]
      rfl
    | false =>
      rw [if_neg (by decide), Option.bind_some, addc_eq (by omega), Option.bind_some, Bool.false_and]
      rfl) (by
    unfold m_laurelref01_Together_L1
    dsimp only
    rw [if_neg (by omega), List.take_length]) FU (FU_lt (by omega))
  exact key
theorem together_eq {s : Sands} (hG : Good s) {pl : List Int} (hpl : pl.all (isPlace s) = true) (hl : pl.length ≤ 1000) : m_laurelref01_Together s (refG s) pl = some (dayL s (allDry s pl) (dayN s)) := by
  obtain ⟨hn, hn2⟩ := Go.Pl.dayN_eq hG
  unfold m_laurelref01_Together
  rw [refheights_eq hG, Option.bind_some]
  have key := iterM_run (f := m_laurelref01_Together_L0 (dayL s (heightF s) (dayN s)) pl (refG s) s) (b := dayL s (allDry s pl) (dayN s)) (fun k : Nat => (⟨(k : Int), dayL s (allDry s pl) k⟩ : m_laurelref01_Together_S0)) (dayN s) (fun k hk => by
    unfold m_laurelref01_Together_L0
    dsimp only
    rw [dayL_len, if_pos (by omega), together_L1 hG hpl hl hk rfl, Option.bind_some, appc_eq (by rw [dayL_len, List.length_singleton]; omega), Option.bind_some, addc_eq (by omega), Option.bind_some, dayL_succ]
    rfl) (by
    unfold m_laurelref01_Together_L0
    dsimp only
    rw [dayL_len, if_neg (by omega)]) FU (FU_lt (by omega))
  have hz : (⟨0, []⟩ : m_laurelref01_Together_S0) = (fun k : Nat => (⟨(k : Int), dayL s (allDry s pl) k⟩ : m_laurelref01_Together_S0)) 0 := by simp [dayL]
  rw [hz, key, Option.bind_some]
theorem reflongest_eq {s : Sands} (hG : Good s) {p : Int → Bool} : m_laurelref01_Longest s (dayL s p (dayN s)) = some (if spansF s p = [] then ⟨⟨0, 0⟩, false⟩ else ⟨maxSpan (spansF s p), true⟩) := by
  have hds := day_span hG
  have hlen := spansF_len hG (p := p)
  have hruns := (spans_runs hG (p := p)).1
  unfold m_laurelref01_Longest
  rw [refspans_eq hG, Option.bind_some]
  generalize spansF s p = l at hlen hruns
  cases l with
  | nil => rfl
  | cons x l =>
    simp only [List.length_cons] at hlen
    rw [if_neg (by simp only [List.length_cons]; omega), if_neg (by simp), ix_eq default (by omega) (by simp)]
    have e : (x :: l).getD (0 : Int).toNat default = x := rfl
    rw [Option.bind_some, e]
    have tk : ∀ k, (l.take k).foldl maxStep x ∈ x :: l := fun k => by
      have := (max_fold (l.take k) x).1
      rcases List.mem_cons.1 this with h | h
      · rw [h]; exact List.mem_cons_self
      · exact List.mem_cons_of_mem _ (List.mem_of_mem_take h)
    have key : iterM FU (m_laurelref01_Longest_L0 (x :: l)) ⟨1, x.lo, x.hi⟩ = some ⟨(maxSpan (x :: l)).lo, (maxSpan (x :: l)).hi⟩ := by
      have hz : (⟨1, x.lo, x.hi⟩ : m_laurelref01_Longest_S0) = (fun k : Nat => (⟨((k + 1 : Nat) : Int), ((l.take k).foldl maxStep x).lo, ((l.take k).foldl maxStep x).hi⟩ : m_laurelref01_Longest_S0)) 0 := rfl
      rw [hz]
      refine iterM_run (fun k : Nat => (⟨((k + 1 : Nat) : Int), ((l.take k).foldl maxStep x).lo, ((l.take k).foldl maxStep x).hi⟩ : m_laurelref01_Longest_S0)) l.length (fun k hk => ?_) ?_ FU (FU_lt (by omega))
      · have hm := hruns _ (tk k)
        have hy := hruns (l.getD k default) (List.mem_cons_of_mem _ (mem_getD hk))
        have hg : ix (x :: l) ((k + 1 : Nat) : Int) = some (l.getD k default) := by
          rw [ix_nat default (by simp; omega)]
          rfl
        have hf : (l.take (k + 1)).foldl maxStep x = maxStep ((l.take k).foldl maxStep x) (l.getD k default) := take_fold default hk
        unfold m_laurelref01_Longest_L0
        dsimp only
        rw [if_pos (by simp only [List.length_cons]; omega), hg, Option.bind_some, Option.bind_some, hf]
        generalize (l.take k).foldl maxStep x = m at hm
        generalize l.getD k default = y at hy
        rw [subc_eq (by omega), Option.bind_some, subc_eq (by omega), Option.bind_some]
        unfold maxStep
        by_cases hc : m.hi - m.lo < y.hi - y.lo
        · rw [if_pos hc, if_pos hc, Option.bind_some, Option.bind_some, addc_eq (by omega), Option.bind_some]
          rfl
        · rw [if_neg hc, if_neg hc, Option.bind_some, addc_eq (by omega), Option.bind_some]
          rfl
      · unfold m_laurelref01_Longest_L0
        dsimp only
        rw [if_neg (by simp only [List.length_cons]; omega), List.take_length]
        rfl
    rw [key, Option.bind_some]
/-- not dry: there is no turn -/
theorem turn_none {s : Sands} (hG : Good s) {p m : Int} (hp : isPlace s p = true) (hd : dayF s m = true) (h0 : stateF s m p ≠ 0) : TurnR s p m = (0, 6) := by
  have hr := (spans_runs hG (p := isState s p 0)).1
  have hE : spansE s p 0 = 0 := by
    unfold spansE
    rw [check_of_good hG, hp]
    rfl
  have hi : idxf (fun x : Span => inr m x.lo x.hi) (spansF s (isState s p 0)) < 0 := by
    refine Int.not_le.1 fun h => ?_
    have hrg := idxf_range (p := fun x : Span => inr m x.lo x.hi) (l := spansF s (isState s p 0))
    have hin := idxf_holds (d := default) (p := fun x : Span => inr m x.lo x.hi) (l := spansF s (isState s p 0)) h
    generalize idxf (fun x : Span => inr m x.lo x.hi) (spansF s (isState s p 0)) = i at h hrg hin
    have hm := mem_getD (d := (default : Span)) (l := spansF s (isState s p 0)) (j := i.toNat) (by omega)
    have hin2 := inr_iff.1 hin
    have := (hr _ hm).2.2.2.1 m hin2.1 hin2.2
    exact h0 (of_decide_eq_true this)
  unfold TurnR
  rw [hE, hd, if_neg (by simp), if_neg (by simp), if_pos hi]
theorem run_turn {s : Sands} (hG : Good s) {p m : Int} (hp : isPlace s p = true) (hd : dayF s m = true) : ∃ y b, m_laurelref01_Run s (dayL s (isState s p 0) (dayN s)) m = some ⟨y, b⟩ ∧ TurnR s p m = if b = true then (y.hi, 0) else (0, 6) := by
  obtain ⟨h1, h2⟩ := run_ok hG (p := isState s p 0) hd
  by_cases h0 : stateF s m p = 0
  · obtain ⟨y, hy, hR⟩ := h2 (decide_eq_true h0)
    refine ⟨y, true, hy, ?_⟩
    obtain ⟨T, hT, t1, t2, t3, t4⟩ := turn_spec hG hp hd h0
    rw [hT, if_pos rfl]
    have a1 := hR.hi
    have a2 := hR.lo
    congr 1
    refine Int.le_antisymm (Int.not_lt.1 fun hlt => ?_) (Int.not_lt.1 fun hlt => ?_)
    · rcases hR.hm with h | h
      · omega
      · have := t3 (y.hi + 1) (by omega) (by omega)
        exact of_decide_eq_false h this
    · rcases t4 with h | h
      · omega
      · exact h (of_decide_eq_true (hR.al (T + 1) (by omega) (by omega)))
  · exact ⟨_, false, h1 (decide_eq_false h0), by rw [turn_none hG hp hd h0]; rfl⟩
/-- the first error of places -/
theorem places_L0 {s : Sands} (hS : Short s) {pl : List Int} (hl : pl.length ≤ 1000) {o : m_laurellaw01_TideStays_C1} (ho : o.x10 = s) : iterM FU (m_laurellaw01_TideStays_L0 pl o) ⟨0, 0⟩ = some (if pl.all (isPlace s) = true then 0 else 1) := by
  have key := iterM_run (f := m_laurellaw01_TideStays_L0 pl o) (b := if pl.all (isPlace s) = true then 0 else 1) (fun k : Nat => (⟨if (pl.take k).all (isPlace s) = true then 0 else 1, (k : Int)⟩ : m_laurellaw01_TideStays_S0)) pl.length (fun k hk => by
    have hsucc : (pl.take (k + 1)).all (isPlace s) = ((pl.take k).all (isPlace s) && isPlace s (pl.getD k 0)) := by
      rw [← take_snoc 0 hk, List.all_append]
      simp
    unfold m_laurellaw01_TideStays_L0
    dsimp only
    rw [if_pos (by omega), ix_nat 0 hk, Option.bind_some, hsucc, ho]
    cases (pl.take k).all (isPlace s) with
    | true =>
      rw [if_pos rfl, if_pos rfl, place_eq hS, Option.bind_some, Option.bind_some, addc_eq (by omega), Option.bind_some, Bool.true_and]
      rfl
    | false =>
      rw [if_neg (by decide), if_neg (by decide), Option.bind_some, addc_eq (by omega), Option.bind_some, Bool.false_and]
      rfl) (by
    unfold m_laurellaw01_TideStays_L0
    dsimp only
    rw [if_neg (by omega), List.take_length]) FU (FU_lt (by omega))
  exact key
end Go.Proofs.Wk

namespace Go.Proofs.Wk
open Go Go.Gx Go.Pl
set_option linter.unusedVariables false
theorem stays_turn {s : Sands} (hG : Good s) {p m : Int} :
    (((some (if isPlace s p = true then (0 : Int) else 1)).bind fun t61 => if t61 = 0 then (some (if dayF s m = true then (0 : Int) else 3)) else (some t61)).bind fun o_3 =>
      (if o_3 = 0 then
      (((ix (refG s) p).bind fun t72 =>
      (m_laurelref01_Says s t72 0).bind fun t74 =>
      (m_laurelref01_Run s t74 m).bind fun t76 =>
      some (⟨t76.r0, t76.r1⟩ : m_laurellaw01_TideStays_C5)).bind fun o_5 =>
      if (!o_5.is21) = true then
      (some (⟨6, 0⟩ : m_laurellaw01_TideStays_C4)) else
      (some (⟨o_3, o_5.run20.hi⟩ : m_laurellaw01_TideStays_C4))) else
      (some (⟨o_3, 0⟩ : m_laurellaw01_TideStays_C4)))) = some ⟨(TurnR s p m).2, (TurnR s p m).1⟩ := by
  have hc := check_of_good hG
  rw [Option.bind_some]
  by_cases hp : isPlace s p = true
  · have hE : spansE s p 0 = 0 := by
      unfold spansE
      rw [hc, hp]
      rfl
    rw [if_pos hp, if_pos rfl, Option.bind_some]
    by_cases hd : dayF s m = true
    · obtain ⟨y, b, hy, hT⟩ := run_turn hG hp hd
      rw [if_pos hd, if_pos rfl, show ix (refG s) p = some (refGate ((gatesOf s).getD p.toNat 0)) from gates_ix hp, Option.bind_some, refsays_eq hG hp, Option.bind_some, hy, Option.bind_some, Option.bind_some, hT]
      cases b <;> rfl
    · have hd' : dayF s m = false := by simpa using hd
      rw [if_neg hd, if_neg (by decide)]
      unfold TurnR
      rw [hE, if_neg (show ¬ ((0 : Int) ≠ 0) by simp), if_pos hd']
  · have hp' : isPlace s p = false := by simpa using hp
    have hE : spansE s p 0 = 1 := by
      unfold spansE
      rw [hc, hp']
      rfl
    rw [if_neg hp, if_neg (by decide), Option.bind_some, if_neg (by decide)]
    unfold TurnR
    rw [hE, if_pos (show (1 : Int) ≠ 0 by decide)]
theorem stays_flood {s : Sands} (hG : Good s) {m : Int} :
    ((if (if dayF s m = true then (0 : Int) else 3) = 0 then
      ((m_laurelref01_Flood s (refG s) m).bind fun t89 =>
      if (!t89.r2) = true then
      (some (⟨6, t89.r0, t89.r1⟩ : m_laurellaw01_TideStays_C6)) else
      (some (⟨(if dayF s m = true then (0 : Int) else 3), t89.r0, t89.r1⟩ : m_laurellaw01_TideStays_C6))) else
      (some (⟨(if dayF s m = true then (0 : Int) else 3), 0, []⟩ : m_laurellaw01_TideStays_C6)))) = some ⟨(FloodR s m).2, (FloodR s m).1.1, (FloodR s m).1.2⟩ := by
  have hc := check_of_good hG
  unfold FloodR
  rw [if_neg (show ¬ (check s ≠ 0) by rw [hc]; simp)]
  by_cases hd : dayF s m = true
  · rw [if_pos hd, if_pos rfl, if_neg (show ¬ (dayF s m = false) by rw [hd]; decide), show refG s = (List.range s.floors.length).map (fun p : Nat => refGate ((gatesOf s).getD p 0)) from rfl, refflood_eq hG hd, Option.bind_some]
    cases floodK s m <;> rfl
  · have hd' : dayF s m = false := by simpa using hd
    rw [if_neg hd, if_neg (by decide), if_pos hd']
theorem flood_len {s : Sands} (hS : Short s) {m : Int} : (FloodR s m).1.2.length ≤ 1000 := by
  have h2 := hS.f
  unfold FloodR
  split
  · simp
  · split
    · simp
    · cases floodK s m with
      | none => simp
      | some j =>
        have := floodL_len (s := s) (m := m) (a := m + 1 + (j : Int))
        simp only; omega
/-- TideStays is true of all that comes in -/
theorem stays_true (s : Sands) (m p : Int) (pl : List Int) : m_laurellaw01_TideStays s m p pl = some true := by
  unfold m_laurellaw01_TideStays
  obtain ⟨b, hb, hS'⟩ := large_ok (s := s)
  rw [hb, Option.bind_some]
  cases b with
  | true => rw [if_pos rfl, Option.bind_some, if_pos rfl, x_awake_eq, Option.bind_some]
  | false =>
    have hS := hS' rfl
    rw [if_neg (by decide), Option.bind_some]
    by_cases hpl20 : 20 < (pl.length : Int)
    · rw [decide_eq_true hpl20, if_pos rfl, x_awake_eq, Option.bind_some]
    · rw [decide_eq_false hpl20, if_neg (by decide), own_eq hS, Option.bind_some, theirs_eq hS, Option.bind_some, dup_int (by omega), Option.bind_some, Option.bind_some]
      dsimp only
      rw [refcheck_eq hS, Option.bind_some, x_Turn_eq hS, flood_eq hS, longest_eq hS (by omega)]
      have hfl := flood_len hS (m := m)
      by_cases hc : check s = 0
      · have hG := good_of_check hc
        have htl := hG.tl
        rw [if_pos hc, refgates_eq hG, Option.bind_some, minute_eq hS (by omega), Option.bind_some, place_eq hS]
        have k1 := stays_turn hG (p := p) (m := m)
        have k2 := stays_flood hG (m := m)
        rw [show (List.range s.floors.length).map (fun p : Nat => refGate ((gatesOf s).getD p 0)) = refG s from rfl]
        have hcz : check s = 0 := hc
        rw [hcz, places_L0 hS (by omega) rfl]
        obtain ⟨o3, g1, g2⟩ := bindO k1
        rw [g1, Option.bind_some, g2, Option.bind_some, k2, Option.bind_some, Option.bind_some]
        have k3 : (if (if pl.all (isPlace s) = true then (0 : Int) else 1) = 0 then
            ((m_laurelref01_Together s (refG s) pl).bind fun t114 =>
            (m_laurelref01_Longest s t114).bind fun t115 =>
            if (!t115.r1) = true then
            (some (⟨(TurnR s p m).2, (FloodR s m).2, 6, (TurnR s p m).1, (FloodR s m).1.1, t115.r0.lo, t115.r0.hi, (FloodR s m).1.2⟩ : m_laurellaw01_TideStays_C2)) else
            (some (⟨(TurnR s p m).2, (FloodR s m).2, (if pl.all (isPlace s) = true then (0 : Int) else 1), (TurnR s p m).1, (FloodR s m).1.1, t115.r0.lo, t115.r0.hi, (FloodR s m).1.2⟩ : m_laurellaw01_TideStays_C2))) else
            (some (⟨(TurnR s p m).2, (FloodR s m).2, (if pl.all (isPlace s) = true then (0 : Int) else 1), (TurnR s p m).1, (FloodR s m).1.1, 0, 0, (FloodR s m).1.2⟩ : m_laurellaw01_TideStays_C2))) = some ⟨(TurnR s p m).2, (FloodR s m).2, (LongestR s pl).2, (TurnR s p m).1, (FloodR s m).1.1, (LongestR s pl).1.lo, (LongestR s pl).1.hi, (FloodR s m).1.2⟩ := by
          by_cases hpl : pl.all (isPlace s) = true
          · rw [if_pos hpl, if_pos rfl, together_eq hG hpl (by omega), Option.bind_some, reflongest_eq hG, Option.bind_some, longestR_good hG hpl]
            by_cases he : spansF s (allDry s pl) = []
            · rw [if_pos he, if_pos he]; rfl
            · rw [if_neg he, if_neg he]; rfl
          · have hpl' : pl.all (isPlace s) = false := by simpa using hpl
            rw [if_neg hpl, if_neg (by decide)]
            unfold LongestR
            rw [if_neg (show ¬ (check s ≠ 0) by rw [hc]; simp), if_pos hpl']
        rw [k3, Option.bind_some, Option.bind_some, Option.bind_some, Option.bind_some]
        dsimp only
        rw [if_pos rfl, if_pos rfl, if_pos rfl, if_pos rfl, if_pos rfl, eq_int _ hfl, Option.bind_some, if_pos rfl, if_pos rfl, same_eq hS, Option.bind_some, if_pos rfl, eq_int pl (by omega), Option.bind_some, if_pos rfl, x_awake_eq, Option.bind_some, Option.bind_some]
      · rw [if_neg hc, Option.bind_some, Option.bind_some, Option.bind_some, Option.bind_some]
        have e1 : TurnR s p m = (0, check s) := by
          have hE : spansE s p 0 = check s := by unfold spansE; rw [if_pos hc]
          unfold TurnR
          rw [hE, if_pos hc]
        have e2 : FloodR s m = ((0, []), check s) := by unfold FloodR; rw [if_pos hc]
        have e3 : LongestR s pl = (⟨0, 0⟩, check s) := by unfold LongestR; rw [if_pos hc]
        rw [e1, e2, e3]
        dsimp only
        rw [if_pos rfl, if_pos rfl, if_pos rfl, if_pos rfl, if_pos rfl, eq_int [] (by simp), Option.bind_some, if_pos rfl, if_pos rfl, same_eq hS, Option.bind_some, if_pos rfl, eq_int pl (by omega), Option.bind_some, if_pos rfl, x_awake_eq, Option.bind_some, Option.bind_some]
end Go.Proofs.Wk

namespace Go.Gx
open Go Go.Fw Go.RowKit
/-! ### arguments, as they come in -/
section
variable {H : Type} {enc : TypeId × Value → H} {P : Program} {w : World} {base : Nat} {sp : Nat → Bool} {held : Bool}
/-- what of this type comes in is, cell by cell, a value of this row -/
def Opens (enc : TypeId × Value → H) (P : Program) (w : World) (base : Nat) (sp : Nat → Bool) (held : Bool) {α : Type} (R : Row α) (wf : α → Prop) (t : TypeId) : Prop :=
  ∀ fuel cs x, DataW.trod enc P w base sp held fuel t cs = some x → ∃ a, cs = R.cells a ∧ wf a
def i64P (n : Int) : Prop := -9223372036854775808 ≤ n ∧ n ≤ 9223372036854775807
theorem wf_i64P {n : Int} (h : (Lit.int .i64 n).wf = true) : i64P n := by
  simp [Lit.wf, IntKind.min, IntKind.max, IntKind.signed, IntKind.bits] at h
  unfold i64P; omega
theorem opens_i64 {t : TypeId} (ht : P.underlying t = some (.int .i64)) : Opens enc P w base sp held RI i64P t := fun fuel cs x h => by
  obtain ⟨n, rfl, _, hw⟩ := DataW.trod_int ht h
  exact ⟨n, rfl, wf_i64P hw⟩
/-- a field of a struct, by its cells -/
theorem fieldAt {fs : Array Field} {t : TypeId} {fuel : Nat} {cs : List Value} {x : DataW H × List MemPlace} (ht : P.underlying t = some (.struct fs)) (h : DataW.trod enc P w base sp held fuel t cs = some x) {α : Type} {R : Row α} {wf : α → Prop} (i : Nat) {T o k : Nat}
    (hf : (fs[i]?).map (fun fd => (fd.type, fd.offset)) = some (T, o)) (hk : P.cellsOf T = k) (hR : Opens enc P w base sp held R wf T) : ∃ a, (cs.drop o).take k = R.cells a ∧ wf a := by
  obtain ⟨xs, n, rfl, _, hlen, hxl, hx⟩ := DataW.trod_struct ht h
  obtain ⟨fd, hfd, he⟩ : ∃ fd, fs[i]? = some fd ∧ (fd.type, fd.offset) = (T, o) := by
    cases hh : fs[i]? with
    | none => simp [hh] at hf
    | some fd => exact ⟨fd, rfl, by simpa [hh] using hf⟩
  simp only [Prod.mk.injEq] at he
  obtain ⟨rfl, rfl⟩ := he
  have h1 := hx i fd hfd
  rw [hk] at h1
  have hi : i < xs.length := by rw [hxl]; exact (Array.getElem?_eq_some_iff.1 hfd).1
  rw [List.getElem?_eq_getElem hi] at h1
  exact hR _ _ _ h1
theorem structLen {fs : Array Field} {t : TypeId} {fuel : Nat} {cs : List Value} {x : DataW H × List MemPlace} (ht : P.underlying t = some (.struct fs)) (h : DataW.trod enc P w base sp held fuel t cs = some x) : cs.length = P.cellsOf t := by
  obtain ⟨xs, n, _, _, hlen, _⟩ := DataW.trod_struct ht h
  exact hlen
/-- a slice that came in -/
structure SlIn {α : Type} (R : Row α) (wf : α → Prop) (w : World) (v : Value) (A : Option Addr) (n c : Nat) (l : List α) : Prop where
  val : v = .slice A n c
  len : l.length = n
  ok : AOK n A
  le : n ≤ c
  max : c ≤ maxLen
  seg : segOK w (aB A, aO A, R.enc l)
  wf : ∀ x, x ∈ l → wf x
theorem choose_list {α : Type} {p : Nat → α → Prop} : ∀ (n : Nat), (∀ i, i < n → ∃ a, p i a) → ∃ l : List α, l.length = n ∧ ∀ i (h : i < l.length), p i l[i]
  | 0, _ => ⟨[], rfl, fun i h => by simp at h⟩
  | n + 1, h => by
    obtain ⟨l, hl, hp⟩ := choose_list n (fun i hi => h i (by omega))
    obtain ⟨a, ha⟩ := h n (by omega)
    refine ⟨l ++ [a], by simp [hl], fun i hi => ?_⟩
    by_cases hil : i < l.length
    · rw [List.getElem_append_left hil]; exact hp i hil
    · have : i = l.length := by simp at hi; omega
      subst this
      rw [List.getElem_append_right (by omega)]
      simp only [Nat.sub_self, List.getElem_cons_zero]
      rw [hl]; exact ha
theorem openSl {α : Type} {R : Row α} {wf : α → Prop} {t e : TypeId} (ht : P.underlying t = some (.slice e)) (hc : P.cellsOf e = R.sz) (hR : Opens enc P w base sp held R wf e) (h0 : Nat.blt 0 R.sz = true)
    {fuel : Nat} {cs : List Value} {x : DataW H × List MemPlace} (h : DataW.trod enc P w base sp held fuel t cs = some x) : ∃ (v : Value) (A : Option Addr) (n c : Nat) (l : List α), cs = [v] ∧ SlIn R wf w v A n c l := by
  have hsz : 0 < R.sz := by simpa using h0
  rcases Go.Deep.open_slice ht h with ⟨rfl, _⟩ | ⟨a, len, cap, m, n, D, Pl, rfl, hb, hl, hm, hmm, _, hi⟩
  · exact ⟨_, none, 0, 0, [], rfl, rfl, rfl, AOK.nil, Nat.le_refl _, Nat.zero_le _, segOK.nil, by simp⟩
  · have hlm : len ≤ m := by rw [hmm]; split <;> omega
    have hcell : ∀ i, i < len → ∃ x : α, (∀ f (hf : f < (R.cells x).length), w.cell? (a.add (i * R.sz + f)) = some (R.cells x)[f]) ∧ wf x := fun i hil => by
      obtain ⟨cs', h1, h2⟩ := hi i (by omega)
      obtain ⟨x, rfl, hw⟩ := hR _ _ _ h2
      obtain ⟨_, _, hat⟩ := World.cells?_some h1
      refine ⟨x, fun f hf => ?_, hw⟩
      have := hat f (by rw [hc, ← R.len x]; exact hf)
      rw [hc] at this
      rw [List.getElem?_eq_getElem hf] at this
      have e : (a.add (i * R.sz)).add f = a.add (i * R.sz + f) := by
        unfold Addr.add
        by_cases h1 : i * R.sz = 0
        · simp [h1]
        · by_cases h2 : f = 0
          · simp [h2]
          · simp [h1, h2, Nat.add_assoc]
      rw [e] at this
      exact this
    obtain ⟨l, hll, hlp⟩ := choose_list len hcell
    have hspot : 0 < len → a.spot = none := fun h0 => by
      obtain ⟨x, hx, _⟩ := hcell 0 h0
      have := World.cell?_spot (hx 0 (by rw [R.len]; exact hsz))
      simpa [Addr.add] using this
    refine ⟨_, some a, len, cap, l, rfl, rfl, hll, fun h0 => ?_, hl, hm, fun j hj => ?_, fun x hx => ?_⟩
    · obtain ⟨b, o, s⟩ := a
      have := hspot h0
      simp only at this
      subst this
      exact ⟨b, o, rfl⟩
    · have hj' : j < l.length * R.sz := by rw [← R.enc_len]; exact hj
      have hpos : 0 < len := by
        rcases Nat.eq_zero_or_pos len with h | h
        · rw [hll, h, Nat.zero_mul] at hj'; omega
        · exact h
      obtain ⟨b, o, s⟩ := a
      have hs := hspot hpos
      simp only at hs
      subst hs
      have hq : j / R.sz < l.length := Nat.div_lt_of_lt_mul (by rw [Nat.mul_comm]; exact hj')
      have hr : j % R.sz < R.sz := Nat.mod_lt _ hsz
      have hd : j / R.sz * R.sz + j % R.sz = j := by rw [Nat.mul_comm]; exact Nat.div_add_mod j R.sz
      have h1 := (hlp (j / R.sz) hq).1 (j % R.sz) (by rw [R.len]; exact hr)
      rw [hd] at h1
      have h2 := R.enc_get l (j / R.sz) (j % R.sz) l[j / R.sz] (List.getElem?_eq_getElem hq) hr
      rw [hd] at h2
      have h3 : (⟨b, o, none⟩ : Addr).add j = ⟨b, o + j, none⟩ := addr_add b o j
      rw [h3] at h1
      simp only [aB, aO, Option.map_some, Option.getD_some]
      rw [h1, ← List.getElem?_eq_getElem, ← h2, List.getElem?_eq_getElem hj]
    · obtain ⟨i, hi', rfl⟩ := List.getElem_of_mem hx
      exact (hlp i hi').2
theorem fieldSl {fs : Array Field} {t : TypeId} {fuel : Nat} {cs : List Value} {x : DataW H × List MemPlace} (ht : P.underlying t = some (.struct fs)) (h : DataW.trod enc P w base sp held fuel t cs = some x) {α : Type} {R : Row α} {wf : α → Prop} (i : Nat) {T o e : Nat}
    (hf : (fs[i]?).map (fun fd => (fd.type, fd.offset)) = some (T, o)) (hk : P.cellsOf T = 1) (hT : P.underlying T = some (.slice e)) (hc : P.cellsOf e = R.sz) (hR : Opens enc P w base sp held R wf e) (h0 : Nat.blt 0 R.sz = true) :
    ∃ (v : Value) (A : Option Addr) (n c : Nat) (l : List α), (cs.drop o).take 1 = [v] ∧ SlIn R wf w v A n c l := by
  obtain ⟨xs, m, rfl, _, hlen, hxl, hx⟩ := DataW.trod_struct ht h
  obtain ⟨fd, hfd, he⟩ : ∃ fd, fs[i]? = some fd ∧ (fd.type, fd.offset) = (T, o) := by
    cases hh : fs[i]? with
    | none => simp [hh] at hf
    | some fd => exact ⟨fd, rfl, by simpa [hh] using hf⟩
  simp only [Prod.mk.injEq] at he
  obtain ⟨rfl, rfl⟩ := he
  have h1 := hx i fd hfd
  rw [hk] at h1
  have hi : i < xs.length := by rw [hxl]; exact (Array.getElem?_eq_some_iff.1 hfd).1
  rw [List.getElem?_eq_getElem hi] at h1
  exact openSl hT hc hR h0 h1
theorem HV.begin {ro : List Sg} (h : ∀ s, s ∈ ro → segOK w s) : HV w (keys [] []) [] [] ro w :=
  ⟨rfl, rfl, rfl, Nat.le_refl _, fun _ _ _ => rfl, by simp [vbl], by simp [vbl], by simp [vbl], h, by simp [vbl]⟩
theorem segCons {s : Sg} {ro : List Sg} (h : segOK w s) (hr : ∀ t, t ∈ ro → segOK w t) : ∀ t, t ∈ s :: ro → segOK w t := fun t ht => by
  rcases List.mem_cons.1 ht with rfl | ht
  · exact h
  · exact hr t ht
theorem segNil : ∀ t, t ∈ ([] : List Sg) → segOK w t := fun t ht => by cases ht
theorem HV.below {w' : World} (h : HV w (keys [] []) [] [] [] w') : Below w.heap.size w w' := by
  have : Ext [] w w' := HS.toExt h
  exact this.below
end
end Go.Gx

namespace Go.Proofs.Wk
open Go Go.Fw Go.Gx Go.Pl Go.RowKit
section
variable {H : Type} {enc : TypeId × Value → H} {w : World} {base : Nat} {sp : Nat → Bool} {held : Bool}
theorem list2 {α : Type} {cs : List α} {a b : α} (hl : cs.length = 2) (h0 : (cs.drop 0).take 1 = [a]) (h1 : (cs.drop 1).take 1 = [b]) : cs = [a, b] := by
  match cs, hl with
  | [x, y], _ => simp at h0 h1; simp [h0, h1]
theorem list3 {α : Type} {cs : List α} {a b c : α} (hl : cs.length = 3) (h0 : (cs.drop 0).take 1 = [a]) (h1 : (cs.drop 1).take 1 = [b]) (h2 : (cs.drop 2).take 1 = [c]) : cs = [a, b, c] := by
  match cs, hl with
  | [x, y, z], _ => simp at h0 h1 h2; simp [h0, h1, h2]
theorem list5 {α : Type} {cs : List α} {a b c d e : α} (hl : cs.length = 5) (h0 : (cs.drop 0).take 1 = [a]) (h1 : (cs.drop 1).take 2 = [b, c]) (h2 : (cs.drop 3).take 1 = [d]) (h3 : (cs.drop 4).take 1 = [e]) : cs = [a, b, c, d, e] := by
  match cs, hl with
  | [x, y, z, u, v], _ => simp at h0 h1 h2 h3; simp [h0, h1, h2, h3]
theorem opI : Opens enc Try.prog w base sp held RI i64P 3 := opens_i64 Try.underlying3
set_option maxRecDepth 100000 in
theorem opWater : Opens enc Try.prog w base sp held RW (fun x => i64P x.min ∧ i64P x.h) 68 := fun fuel cs x h => by
  obtain ⟨a, ha, wa⟩ := fieldAt Try.underlying68 h 0 (T := 3) (o := 0) (k := 1) rfl (by kernel_rfl) opI
  obtain ⟨b, hb, wb⟩ := fieldAt Try.underlying68 h 1 (T := 3) (o := 1) (k := 1) rfl (by kernel_rfl) opI
  have hl := structLen Try.underlying68 h
  rw [show Try.prog.cellsOf 68 = 2 by kernel_rfl] at hl
  exact ⟨⟨a, b⟩, list2 hl ha hb, wa, wb⟩
set_option maxRecDepth 100000 in
theorem opSill : Opens enc Try.prog w base sp held RS (fun x => i64P x.a ∧ i64P x.b ∧ i64P x.h) 51 := fun fuel cs x h => by
  obtain ⟨a, ha, wa⟩ := fieldAt Try.underlying51 h 0 (T := 3) (o := 0) (k := 1) rfl (by kernel_rfl) opI
  obtain ⟨b, hb, wb⟩ := fieldAt Try.underlying51 h 1 (T := 3) (o := 1) (k := 1) rfl (by kernel_rfl) opI
  obtain ⟨c, hc, wc⟩ := fieldAt Try.underlying51 h 2 (T := 3) (o := 2) (k := 1) rfl (by kernel_rfl) opI
  have hl := structLen Try.underlying51 h
  rw [show Try.prog.cellsOf 51 = 3 by kernel_rfl] at hl
  exact ⟨⟨a, b, c⟩, list3 hl ha hb hc, wa, wb, wc⟩
set_option maxRecDepth 100000 in
theorem opSpan : Opens enc Try.prog w base sp held RP (fun x => i64P x.lo ∧ i64P x.hi) 25 := fun fuel cs x h => by
  obtain ⟨a, ha, wa⟩ := fieldAt Try.underlying25 h 0 (T := 3) (o := 0) (k := 1) rfl (by kernel_rfl) opI
  obtain ⟨b, hb, wb⟩ := fieldAt Try.underlying25 h 1 (T := 3) (o := 1) (k := 1) rfl (by kernel_rfl) opI
  have hl := structLen Try.underlying25 h
  rw [show Try.prog.cellsOf 25 = 2 by kernel_rfl] at hl
  exact ⟨⟨a, b⟩, list2 hl ha hb, wa, wb⟩
/-- numbers that are numbers of the machine -/
structure WfS (s : Sands) : Prop where
  t : ∀ x, x ∈ s.table → i64P x.min ∧ i64P x.h
  lo : i64P s.wind.lo
  hi : i64P s.wind.hi
  f : ∀ x, x ∈ s.floors → i64P x
  s : ∀ x, x ∈ s.sills → i64P x.a ∧ i64P x.b ∧ i64P x.h
set_option maxRecDepth 100000 in
theorem opSands {fuel : Nat} {cs : List Value} {x : DataW H × List MemPlace} (h : DataW.trod enc Try.prog w base sp held fuel 29 cs = some x) :
    ∃ (s : Sands) (A1 A2 A3 : Option Addr) (n1 c1 n2 c2 n3 c3 : Nat) (v1 v2 v3 : Value), cs = [.slice A1 n1 c1, .int .i64 s.wind.lo, .int .i64 s.wind.hi, .slice A2 n2 c2, .slice A3 n3 c3] ∧
      SlIn RW (fun x => i64P x.min ∧ i64P x.h) w v1 A1 n1 c1 s.table ∧ SlIn RI i64P w v2 A2 n2 c2 s.floors ∧ SlIn RS (fun x => i64P x.a ∧ i64P x.b ∧ i64P x.h) w v3 A3 n3 c3 s.sills ∧ WfS s := by
  obtain ⟨v1, A1, n1, c1, l1, e1, h1⟩ := fieldSl Try.underlying29 h 0 (T := 23) (o := 0) (e := 68) rfl (by kernel_rfl) Try.underlying23 (by kernel_rfl) opWater rfl
  obtain ⟨p, ep, wp⟩ := fieldAt Try.underlying29 h 1 (T := 25) (o := 1) (k := 2) rfl (by kernel_rfl) opSpan
  obtain ⟨v2, A2, n2, c2, l2, e2, h2⟩ := fieldSl Try.underlying29 h 2 (T := 26) (o := 3) (e := 3) rfl (by kernel_rfl) Try.underlying26 (by kernel_rfl) opI rfl
  obtain ⟨v3, A3, n3, c3, l3, e3, h3⟩ := fieldSl Try.underlying29 h 3 (T := 27) (o := 4) (e := 51) rfl (by kernel_rfl) Try.underlying27 (by kernel_rfl) opSill rfl
  have hl := structLen Try.underlying29 h
  rw [show Try.prog.cellsOf 29 = 5 by kernel_rfl] at hl
  have hv1 := h1.val
  have hv2 := h2.val
  have hv3 := h3.val
  subst hv1 hv2 hv3
  exact ⟨⟨l1, p, l2, l3⟩, A1, A2, A3, n1, c1, n2, c2, n3, c3, _, _, _, list5 hl e1 ep e2 e3, h1, h2, h3, h1.wf, wp.1, wp.2, h2.wf, h3.wf⟩
end
end Go.Proofs.Wk
namespace Go.Proofs.Wk
open Go Go.Gx
end Go.Proofs.Wk

