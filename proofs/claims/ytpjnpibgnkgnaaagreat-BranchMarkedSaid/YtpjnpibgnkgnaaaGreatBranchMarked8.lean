/- What the functions that the law BranchMarked reaches come to, and why it holds: part 8. -/
import Derived.Test.YtpjnpibgnkgnaaaGreatBranchMarked7
namespace Go.Proofs.Wb
set_option maxHeartbeats 4000000
set_option maxRecDepth 100000
open Go Go.Fw Go.Gx Go.Sb
open Tryz
set_option linter.unusedVariables false

def KH (l0 : (List Int)) (a11_cells : Int) (a11_tides : Int) (a11_fords : (List Int)) (a11_sands : (List Sand)) (a11_sights : (List Sight)) : Option Bool :=
 (if (l0.length : Int) = (a11_fords.length : Int) then
 ((Ji l0).bind fun t12 =>
 if t12 = true then
 ((yY l0 (⟨a11_cells, a11_tides, a11_fords, a11_sands, a11_sights⟩ : Channel)).bind fun t18 =>
 some t18) else
 (some false)) else
 (some false)).bind fun o =>
 some o
theorem Z5 (l0 : (List Int)) (a11_cells : Int) (a11_tides : Int) (a11_fords : (List Int)) (a11_sands : (List Sand)) (a11_sights : (List Sight)) (qa0 : Option Addr) (na0 ca0 : Nat) (rb : Nat) (qa2 : Option Addr) (na2 ca2 : Nat) (qa3 : Option Addr) (na3 ca3 : Nat) (qa4 : Option Addr) (na4 ca4 : Nat) (w : World) (hw : HV w (keys [] []) [] [] [(aB qa0, aO qa0, RI.enc l0), (rb, 0, [.int .i64 a11_cells, .int .i64 a11_tides, .slice qa2 na2 ca2, .slice qa3 na3 ca3, .slice qa4 na4 ca4]), (aB qa2, aO qa2, RI.enc a11_fords), (aB qa3, aO qa3, RSa.enc a11_sands), (aB qa4, aO qa4, RSi.enc a11_sights)] w) (hna0 : l0.length = na0) (hqa0 : AOK na0 qa0) (hla0 : na0 ≤ ca0)  (hna2 : a11_fords.length = na2) (hqa2 : AOK na2 qa2) (hla2 : na2 ≤ ca2) (hna3 : a11_sands.length = na3) (hqa3 : AOK na3 qa3) (hla3 : na3 ≤ ca3) (hna4 : a11_sights.length = na4) (hqa4 : AOK na4 qa4) (hla4 : na4 ≤ ca4) {res : Bool} (hm : KH l0 a11_cells a11_tides a11_fords a11_sands a11_sights = some res) :
    Calls Tryz.prog 141 #[.slice qa0 na0 ca0, ptr rb 0] w (fun en w' => ∃ l : Unit, en = .returned (.bool res) ∧ (True) ∧ HV w (keys [] []) [] [] [] w') := by
  unfold KH at hm
  refine yk func141 Y ntmps141 Y (e := [(0, _), (1, _)]) Y hw (jr (jo Y Y (jq (ji ?_))))
  obtain ⟨o, h1, h2⟩ := bindO hm
  refine jR (ι := Unit) (fun l => True) (fun l => [(3, .bool o)]) (fun l => []) (fun l => []) ?_ ?_
  ·replace hm := h1
   refine jh (jg Y Y (jc Y Y Y (fun w _ => kw hna0 (runUnderlying22 w) Y) (yp 2 runUnderlying26 Y sizeOf22 Y Y (jc Y Y Y (fun w hh => jD (isAgg22 w) Y (segCell (hh.seg 1 Y) 2 Y)) (jc Y Y Y (fun w _ => kw hna2 (runUnderlying22 w) Y) (jc Y Y Y (fun _ _ => zS Y Y) (jg Y Y ?_)))))))
   refine jH 10 Y (fun h3 => ?_) (fun h3 => ?_)
   ·replace hm := ifD h3 hm
    refine ja Y Y (jg Y Y (ja Y Y ?_))
    obtain ⟨t12, h4, hm⟩ := bindO hm
    refine jd [] [] Y Y Y Y Y Y Y call138 (fun w hh => YH l0 qa0 na0 ca0 w (HV.callee (S0 := []) (vs0 := []) hh (roR hh 0 Y roN)) hna0 hqa0 hla0 h4) (fun l_1 h5 => ?_)
    refine qY Y Y Y (jg Y Y ?_)
    refine jH 14 Y (fun h6 => ?_) (fun h6 => ?_)
    ·replace hm := ifT (h6) hm
     refine ja Y Y (jg Y Y (ja Y Y (jc Y Y Y (fun w hh => jP (vs := [_, _, _, _, _]) (isAgg26 w) (sizeOf26 w) Y (segCells (hh.seg 1 Y) 0 Y)) (ja Y Y (jc Y Y Y (fun _ _ => jZ (u := #[_]) (u' := #[]) Y Y) (ja Y Y ?_))))))
     obtain ⟨t18, h7, hm⟩ := bindO hm
     refine jd [] [] Y Y Y Y Y Y Y call119 (fun w hh => QU l0 (⟨a11_cells, a11_tides, a11_fords, a11_sands, a11_sights⟩ : Channel) qa0 na0 ca0 qa2 na2 ca2 qa3 na3 ca3 qa4 na4 ca4 w (HV.callee (S0 := []) (vs0 := []) hh (roR hh 0 Y (roR hh 2 Y (roR hh 3 Y (roR hh 4 Y roN))))) hna0 hqa0 hla0 hna2 hqa2 hla2 hna3 hqa3 hla3 hna4 hqa4 hla4 h7) (fun l_2 h8 => ?_)
     refine qY Y Y Y (jo Y Y (js ?_))
     obtain rfl := sj hm
     exact jj () (trivial) (sE Y) (fun w hh => hh)
    replace hm := ifN h6 hm
    refine g_k Y Y Y Y (g_k Y Y Y Y (g_k Y Y Y Y (g_k Y Y Y Y (q6 Y Y Y (jo Y Y (js ?_))))))
    obtain rfl := sj hm
    exact jj () (trivial) (sE Y) (fun w hh => hh)
   replace hm := ifE h3 hm
   refine g_k Y Y Y Y (g_k Y Y Y Y (q6 Y Y Y (jg Y Y (g_k Y Y Y Y (g_k Y Y Y Y (g_k Y Y Y Y (g_k Y Y Y Y ?_)))))))
   refine q6 Y Y Y (jo Y Y (js ?_))
   obtain rfl := sj hm
   exact jj () (trivial) (sE Y) (fun w hh => hh)
  intro l hj
  replace hm := h2
  refine jb (jx ?_)
  obtain rfl := sj hm
  refine jn Y (fun w hh => (.tmp Y .nil)) (fun w hh => ⟨(), rfl, trivial, hh.se [] [] 5 Y Y Y rfl⟩)
def yy (x0 : (List Int)) (a11_c0_cells : Int) (a11_c0_tides : Int) (a11_c0_fords : (List Int)) (a11_c0_sands : (List Sand)) (a11_c0_sights : (List Sight)) : Option Bool :=
 (KH x0 a11_c0_cells a11_c0_tides a11_c0_fords a11_c0_sands a11_c0_sights).bind fun t6 =>
 some (!t6)
theorem Yw (x0 : (List Int)) (a11_c0_cells : Int) (a11_c0_tides : Int) (a11_c0_fords : (List Int)) (a11_c0_sands : (List Sand)) (a11_c0_sights : (List Sight)) (qa0 : Option Addr) (na0 ca0 : Nat) (rb : Nat) (rb_1 : Nat) (qa3 : Option Addr) (na3 ca3 : Nat) (qa4 : Option Addr) (na4 ca4 : Nat) (qa5 : Option Addr) (na5 ca5 : Nat) (w : World) (hw : HV w (keys [] []) [] [] [(aB qa0, aO qa0, RI.enc x0), (rb, 0, [.func (.func 141) #[] #[ptr rb_1 0]]), (rb_1, 0, [.int .i64 a11_c0_cells, .int .i64 a11_c0_tides, .slice qa3 na3 ca3, .slice qa4 na4 ca4, .slice qa5 na5 ca5]), (aB qa3, aO qa3, RI.enc a11_c0_fords), (aB qa4, aO qa4, RSa.enc a11_c0_sands), (aB qa5, aO qa5, RSi.enc a11_c0_sights)] w) (hna0 : x0.length = na0) (hqa0 : AOK na0 qa0) (hla0 : na0 ≤ ca0)   (hna3 : a11_c0_fords.length = na3) (hqa3 : AOK na3 qa3) (hla3 : na3 ≤ ca3) (hna4 : a11_c0_sands.length = na4) (hqa4 : AOK na4 qa4) (hla4 : na4 ≤ ca4) (hna5 : a11_c0_sights.length = na5) (hqa5 : AOK na5 qa5) (hla5 : na5 ≤ ca5) {res : Bool} (hm : yy x0 a11_c0_cells a11_c0_tides a11_c0_fords a11_c0_sands a11_c0_sights = some res) :
    Calls Tryz.prog 179 #[.slice qa0 na0 ca0, ptr rb 0] w (fun en w' => ∃ l : Unit, en = .returned (.bool res) ∧ (True) ∧ HV w (keys [] []) [] [] [] w') := by
  unfold yy at hm
  refine yk func179 Y ntmps179 Y (e := [(0, _), (1, _)]) Y hw (jr (jo Y Y (kO (jc Y Y Y (fun w hh => jD (isAgg186 w) Y (segCell (hh.seg 1 Y) 0 Y)) (jg Y Y ?_)))))
  obtain ⟨t6, h1, hm⟩ := bindO hm
  refine jd [] [] Y Y Y Y Y Y Y call141 (fun w hh => Z5 x0 a11_c0_cells a11_c0_tides a11_c0_fords a11_c0_sands a11_c0_sights qa0 na0 ca0 rb_1 qa3 na3 ca3 qa4 na4 ca4 qa5 na5 ca5 w (HV.callee (S0 := []) (vs0 := []) hh (roR hh 0 Y (roR hh 2 Y (roR hh 3 Y (roR hh 4 Y (roR hh 5 Y roN)))))) hna0 hqa0 hla0 hna3 hqa3 hla3 hna4 hqa4 hla4 hna5 hqa5 hla5 h1) (fun l h2 => ?_)
  refine jc Y Y Y (fun _ _ => yF Y) (jo Y Y (jq (jx ?_)))
  obtain rfl := sj hm
  refine jn Y (fun w hh => (.tmp Y .nil)) (fun w hh => ⟨(), rfl, trivial, hh.se [] [] 6 Y Y Y rfl⟩)
def zM (s0 : (List (List Int))) (f1_c0_c0_cells : Int) (f1_c0_c0_tides : Int) (f1_c0_c0_fords : (List Int)) (f1_c0_c0_sands : (List Sand)) (f1_c0_c0_sights : (List Sight)) (s : Int) : Option (Int ⊕ (Unit ⊕ Int)) :=
 if s < (s0.length : Int) then
 ((ix s0 s).bind fun t14 =>
 (yy t14 f1_c0_c0_cells f1_c0_c0_tides f1_c0_c0_fords f1_c0_c0_sands f1_c0_c0_sights).bind fun t16 =>
 if t16 = true then
 (some (.inr (.inr s))) else
 ((addc s 1).bind fun t18 =>
 some (.inl t18))) else
 (some (.inr (.inl ())))
def zl (s0 : (List (List Int))) (f1_c0_c0_cells : Int) (f1_c0_c0_tides : Int) (f1_c0_c0_fords : (List Int)) (f1_c0_c0_sands : (List Sand)) (f1_c0_c0_sights : (List Sight)) : Option Int :=
 (iterM FU (zM s0 f1_c0_c0_cells f1_c0_c0_tides f1_c0_c0_fords f1_c0_c0_sands f1_c0_c0_sights) 0).bind fun o =>
 oc o (fun j => some (-1)) (fun r_1 => some r_1)
theorem Yl (s0 : (List (List Int))) (f1_c0_c0_cells : Int) (f1_c0_c0_tides : Int) (f1_c0_c0_fords : (List Int)) (f1_c0_c0_sands : (List Sand)) (f1_c0_c0_sights : (List Sight)) (qa0 : Option Addr) (na0 ca0 : Nat) (ar0 : List AL) (rb : Nat) (rb_1 : Nat) (qa3 : Option Addr) (na3 ca3 : Nat) (qa4 : Option Addr) (na4 ca4 : Nat) (qa5 : Option Addr) (na5 ca5 : Nat) (w : World) (hw : HV w (keys [] []) [] [] [(aB qa0, aO qa0, RwA.enc ar0), (rb, 0, [.func (.func 141) #[] #[ptr rb_1 0]]), (rb_1, 0, [.int .i64 f1_c0_c0_cells, .int .i64 f1_c0_c0_tides, .slice qa3 na3 ca3, .slice qa4 na4 ca4, .slice qa5 na5 ca5]), (aB qa3, aO qa3, RI.enc f1_c0_c0_fords), (aB qa4, aO qa4, RSa.enc f1_c0_c0_sands), (aB qa5, aO qa5, RSi.enc f1_c0_c0_sights)] w) (hna0 : s0.length = na0) (hqa0 : AOK na0 qa0) (hla0 : na0 ≤ ca0) (hda0 : DRO s0 ar0) (hTa0 : ∀ t, t ∈ rsg RI s0 ar0 → segOK w t ∧ (t.2.2 ≠ [] → t.1 ∉ keys [] []))   (hna3 : f1_c0_c0_fords.length = na3) (hqa3 : AOK na3 qa3) (hla3 : na3 ≤ ca3) (hna4 : f1_c0_c0_sands.length = na4) (hqa4 : AOK na4 qa4) (hla4 : na4 ≤ ca4) (hna5 : f1_c0_c0_sights.length = na5) (hqa5 : AOK na5 qa5) (hla5 : na5 ≤ ca5) {res : Int} (hm : zl s0 f1_c0_c0_cells f1_c0_c0_tides f1_c0_c0_fords f1_c0_c0_sands f1_c0_c0_sights = some res) :
    Calls Tryz.prog 203 #[.slice qa0 na0 ca0, .func (.func 179) #[] #[ptr rb 0]] w (fun en w' => ∃ l : Unit, en = .returned (.int .i64 res) ∧ (True) ∧ HV w (keys [] []) [] [] [] w') := by
  unfold zl at hm
  refine yk func203 Y ntmps203 Y (e := [(0, _), (1, _)]) Y hw (jr (jo Y Y (jq (ji (jr (jg Y Y (jc Y Y Y (fun w _ => kw hna0 (runUnderlying41 w) Y) ?_)))))))
  refine jg Y Y (jq ?_)
  obtain ⟨o, h1, h2⟩ := bindO hm
  refine jR (ι := Unit) (fun j => o = .inl j) (fun j => []) (fun j => []) (fun j => []) ?_ ?_
  ·replace hm := h1
   refine jp ?_
   refine jV (ι := Unit) hm (fun s l => True) (fun s l => [(0, .slice qa0 na0 ca0), (1, .func (.func 179) #[] #[ptr rb 0]), (7, .int .i64 (s0.length : Int)), (8, .int .i64 s)]) (fun s l => []) (fun s l => []) () (trivial) (sE Y) (fun w hh => hh) (fun s l r hpl hm h3 => ?_)
   unfold zM at hm
   refine jr (J6 Y Y Y (jq (ji ?_)))
   refine ju Y (fun h4 => ?_) (fun h4 => ?_)
   ·replace hm := ifD h4 hm
    refine jt (jb (ji (jp (jr (jg Y Y (jo Y Y (kO ?_)))))))
    refine jg Y Y (jg Y Y (jg Y Y ?_))
    obtain ⟨t14, h5, hm⟩ := bindO hm
    obtain ⟨A, h6, h7, h8, h9⟩ := (hda0).row h5
    refine jc Y Y Y (fun w _ => yX h6 (runUnderlying41 w) (sizeOf22 w) Y Y (Eq.trans (hda0).len.symm hna0) hqa0) (jc Y Y Y (fun w hh => k7 RwA 0 h6 (isAgg22 w) Y (hh.seg 0 Y) Y (Nat.add_zero _).symm) ?_)
    obtain ⟨t16, h10, hm⟩ := bindO hm
    refine jd [] [] Y Y Y Y Y Y Y call179 (fun w hh => Yw t14 f1_c0_c0_cells f1_c0_c0_tides f1_c0_c0_fords f1_c0_c0_sands f1_c0_c0_sights A.a A.n A.cap rb rb_1 qa3 na3 ca3 qa4 na4 ca4 qa5 na5 ca5 w (HV.callee (S0 := []) (vs0 := []) hh (roC (hh.oldsep (S0 := []) (vs0 := []) (hTa0 _ (rsg_ix h5 h6))) (roR hh 1 Y (roR hh 2 Y (roR hh 3 Y (roR hh 4 Y (roR hh 5 Y roN))))))) h7 h8 h9 hna3 hqa3 hla3 hna4 hqa4 hla4 hna5 hqa5 hla5 h10) (fun l_1 h11 => ?_)
    refine jq ?_
    refine ju Y (fun h12 => ?_) (fun h12 => ?_)
    ·replace hm := ifT (h12) hm
     refine jr (jg Y Y (jo Y Y (jq (jx (jz (je (je ?_)))))))
     refine jz ?_
     obtain rfl := sj hm
     have hbo := h3 _ Y
     subst hbo
     refine je ?_
     replace hm := ocR h2
     refine je ?_
     obtain rfl := sj hm
     refine jn Y (fun w hh => (.tmp Y .nil)) (fun w hh => ⟨(), rfl, trivial, hh.se [] [] 6 Y Y Y rfl⟩)
    replace hm := ifN h12 hm
    refine jt (jw (jb (jh ?_)))
    obtain ⟨t18, h13, hm⟩ := bindO hm
    refine Ke h13 Y Y Y (jg Y Y (js ?_))
    obtain rfl := sj hm
    refine jb ?_
    exact jG _ () Y (trivial) (sE Y) (fun w hh => hh)
   replace hm := ifE h4 hm
   refine j8 (jk (jk (jI ?_)))
   obtain rfl := sj hm
   have hbo := h3 _ Y
   subst hbo
   exact jj () (Y) (.nil) (fun w hh => hh)
  intro j hj
  have h14 := hj
  subst h14
  replace hm := ocL h2
  refine jb (jr (jo Y Y (jq (jx ?_))))
  obtain rfl := sj hm
  refine jn Y (fun w hh => (.tmp Y .nil)) (fun w hh => ⟨(), rfl, trivial, hh.se [] [] 6 Y Y Y rfl⟩)
def yq (s0 : (List (List Int))) (f1_c0_c0_cells : Int) (f1_c0_c0_tides : Int) (f1_c0_c0_fords : (List Int)) (f1_c0_c0_sands : (List Sand)) (f1_c0_c0_sights : (List Sight)) : Option Bool :=
 (zl s0 f1_c0_c0_cells f1_c0_c0_tides f1_c0_c0_fords f1_c0_c0_sands f1_c0_c0_sights).bind fun t7 =>
 some (decide (0 ≤ t7))
theorem QH (s0 : (List (List Int))) (f1_c0_c0_cells : Int) (f1_c0_c0_tides : Int) (f1_c0_c0_fords : (List Int)) (f1_c0_c0_sands : (List Sand)) (f1_c0_c0_sights : (List Sight)) (qa0 : Option Addr) (na0 ca0 : Nat) (ar0 : List AL) (rb : Nat) (rb_1 : Nat) (qa3 : Option Addr) (na3 ca3 : Nat) (qa4 : Option Addr) (na4 ca4 : Nat) (qa5 : Option Addr) (na5 ca5 : Nat) (w : World) (hw : HV w (keys [] []) [] [] [(aB qa0, aO qa0, RwA.enc ar0), (rb, 0, [.func (.func 141) #[] #[ptr rb_1 0]]), (rb_1, 0, [.int .i64 f1_c0_c0_cells, .int .i64 f1_c0_c0_tides, .slice qa3 na3 ca3, .slice qa4 na4 ca4, .slice qa5 na5 ca5]), (aB qa3, aO qa3, RI.enc f1_c0_c0_fords), (aB qa4, aO qa4, RSa.enc f1_c0_c0_sands), (aB qa5, aO qa5, RSi.enc f1_c0_c0_sights)] w) (hna0 : s0.length = na0) (hqa0 : AOK na0 qa0) (hla0 : na0 ≤ ca0) (hda0 : DRO s0 ar0) (hTa0 : ∀ t, t ∈ rsg RI s0 ar0 → segOK w t ∧ (t.2.2 ≠ [] → t.1 ∉ keys [] []))   (hna3 : f1_c0_c0_fords.length = na3) (hqa3 : AOK na3 qa3) (hla3 : na3 ≤ ca3) (hna4 : f1_c0_c0_sands.length = na4) (hqa4 : AOK na4 qa4) (hla4 : na4 ≤ ca4) (hna5 : f1_c0_c0_sights.length = na5) (hqa5 : AOK na5 qa5) (hla5 : na5 ≤ ca5) {res : Bool} (hm : yq s0 f1_c0_c0_cells f1_c0_c0_tides f1_c0_c0_fords f1_c0_c0_sands f1_c0_c0_sights = some res) :
    Calls Tryz.prog 178 #[.slice qa0 na0 ca0, .func (.func 179) #[] #[ptr rb 0]] w (fun en w' => ∃ l : Unit, en = .returned (.bool res) ∧ (True) ∧ HV w (keys [] []) [] [] [] w') := by
  unfold yq at hm
  refine yk func178 Y ntmps178 Y (e := [(0, _), (1, _)]) Y hw (jr (jo Y Y (kO (jg Y Y (jg Y Y ?_)))))
  obtain ⟨t7, h1, hm⟩ := bindO hm
  refine jd [] [] Y Y Y Y Y Y Y call203 (fun w hh => Yl s0 f1_c0_c0_cells f1_c0_c0_tides f1_c0_c0_fords f1_c0_c0_sands f1_c0_c0_sights qa0 na0 ca0 ar0 rb rb_1 qa3 na3 ca3 qa4 na4 ca4 qa5 na5 ca5 w (HV.callee (S0 := []) (vs0 := []) hh (roR hh 0 Y (roR hh 1 Y (roR hh 2 Y (roR hh 3 Y (roR hh 4 Y (roR hh 5 Y roN))))))) hna0 hqa0 hla0 hda0 (hh.oldT (S0 := []) (vs0 := []) hTa0) hna3 hqa3 hla3 hna4 hqa4 hla4 hna5 hqa5 hla5 h1) (fun l h2 => ?_)
  refine jc Y Y Y (fun _ _ => Zf Y Y) (jo Y Y (jq (jx ?_)))
  obtain rfl := sj hm
  refine jn Y (fun w hh => (.tmp Y .nil)) (fun w hh => ⟨(), rfl, trivial, hh.se [] [] 6 Y Y Y rfl⟩)
def zj (l0 : (List (List Int))) (holds1_c0_cells : Int) (holds1_c0_tides : Int) (holds1_c0_fords : (List Int)) (holds1_c0_sands : (List Sand)) (holds1_c0_sights : (List Sight)) : Option Bool :=
 (yq l0 holds1_c0_cells holds1_c0_tides holds1_c0_fords holds1_c0_sands holds1_c0_sights).bind fun t7 =>
 some (!t7)
theorem Y7 (l0 : (List (List Int))) (holds1_c0_cells : Int) (holds1_c0_tides : Int) (holds1_c0_fords : (List Int)) (holds1_c0_sands : (List Sand)) (holds1_c0_sights : (List Sight)) (qa0 : Option Addr) (na0 ca0 : Nat) (ar0 : List AL) (rb : Nat) (qa2 : Option Addr) (na2 ca2 : Nat) (qa3 : Option Addr) (na3 ca3 : Nat) (qa4 : Option Addr) (na4 ca4 : Nat) (w : World) (hw : HV w (keys [] []) [] [] [(aB qa0, aO qa0, RwA.enc ar0), (rb, 0, [.int .i64 holds1_c0_cells, .int .i64 holds1_c0_tides, .slice qa2 na2 ca2, .slice qa3 na3 ca3, .slice qa4 na4 ca4]), (aB qa2, aO qa2, RI.enc holds1_c0_fords), (aB qa3, aO qa3, RSa.enc holds1_c0_sands), (aB qa4, aO qa4, RSi.enc holds1_c0_sights)] w) (hna0 : l0.length = na0) (hqa0 : AOK na0 qa0) (hla0 : na0 ≤ ca0) (hda0 : DRO l0 ar0) (hTa0 : ∀ t, t ∈ rsg RI l0 ar0 → segOK w t ∧ (t.2.2 ≠ [] → t.1 ∉ keys [] []))  (hna2 : holds1_c0_fords.length = na2) (hqa2 : AOK na2 qa2) (hla2 : na2 ≤ ca2) (hna3 : holds1_c0_sands.length = na3) (hqa3 : AOK na3 qa3) (hla3 : na3 ≤ ca3) (hna4 : holds1_c0_sights.length = na4) (hqa4 : AOK na4 qa4) (hla4 : na4 ≤ ca4) {res : Bool} (hm : zj l0 holds1_c0_cells holds1_c0_tides holds1_c0_fords holds1_c0_sands holds1_c0_sights = some res) :
    Calls Tryz.prog 140 #[.slice qa0 na0 ca0, .func (.func 141) #[] #[ptr rb 0]] w (fun en w' => ∃ l : Unit, en = .returned (.bool res) ∧ (True) ∧ HV w (keys [] []) [] [] [] w') := by
  unfold zj at hm
  refine yk func140 Y ntmps140 Y (e := [(0, _), (1, _)]) Y hw (jr ?_)
  refine jK Y Y (fun b h1 => ?_)
  refine jo Y Y (kO (jg Y Y (jc Y Y Y (fun _ _ => jZ (u := #[]) (u' := #[_]) Y Y) ?_)))
  obtain ⟨t7, h2, hm⟩ := bindO hm
  refine jd [] [] Y Y Y Y Y Y Y call178 (fun w hh => QH l0 holds1_c0_cells holds1_c0_tides holds1_c0_fords holds1_c0_sands holds1_c0_sights qa0 na0 ca0 ar0 b rb qa2 na2 ca2 qa3 na3 ca3 qa4 na4 ca4 w (HV.callee (S0 := []) (vs0 := []) hh (roR hh 0 Y (roC (bsep (hh.bseg 0 Y)) (roR hh 1 Y (roR hh 2 Y (roR hh 3 Y (roR hh 4 Y roN))))))) hna0 hqa0 hla0 hda0 (hh.oldT (S0 := []) (vs0 := []) hTa0) hna2 hqa2 hla2 hna3 hqa3 hla3 hna4 hqa4 hla4 h2) (fun l h3 => ?_)
  refine jc Y Y Y (fun _ _ => yF Y) (jo Y Y (jq (jx ?_)))
  obtain rfl := sj hm
  refine jn Y (fun w hh => (.tmp Y .nil)) (fun w hh => ⟨(), rfl, trivial, hh.se [] [] 5 Y Y Y rfl⟩)
structure zD where
  r0 : Bool
  r1 : Int
structure Kt where
  now8_after : Int
  now8_at__c0 : Int
  now8_at__c1 : Int
  now8_at__c2 : Int
structure m_branch_Fits_S0 where
  t38 : Int
  now8_after : Int
  now8_at__c0 : Int
  now8_at__c1 : Int
  now8_at__c2 : Int
def Qf (t45 : Cells) (x : State) (s_1 : Bool) : Option Bool :=
 if s_1 = true then
 (some true) else
 (some (decide (x.at_ = t45)))
def Jx (course1 : (List (List Int))) (t16b : z6) (c0 : Channel) (s : m_branch_Fits_S0) : Option (m_branch_Fits_S0 ⊕ (Kt ⊕ zD)) :=
 if s.t38 < (course1.length : Int) then
 ((ix course1 s.t38).bind fun t41 =>
 (JT t41).bind fun t45 =>
 (if s.t38 = 0 then
 (some (decide ((⟨s.t38, t45⟩ : State) = (⟨s.now8_after, (⟨s.now8_at__c0, s.now8_at__c1, s.now8_at__c2⟩ : Cells)⟩ : State)))) else
 (some false)).bind fun o_2 =>
 (if 0 < s.t38 then
 ((jU t16b.t14_0 t16b.t14_1 c0.fords c0.sands c0.sights t16b.t14_5 (⟨s.now8_after, (⟨s.now8_at__c0, s.now8_at__c1, s.now8_at__c2⟩ : Cells)⟩ : State)).bind fun t58 =>
 if nextOK t16b.t14_0 t16b.t14_5 (c0.fords.length : Int) t58 then ((iterL (Qf t45) (nextL t16b.t14_0 t16b.t14_5 (c0.fords.length : Int) t58) o_2).bind fun o_4 =>
 some o_4) else none) else
 (some o_2)).bind fun o_3 =>
 (if (!o_3) = true then
 (some true) else
 ((zR).bind fun t73 =>
 (qw t16b.t14_0 t16b.t14_1 c0.fords c0.sands c0.sights t16b.t14_5 (⟨s.t38, t45⟩ : State)).bind fun t75 =>
 some (!t75))).bind fun o_5 =>
 if o_5 = true then
 (some (.inr (.inr (⟨false, 0⟩ : zD)))) else
 ((addc s.t38 1).bind fun t78 =>
 some (.inl (⟨t78, s.t38, t45.c0, t45.c1, t45.c2⟩ : m_branch_Fits_S0)))) else
 (some (.inr (.inl (⟨s.now8_after, s.now8_at__c0, s.now8_at__c1, s.now8_at__c2⟩ : Kt))))
def zY (c0 : Channel) (course1 : (List (List Int))) : Option zD :=
 (yb c0).bind fun t16 =>
 oc t16 (fun t16a => some (⟨false, t16a⟩ : zD)) (fun t16b => ((addc c0.tides 1).bind fun t26 =>
 if (course1.length : Int) = t26 then
 ((zj course1 c0.cells c0.tides c0.fords c0.sands c0.sights).bind fun t31 =>
 some (!t31)) else
 (some true)).bind fun o =>
 if o = true then
 (some (⟨false, 0⟩ : zD)) else
 ((jJ t16b.t14_0 t16b.t14_1 c0.fords c0.sands c0.sights t16b.t14_5).bind fun t35 =>
 (iterM FU (Jx course1 t16b c0) (⟨0, t35.after, t35.at_.c0, t35.at_.c1, t35.at_.c2⟩ : m_branch_Fits_S0)).bind fun o_1 =>
 oc o_1 (fun j_1 => some (⟨true, 0⟩ : zD)) (fun r_2 => some r_2)))
theorem Zr (c0 : Channel) (course1 : (List (List Int))) (qa0 : Option Addr) (na0 ca0 : Nat) (qa1 : Option Addr) (na1 ca1 : Nat) (qa2 : Option Addr) (na2 ca2 : Nat) (qa3 : Option Addr) (na3 ca3 : Nat) (ar3 : List AL) (w : World) (hw : HV w (keys [] []) [] [] [(aB qa0, aO qa0, RI.enc c0.fords), (aB qa1, aO qa1, RSa.enc c0.sands), (aB qa2, aO qa2, RSi.enc c0.sights), (aB qa3, aO qa3, RwA.enc ar3)] w) (hna0 : c0.fords.length = na0) (hqa0 : AOK na0 qa0) (hla0 : na0 ≤ ca0) (hna1 : c0.sands.length = na1) (hqa1 : AOK na1 qa1) (hla1 : na1 ≤ ca1) (hna2 : c0.sights.length = na2) (hqa2 : AOK na2 qa2) (hla2 : na2 ≤ ca2) (hna3 : course1.length = na3) (hqa3 : AOK na3 qa3) (hla3 : na3 ≤ ca3) (hda3 : DRO course1 ar3) (hTa3 : ∀ t, t ∈ rsg RI course1 ar3 → segOK w t ∧ (t.2.2 ≠ [] → t.1 ∉ keys [] [])) {res : zD} (hm : zY c0 course1 = some res) :
    Calls Tryz.prog 56 #[.agg #[.int .i64 c0.cells, .int .i64 c0.tides, .slice qa0 na0 ca0, .slice qa1 na1 ca1, .slice qa2 na2 ca2], .slice qa3 na3 ca3] w (fun en w' => ∃ l : Unit, en = .returned (.tuple #[.bool res.r0, .int .i64 res.r1]) ∧ (True) ∧ HV w (keys [] []) [] [] [] w') := by
  unfold zY at hm
  refine YX (args := [.agg #[.int .i64 c0.cells, .int .i64 c0.tides, .slice qa0 na0 ca0, .slice qa1 na1 ca1, .slice qa2 na2 ca2], .slice qa3 na3 ca3]) func56 Y ntmps56 Y (e := [(0, _), (1, _)]) Y (H := HV w (keys [] []) [] [] [(aB qa0, aO qa0, RI.enc c0.fords), (aB qa1, aO qa1, RSa.enc c0.sands), (aB qa2, aO qa2, RSi.enc c0.sights), (aB qa3, aO qa3, RwA.enc ar3)]) hw ?_
  refine Q4 (jr ?_)
  refine jK Y Y (fun b h1 => ?_)
  refine jo Y Y (jo Y Y (kO (z8 [_, _, _, _, _] 0 isAgg26 sizeOf26 Y Y Y Y ?_)))
  obtain ⟨t16, h2, hm⟩ := bindO hm
  rcases t16 with t16a | t16b
  ·replace hm := ocL hm
   refine jd [] [] Y Y Y Y Y Y Y call93 (fun w hh => qH c0 qa0 na0 ca0 qa1 na1 ca1 qa2 na2 ca2 w (HV.callee (S0 := []) (vs0 := []) hh (roR hh 0 Y (roR hh 1 Y (roR hh 2 Y roN)))) hna0 hqa0 hla0 hna1 hqa1 hla1 hna2 hqa2 hla2 h2) (fun l h3 => ?_)
   have h4 := h3
   refine jg Y Y (yW Y Y Y (yW Y Y Y (jo Y Y (jo Y Y (jq (ji (jr ?_)))))))
   refine jg Y Y (jc Y Y Y (fun _ _ => Zh h4 Y Y) (jq (Kd Y Y (jr (jg Y Y (jo Y Y (jo Y Y ?_)))))))
   refine jq (jx (je ?_))
   obtain rfl := sj hm
   refine JI Y Y Y (fun w hh => (.tmp Y (.tmp Y .nil))) (fun w hh => ⟨(), rfl, trivial, hh.se [] [] 4 Y Y Y rfl⟩)
  replace hm := ocR hm
  refine jd [] [] Y Y Y Y Y Y Y call93 (fun w hh => qH c0 qa0 na0 ca0 qa1 na1 ca1 qa2 na2 ca2 w (HV.callee (S0 := []) (vs0 := []) hh (roR hh 0 Y (roR hh 1 Y (roR hh 2 Y roN)))) hna0 hqa0 hla0 hna1 hqa1 hla1 hna2 hqa2 hla2 h2) (fun l_1 h5 => ?_)
  have h6 := h5
  refine kQ (S' := [_, _]) (vs' := [_, _]) [0, 1] [0, 1] 0 Y Y Y Y (jg Y Y (yW Y Y Y (yW Y Y Y (jo Y Y (jo Y Y (jq (ji ?_)))))))
  refine jr (jg Y Y (jc Y Y Y (fun _ _ => Jk Y Y) (jq (Kb Y Y (jt (jb (ji ?_)))))))
  refine ji ?_
  obtain ⟨o, h7, h8⟩ := bindO hm
  refine Yc (ι := Unit) (fun l_2 => mks []) (fun l_2 => True) (fun l_2 => [(1, .slice qa3 na3 ca3), (6, ptr l_1.1 0), (33, .bool o)]) (fun l_2 => [kc l_1.1 #[.int .i64 t16b.t14_0, .int .i64 t16b.t14_1, .slice qa0 na0 ca0, .slice qa1 na1 ca1, .slice qa2 na2 ca2, sL l_1.2] 175, kc b #[.int .i64 c0.cells, .int .i64 c0.tides, .slice qa0 na0 ca0, .slice qa1 na1 ca1, .slice qa2 na2 ca2] 26]) (fun l_2 => [vL 3 l_1.2 (RI.enc t16b.t14_5), mkV []]) ?_ ?_
  ·replace hm := h7
   refine jh (jg Y Y (jc Y Y Y (fun w _ => kw hna3 (runUnderlying41 w) Y) (yp 1 runUnderlying26 Y sizeOf3 Y Y (qy 1 isAgg3 Y Y Y Y ?_))))
   obtain ⟨t26, h9, hm⟩ := bindO hm
   refine Ke h9 Y Y Y (jc Y Y Y (fun _ _ => Jk Y Y) (jg Y Y ?_))
   refine jH 28 Y (fun h10 => ?_) (fun h10 => ?_)
   ·replace hm := ifF (of_ndec_true h10) hm
    refine g_k Y Y Y Y (g_k Y Y Y Y (g_k Y Y Y Y (g_k Y Y Y Y (qY Y Y Y (js ?_)))))
    obtain rfl := sj hm
    exact zG () Y (trivial) (sE Y) (fun w hh => hh)
   replace hm := ifT (of_ndec_false h10) hm
   refine ja Y Y (jg Y Y (ja Y Y (jc Y Y Y (fun _ _ => jZ (u := #[]) (u' := #[_]) Y Y) (ja Y Y ?_))))
   obtain ⟨t31, h11, hm⟩ := bindO hm
   refine jd [] [] Y Y Y Y Y Y Y call140 (fun w hh => Y7 course1 c0.cells c0.tides c0.fords c0.sands c0.sights qa3 na3 ca3 ar3 b qa0 na0 ca0 qa1 na1 ca1 qa2 na2 ca2 w (HV.callee (S0 := []) (vs0 := []) hh (roR hh 3 Y (roC (bsep (hh.bseg 1 Y)) (roR hh 0 Y (roR hh 1 Y (roR hh 2 Y roN)))))) hna3 hqa3 hla3 hda3 (hh.oldT (S0 := []) (vs0 := []) hTa3) hna0 hqa0 hla0 hna1 hqa1 hla1 hna2 hqa2 hla2 h11) (fun l_3 h12 => ?_)
   refine ja Y Y (jc Y Y Y (fun _ _ => yF Y) (q6 Y Y Y (js ?_)))
   obtain rfl := sj hm
   exact zG () Y (trivial) (sE Y) (fun w hh => hh)
  intro l_2 hj
  replace hm := h8
  refine jb ?_
  refine ju Y (fun h13 => ?_) (fun h13 => ?_)
  ·replace hm := ifT (h13) hm
   refine jr (jo Y Y (jo Y Y (jq (jx (je ?_)))))
   obtain rfl := sj hm
   refine JI Y Y Y (fun w hh => (.tmp Y (.tmp Y .nil))) (fun w hh => ⟨(), rfl, trivial, hh.se [] [] 4 Y Y Y rfl⟩)
  replace hm := ifN h13 hm
  refine jt (jb (jr (jg Y Y ?_)))
  obtain ⟨t35, h14, hm⟩ := bindO hm
  refine jd [] [] Y Y Y Y Y Y Y call99 (fun w hh => ka t16b.t14_0 t16b.t14_1 c0.fords c0.sands c0.sights t16b.t14_5 l_1.1 qa0 na0 ca0 qa1 na1 ca1 qa2 na2 ca2 (qA l_1.2.q) l_1.2.n l_1.2.cap w (HV.callee (S0 := []) (vs0 := []) hh (roC (bsep (hh.bseg 0 Y)) (roR hh 0 Y (roR hh 1 Y (roR hh 2 Y (roC (hh.vsepA 0 Y h6) roN)))))) hna0 hqa0 hla0 hna1 hqa1 hla1 hna2 hqa2 hla2 (vlen RI h6 Y) (AOK.q (vne h6)) (h6).hle h14) (fun l_4 h15 => ?_)
  refine jv (fun w => zeroValue159 w) Y (fun b_1 h16 => ?_)
  refine j3 (us := #[_, _, _, _]) (cs' := [_, _, _, _]) (S' := [_, _, _]) 0 (fun w => sizeOf159 w) Y Y Y Y Y Y Y (jq (ji (jr (jg Y Y (jc Y Y Y (fun w _ => kw hna3 (runUnderlying41 w) Y) (jg Y Y (jq ?_)))))))
  obtain ⟨o_1, h17, h18⟩ := bindO hm
  refine Yc (ι := Kt × List Nat) (fun j => mks j.2) (fun j => o_1 = .inl j.1) (fun j => []) (fun j => [kc b_1 #[.int .i64 j.1.now8_after, .int .i64 j.1.now8_at__c0, .int .i64 j.1.now8_at__c1, .int .i64 j.1.now8_at__c2] 159, kc l_1.1 #[.int .i64 t16b.t14_0, .int .i64 t16b.t14_1, .slice qa0 na0 ca0, .slice qa1 na1 ca1, .slice qa2 na2 ca2, sL l_1.2] 175, kc b #[.int .i64 c0.cells, .int .i64 c0.tides, .slice qa0 na0 ca0, .slice qa1 na1 ca1, .slice qa2 na2 ca2] 26]) (fun j => [vL 3 l_1.2 (RI.enc t16b.t14_5), mkV j.2]) ?_ ?_
  ·replace hm := h17
   refine jp ?_
   refine Y2 (ι := List Nat) hm (fun s l_5 => mks l_5) (fun s l_5 => True) (fun s l_5 => [(6, ptr l_1.1 0), (8, ptr b_1 0), (36, .slice qa3 na3 ca3), (37, .int .i64 (course1.length : Int)), (38, .int .i64 s.t38)]) (fun s l_5 => [kc b_1 #[.int .i64 s.now8_after, .int .i64 s.now8_at__c0, .int .i64 s.now8_at__c1, .int .i64 s.now8_at__c2] 159, kc l_1.1 #[.int .i64 t16b.t14_0, .int .i64 t16b.t14_1, .slice qa0 na0 ca0, .slice qa1 na1 ca1, .slice qa2 na2 ca2, sL l_1.2] 175, kc b #[.int .i64 c0.cells, .int .i64 c0.tides, .slice qa0 na0 ca0, .slice qa1 na1 ca1, .slice qa2 na2 ca2] 26]) (fun s l_5 => [vL 3 l_1.2 (RI.enc t16b.t14_5), mkV l_5]) [] Y (trivial) (sE Y) (fun w hh => hh) (fun s l_5 r hpl hm h19 => ?_)
   unfold Jx at hm
   refine jr (J6 Y Y Y (jq (ji ?_)))
   refine ju Y (fun h20 => ?_) (fun h20 => ?_)
   ·replace hm := ifD h20 hm
    refine jt (jb (ji (jp (jr (jg Y Y ?_)))))
    obtain ⟨t41, h21, hm⟩ := bindO hm
    obtain ⟨A, h22, h23, h24, h25⟩ := (hda3).row h21
    refine jc Y Y Y (fun w _ => yX h22 (runUnderlying41 w) (sizeOf22 w) Y Y (Eq.trans (hda3).len.symm hna3) hqa3) (jc Y Y Y (fun w hh => k7 RwA 0 h22 (isAgg22 w) Y (hh.seg 3 Y) Y (Nat.add_zero _).symm) (jo Y Y (jo Y Y (kO (jg Y Y (jg Y Y ?_))))))
    obtain ⟨t45, h26, hm⟩ := bindO hm
    refine jd [] [] Y Y Y Y Y Y Y call142 (fun w hh => YJ t41 A.a A.n A.cap w (HV.callee (S0 := []) (vs0 := []) hh (roC (hh.oldsep (S0 := []) (vs0 := []) (hTa3 _ (rsg_ix h21 h22))) roN)) h23 h24 h25 h26) (fun l_6 h27 => ?_)
    refine jc Y Y Y (fun _ _ => kN (vs := [(0, _), (1, _)]) (cells := [_, _, _, _]) Y Y) ?_
    refine jv (fun w => zeroValue159 w) Y (fun b_2 h28 => ?_)
    refine j3 (us := #[_, _, _, _]) (cs' := [_, _, _, _]) (S' := [_, _, _, _]) 0 (fun w => sizeOf159 w) Y Y Y Y Y Y Y (jq (ji ?_))
    obtain ⟨o_2, h29, h30⟩ := bindO hm
    refine Yc (ι := Nat) (fun l_7 => mks l_5) (fun l_7 => True) (fun l_7 => [(6, ptr l_1.1 0), (8, ptr b_1 0), (9, .int .i64 s.t38), (11, ptr b_2 0), (12, ptr l_7 0), (36, .slice qa3 na3 ca3), (37, .int .i64 (course1.length : Int)), (38, .int .i64 s.t38)]) (fun l_7 => [kc b_2 #[.int .i64 s.t38, .int .i64 t45.c0, .int .i64 t45.c1, .int .i64 t45.c2] 159, kc b_1 #[.int .i64 s.now8_after, .int .i64 s.now8_at__c0, .int .i64 s.now8_at__c1, .int .i64 s.now8_at__c2] 159, kc l_1.1 #[.int .i64 t16b.t14_0, .int .i64 t16b.t14_1, .slice qa0 na0 ca0, .slice qa1 na1 ca1, .slice qa2 na2 ca2, sL l_1.2] 175, kc b #[.int .i64 c0.cells, .int .i64 c0.tides, .slice qa0 na0 ca0, .slice qa1 na1 ca1, .slice qa2 na2 ca2] 26, kc l_7 #[.bool o_2] 4]) (fun l_7 => [vL 3 l_1.2 (RI.enc t16b.t14_5), mkV l_5]) ?_ ?_
    ·replace hm := h29
     refine jh (jg Y Y (jc Y Y Y (fun _ _ => zS Y Y) (jg Y Y ?_)))
     refine jH 49 Y (fun h31 => ?_) (fun h31 => ?_)
     ·replace hm := ifD h31 hm
      refine ja Y Y (z8 [_, _, _, _] 0 isAgg159 sizeOf159 Y Y Y Y (ja Y Y (z8 [_, _, _, _] 1 isAgg159 sizeOf159 Y Y Y Y (ja Y Y ?_))))
      refine jc Y Y Y (fun w _ => ZQ (jaM (⟨s.t38, t45⟩ : State) (⟨s.now8_after, (⟨s.now8_at__c0, s.now8_at__c1, s.now8_at__c2⟩ : Cells)⟩ : State) w) jaU Y Y) ?_
      refine qY Y Y Y ?_
      refine jv (fun w => zeroValue4 w) Y (fun b_3 h32 => ?_)
      refine yn (cs' := #[_]) (S' := [_, _, _, _, _]) 0 (fun w => sizeOf4 w) Y Y Y Y Y Y Y (js ?_)
      obtain rfl := sj hm
      exact zG b_3 Y (trivial) (sE Y) (hsE [1, 2, 3, 4, 0] [0, 1] 0 Y Y Y Y)
     replace hm := ifE h31 hm
     refine g_k Y Y Y Y (g_k Y Y Y Y (g_k Y Y Y Y (q6 Y Y Y ?_)))
     refine jv (fun w => zeroValue4 w) Y (fun b_4 h33 => ?_)
     refine yn (cs' := #[_]) (S' := [_, _, _, _, _]) 0 (fun w => sizeOf4 w) Y Y Y Y Y Y Y (js ?_)
     obtain rfl := sj hm
     exact zG b_4 Y (trivial) (sE Y) (hsE [1, 2, 3, 4, 0] [0, 1] 0 Y Y Y Y)
    intro l_7 hj
    replace hm := h30
    refine jb (ji ?_)
    obtain ⟨o_3, h34, h35⟩ := bindO hm
    refine Yc (ι := List Nat) (fun l_8 => mks l_8) (fun l_8 => True) (fun l_8 => [(6, ptr l_1.1 0), (8, ptr b_1 0), (11, ptr b_2 0), (12, ptr l_7 0), (36, .slice qa3 na3 ca3), (37, .int .i64 (course1.length : Int)), (38, .int .i64 s.t38)]) (fun l_8 => [kc b_2 #[.int .i64 s.t38, .int .i64 t45.c0, .int .i64 t45.c1, .int .i64 t45.c2] 159, kc b_1 #[.int .i64 s.now8_after, .int .i64 s.now8_at__c0, .int .i64 s.now8_at__c1, .int .i64 s.now8_at__c2] 159, kc l_1.1 #[.int .i64 t16b.t14_0, .int .i64 t16b.t14_1, .slice qa0 na0 ca0, .slice qa1 na1 ca1, .slice qa2 na2 ca2, sL l_1.2] 175, kc b #[.int .i64 c0.cells, .int .i64 c0.tides, .slice qa0 na0 ca0, .slice qa1 na1 ca1, .slice qa2 na2 ca2] 26, kc l_7 #[.bool o_3] 4]) (fun l_8 => [vL 3 l_1.2 (RI.enc t16b.t14_5), mkV l_8]) ?_ ?_
    ·replace hm := h34
     refine jr (jg Y Y (jc Y Y Y (fun _ _ => Y4 Y Y) (jq ?_)))
     refine ju Y (fun h36 => ?_) (fun h36 => ?_)
     ·replace hm := ifD h36 hm
      refine jr (jg Y Y (z8 [_, _, _, _] 1 isAgg159 sizeOf159 Y Y Y Y ?_))
      obtain ⟨t58, h37, hm⟩ := bindO hm
      refine jd [] [] Y Y Y Y Y Y Y call96 (fun w hh => y7 t16b.t14_0 t16b.t14_1 c0.fords c0.sands c0.sights t16b.t14_5 (⟨s.now8_after, (⟨s.now8_at__c0, s.now8_at__c1, s.now8_at__c2⟩ : Cells)⟩ : State) l_1.1 qa0 na0 ca0 qa1 na1 ca1 qa2 na2 ca2 (qA l_1.2.q) l_1.2.n l_1.2.cap w (HV.callee (S0 := []) (vs0 := []) hh (roC (bsep (hh.bseg 2 Y)) (roR hh 0 Y (roR hh 1 Y (roR hh 2 Y (roC (hh.vsepA 0 Y h6) roN)))))) hna0 hqa0 hla0 hna1 hqa1 hla1 hna2 hqa2 hla2 (vlen RI h6 Y) (AOK.q (vne h6)) (h6).hle h37) (fun l_9 h38 => ?_)
      refine kQ (S' := [_, _, _, _, _, _, _]) (vs' := [_, _]) [0, 1, 2, 3, 4, 5, 6] [0, 1] 0 Y Y Y Y (jq (jp ?_))
      obtain ⟨h39, hm⟩ := ifO hm
      refine jab (e' := [(6, ptr l_1.1 0), (8, ptr b_1 0), (11, ptr b_2 0), (12, ptr l_7 0), (36, .slice qa3 na3 ca3), (37, .int .i64 (course1.length : Int)), (38, .int .i64 s.t38), (58, .func (.func 161) #[] #[ptr l_9.1 0, ptr l_9.2 0])]) (sE Y) ?_
      obtain ⟨o_4, h40, hm⟩ := bindO hm
      refine Qt (ι := Unit) (nextL t16b.t14_0 t16b.t14_5 (c0.fords.length : Int) t58) (fun x => .agg #[.int .i64 x.after, .int .i64 x.at_.c0, .int .i64 x.at_.c1, .int .i64 x.at_.c2]) h40 (fun s_1 l_10 => True) (fun s_1 l_10 => [kc l_9.1 #[.int .i64 t58.after, .int .i64 t58.at_.c0, .int .i64 t58.at_.c1, .int .i64 t58.at_.c2] 159, kc l_9.2 #[ptr l_1.1 0] 146, kc b_2 #[.int .i64 s.t38, .int .i64 t45.c0, .int .i64 t45.c1, .int .i64 t45.c2] 159, kc b_1 #[.int .i64 s.now8_after, .int .i64 s.now8_at__c0, .int .i64 s.now8_at__c1, .int .i64 s.now8_at__c2] 159, kc l_1.1 #[.int .i64 t16b.t14_0, .int .i64 t16b.t14_1, .slice qa0 na0 ca0, .slice qa1 na1 ca1, .slice qa2 na2 ca2, sL l_1.2] 175, kc b #[.int .i64 c0.cells, .int .i64 c0.tides, .slice qa0 na0 ca0, .slice qa1 na1 ca1, .slice qa2 na2 ca2] 26, kc l_7 #[.bool s_1] 4]) (fun s_1 l_10 => [vL 3 l_1.2 (RI.enc t16b.t14_5), mkV l_5]) () (trivial) (fun w hh => hh) (RdN l_9.2 l_1.1 l_9.1 t16b.t14_0 (.int .i64 t16b.t14_1) (.slice qa1 na1 ca1) (.slice qa2 na2 ca2) qa0 (qA l_1.2.q) na0 ca0 l_1.2.n l_1.2.cap t16b.t14_5 t58) (fun s_1 l_10 w h41 hh => ⟨hh.bseg 1 rfl, hh.bseg 4 rfl, hh.bseg 0 rfl, hh.vsegA 0 Y h6⟩) (fun x => (.cells #[.int .i64 x.after, .int .i64 x.at_.c0, .int .i64 x.at_.c1, .int .i64 x.at_.c2] 159 (0, 0))) (it_next _ _ _ l_9.2 l_1.1 l_9.1 t16b.t14_0 (.int .i64 t16b.t14_1) (.slice qa1 na1 ca1) (.slice qa2 na2 ca2) qa0 (qA l_1.2.q) na0 ca0 l_1.2.n l_1.2.cap c0.fords t16b.t14_5 t58 hna0 (vlen RI h6 Y) (AOK.q (vne h6)) h39) Y call161 Y (e1 := fun x bx => (13, ptr bx 0) :: (59, .agg #[.int .i64 x.after, .int .i64 x.at_.c0, .int .i64 x.at_.c1, .int .i64 x.at_.c2]) :: [(6, ptr l_1.1 0), (8, ptr b_1 0), (11, ptr b_2 0), (12, ptr l_7 0), (36, .slice qa3 na3 ca3), (37, .int .i64 (course1.length : Int)), (38, .int .i64 s.t38), (58, .func (.func 161) #[] #[ptr l_9.1 0, ptr l_9.2 0])]) (fun x lr L X hX => ?_) (fun x s_1 r_1 l_10 lr w1 bx h41 hm => ?_) (fun l_10 D h41 => ?_)
      ·refine jh ?_
       refine jv (fun w => zeroValue159 w) Y (fun b_5 h44 => ?_)
       refine j3 (us := #[_, _, _, _]) (cs' := [_, _, _, _]) (S' := [_]) 0 (fun w => sizeOf159 w) Y Y Y Y Y Y Y (jq ?_)
       exact hX _
      ·unfold Qf at hm
       refine jp (jh (qy 7 isAgg4 Y Y Y Y (jg Y Y ?_)))
       refine jH 61 Y (fun h45 => ?_) (fun h45 => ?_)
       ·replace hm := ifT (h45) hm
        refine g_k Y Y Y Y (g_k Y Y Y Y (g_k Y Y Y Y (g_k Y Y Y Y (g_k Y Y Y Y (qY Y Y Y (yn (cs' := #[_]) (S' := [_, _, _, _, _, _, _, _]) 7 (fun w => sizeOf4 w) Y Y Y Y Y Y Y (js ?_)))))))
        refine jw ?_
        obtain rfl := sj hm
        exact QZ true () Y (trivial) (hsE [1, 2, 3, 4, 5, 6, 7] [0, 1] 4 Y Y Y Y)
       replace hm := ifN h45 hm
       refine ja Y Y (yp 1 runUnderlying159 Y sizeOf157 Y Y (ja Y Y (z8 [_, _, _] 0 isAgg157 sizeOf157 Y Y Y Y (ja Y Y (yp 1 runUnderlying159 Y sizeOf157 Y Y (ja Y Y (z8 [_, _, _] 3 isAgg157 sizeOf157 Y Y Y Y ?_)))))))
       refine ja Y Y (jc Y Y Y (fun w _ => ZQ (jbN x.at_ t45 w) jbu Y Y) (q6 Y Y Y (yn (cs' := #[_]) (S' := [_, _, _, _, _, _, _, _]) 7 (fun w => sizeOf4 w) Y Y Y Y Y Y Y (js (jw ?_)))))
       obtain rfl := sj hm
       exact QZ (decide (x.at_ = t45)) () Y (trivial) (hsE [1, 2, 3, 4, 5, 6, 7] [0, 1] 4 Y Y Y Y)
      refine YY 1 Y Y (jw ?_)
      obtain rfl := sj hm
      exact zG (D :: l_5) Y (trivial) (sE Y) (hsE [2, 3, 4, 5, 6] [0, 1] 0 Y Y Y Y)
     replace hm := ifE h36 hm
     refine jt ?_
     obtain rfl := sj hm
     exact zG l_5 Y (trivial) (sE Y) (fun w hh => hh)
    intro l_8 hj
    replace hm := h35
    refine jb (jr (z8 [_, _, _, _] 0 isAgg159 sizeOf159 Y Y Y Y (j3 (us := #[_, _, _, _]) (cs' := [_, _, _, _]) (S' := [_, _, _, _, _]) 1 (fun w => sizeOf159 w) Y Y Y Y Y Y Y (jq (ji ?_)))))
    obtain ⟨o_5, h46, h47⟩ := bindO hm
    refine Yc (ι := Unit) (fun l_11 => mks l_8) (fun l_11 => True) (fun l_11 => [(6, ptr l_1.1 0), (8, ptr b_1 0), (36, .slice qa3 na3 ca3), (37, .int .i64 (course1.length : Int)), (38, .int .i64 s.t38), (77, .bool o_5)]) (fun l_11 => [kc b_2 #[.int .i64 s.t38, .int .i64 t45.c0, .int .i64 t45.c1, .int .i64 t45.c2] 159, kc b_1 #[.int .i64 s.t38, .int .i64 t45.c0, .int .i64 t45.c1, .int .i64 t45.c2] 159, kc l_1.1 #[.int .i64 t16b.t14_0, .int .i64 t16b.t14_1, .slice qa0 na0 ca0, .slice qa1 na1 ca1, .slice qa2 na2 ca2, sL l_1.2] 175, kc b #[.int .i64 c0.cells, .int .i64 c0.tides, .slice qa0 na0 ca0, .slice qa1 na1 ca1, .slice qa2 na2 ca2] 26, kc l_7 #[.bool o_3] 4]) (fun l_11 => [vL 3 l_1.2 (RI.enc t16b.t14_5), mkV l_8]) ?_ ?_
    ·replace hm := h46
     refine kE none (.hoist 0 (.free 1 (.free 2 (.free 3 (.hoist 5 (.one 4 (.one 6 (.free 7 (.free 8 .done))))))))) _ Y (by decide +kernel) (fun w k hh => hh.draw k) (fun w hh => hh) ?_
     refine KW 4 isAgg4 Y Y Y Y Y (jl Y Y Y Y (fun _ _ => yF Y) (zb Y Y Y ?_))
     refine jH 71 Y (fun h48 => ?_) (fun h48 => ?_)
     ·replace hm := ifT (h48) hm
      refine kv Y Y Y Y Y Y Y (JR Y Y Y Y Y Y Y (jF Y (g_k Y Y Y Y (jm (fun w hh => hh) (jF Y (g_k Y Y Y Y (jm (fun w hh => hh) ?_)))))))
      refine kv Y Y Y Y Y Y Y (jl Y Y Y Y (fun _ _ => QA Y Y) (jS ?_))
      obtain rfl := sj hm
      exact zG () Y (trivial) (sE Y) (fun w hh => hh)
     replace hm := ifN h48 hm
     refine qX Y Y Y Y Y Y (fun _ _ => qd Y) (JH Y Y Y Y Y Y (fun w hh => jP (vs := [_, _, _, _]) (isAgg159 w) (sizeOf159 w) Y (hh.cells 1 Y Y)) (jF Y (ja Y Y ?_)))
     obtain ⟨t73, h49, hm⟩ := bindO hm
     refine jd [] [] Y Y Y Y Y Y Y call126 (fun w hh => YQ  w (HV.callee (S0 := []) (vs0 := []) hh roN)  h49) (fun l_12 h50 => ?_)
     refine jm (fun w hh => hh) (jF Y (ja Y Y ?_))
     obtain ⟨t75, h51, hm⟩ := bindO hm
     refine jd [] [] Y Y Y Y Y Y Y call143 (fun w hh => Qk t16b.t14_0 t16b.t14_1 c0.fords c0.sands c0.sights t16b.t14_5 (⟨s.t38, t45⟩ : State) l_1.1 qa0 na0 ca0 qa1 na1 ca1 qa2 na2 ca2 (qA l_1.2.q) l_1.2.n l_1.2.cap w (HV.callee (S0 := []) (vs0 := []) hh (roC (bsep (hh.bseg 2 Y)) (roR hh 0 Y (roR hh 1 Y (roR hh 2 Y (roC (hh.vsepA 0 Y h6) roN)))))) hna0 hqa0 hla0 hna1 hqa1 hla1 hna2 hqa2 hla2 (vlen RI h6 Y) (AOK.q (vne h6)) (h6).hle h51) (fun l_13 h52 => ?_)
     refine jm (fun w hh => hh) (qX Y Y Y Y Y Y (fun _ _ => yF Y) (jl Y Y Y Y (fun _ _ => KA Y Y) (jS ?_)))
     obtain rfl := sj hm
     exact zG () Y (trivial) (sE Y) (fun w hh => hh)
    intro l_11 hj
    replace hm := h47
    refine jb ?_
    refine ju Y (fun h53 => ?_) (fun h53 => ?_)
    ·replace hm := ifT (h53) hm
     refine jr (jo Y Y (jo Y Y (jq (jx (jz (je (je ?_)))))))
     refine jz ?_
     obtain rfl := sj hm
     have hbo := h19 _ Y
     subst hbo
     refine je ?_
     replace hm := ocR h18
     refine je ?_
     obtain rfl := sj hm
     refine JI Y Y Y (fun w hh => (.tmp Y (.tmp Y .nil))) (fun w hh => ⟨(), rfl, trivial, hh.se [] [] 4 Y Y Y rfl⟩)
    replace hm := ifN h53 hm
    refine jt (jw (jb (jh ?_)))
    obtain ⟨t78, h54, hm⟩ := bindO hm
    refine Ke h54 Y Y Y (jg Y Y (js ?_))
    obtain rfl := sj hm
    refine jb ?_
    exact Yb _ l_8 Y Y (trivial) (sE Y) (hsE [1, 2, 3] [0, 1] 0 Y Y Y Y)
   replace hm := ifE h20 hm
   refine j8 (jk (jk (jI ?_)))
   obtain rfl := sj hm
   have hbo := h19 _ Y
   subst hbo
   exact zG ((⟨s.now8_after, s.now8_at__c0, s.now8_at__c1, s.now8_at__c2⟩ : Kt), l_5) Y (Y) (.nil) (fun w hh => hh)
  rintro ⟨j_1, l_14⟩ hj
  have h55 := hj
  subst h55
  replace hm := ocL h18
  refine jb (jr (jo Y Y (jo Y Y (jq (jx ?_)))))
  obtain rfl := sj hm
  refine JI Y Y Y (fun w hh => (.tmp Y (.tmp Y .nil))) (fun w hh => ⟨(), rfl, trivial, hh.se [] [] 4 Y Y Y rfl⟩)
end Go.Proofs.Wb

namespace Go.Gx
open Go
end Go.Gx
namespace Go.Proofs.Wb
open Go Go.Fw Go.Gx Go.Sb
set_option linter.unusedVariables false
def Few (c : Channel) : Prop := c.fords.length ≤ 100 ∧ c.sands.length ≤ 100 ∧ c.sights.length ≤ 100
theorem jat {l : List Int} (h : l.length ≤ 100000) : KD l = some l := by
  unfold KD
  rw [makec_eq (by omega), Option.bind_some, appc_eq (by simp; omega)]
  simp
end Go.Proofs.Wb

namespace Go.Proofs.Wb
open Go Go.Fw Go.Gx Go.Sb
set_option linter.unusedVariables false
def stepR (x : Int) (r : Int) (s : Sand) : Int := if s.span.lo ≤ x ∧ x ≤ s.span.hi then max r s.reach else r
def rchC (l : List Sand) (x : Int) : Int := l.foldl (stepR x) 0
def rchL (c : Channel) : List Int := (List.range c.cells.toNat).map fun t : Nat => rchC c.sands (t : Int)
theorem rchC_snoc {l : List Sand} {s : Sand} {x : Int} : rchC (l ++ [s]) x = stepR x (rchC l x) s := by unfold rchC; rw [List.foldl_append]; rfl
theorem rchC_bounds {l : List Sand} {x : Int} (h : ∀ s ∈ l, 1 ≤ s.reach ∧ s.reach ≤ 2) : 0 ≤ rchC l x ∧ rchC l x ≤ 2 := by
  unfold rchC
  have key : ∀ (l : List Sand) (r : Int), (∀ s ∈ l, 1 ≤ s.reach ∧ s.reach ≤ 2) → 0 ≤ r ∧ r ≤ 2 → 0 ≤ l.foldl (stepR x) r ∧ l.foldl (stepR x) r ≤ 2 := by
    intro l
    induction l with
    | nil => intro r _ h; exact h
    | cons s l ih =>
      intro r h hr
      rw [List.foldl_cons]
      refine ih _ (fun t ht => h t (List.mem_cons_of_mem _ ht)) ?_
      have := h s List.mem_cons_self
      unfold stepR
      split <;> omega
  exact key l 0 h (by omega)
theorem reaches_in {n : Nat} {f : Nat → Int} {s : Sand} (h0 : 0 ≤ s.span.lo) (h1 : s.span.hi < n) (h2 : s.span.lo ≤ s.span.hi) (hn : n ≤ 1000) :
    iterM FU (kA s) ⟨s.span.lo, (List.range n).map f⟩ = some ((List.range n).map fun t : Nat => stepR (t : Int) (f t) s) := by
  have key := iterM_run (f := kA s) (fun j => ⟨s.span.lo + (j : Int), (List.range n).map fun t : Nat => if (s.span.lo ≤ (t : Int) ∧ (t : Int) < s.span.lo + (j : Int)) then max (f t) s.reach else f t⟩) (s.span.hi - s.span.lo + 1).toNat (b := (List.range n).map fun t : Nat => stepR (t : Int) (f t) s) (fun j hj => ?_) ?_ FU (FU_lt (by omega))
  · have e : ((List.range n).map fun t : Nat => if (s.span.lo ≤ (t : Int) ∧ (t : Int) < s.span.lo + ((0 : Nat) : Int)) then max (f t) s.reach else f t) = (List.range n).map f := by
      apply List.map_congr_left
      intro t _
      rw [if_neg (by omega)]
    simp only [e] at key
    simpa using key
  · unfold kA
    simp only
    have ej : s.span.lo + (j : Int) = ((s.span.lo.toNat + j : Nat) : Int) := by omega
    rw [if_pos (by omega), ej, range_ix (by omega), Option.bind_some, Option.bind_some, Int.toNat_natCast, range_set, Option.bind_some, addc_eq (by omega), Option.bind_some]
    congr 3
    · omega
    · apply List.map_congr_left
      intro t ht
      by_cases h : t = s.span.lo.toNat + j
      · rw [if_pos h, if_neg (by omega), if_pos (by omega)]; rw [h]
      · rw [if_neg h]
        by_cases h3 : s.span.lo ≤ (t : Int) ∧ (t : Int) < ((s.span.lo.toNat + j : Nat) : Int)
        · rw [if_pos h3, if_pos (by omega)]
        · rw [if_neg h3, if_neg (by omega)]
  · unfold kA
    simp only
    rw [if_neg (by omega)]
    congr 2
    apply List.map_congr_left
    intro t ht
    unfold stepR
    by_cases h3 : s.span.lo ≤ (t : Int) ∧ (t : Int) ≤ s.span.hi
    · rw [if_pos h3, if_pos (by omega)]
    · rw [if_neg h3, if_neg (by omega)]
theorem jaw {c : Channel} (r : Right c) : qe c = some (rchL c) := by
  have hc := r.cells
  have hs := r.sands
  unfold qe
  rw [makec_eq (by omega), Option.bind_some]
  have key := iterM_run (f := qj c) (fun j => ⟨(j : Int), (List.range c.cells.toNat).map fun t : Nat => rchC (c.sands.take j) (t : Int)⟩) c.sands.length (b := rchL c) (fun j hj => ?_) ?_ FU (FU_lt (by omega))
  · have e : List.replicate c.cells.toNat (0 : Int) = (List.range c.cells.toNat).map fun t : Nat => rchC (c.sands.take 0) (t : Int) := by
      apply List.ext_getElem (by simp)
      intro i h1 h2
      simp [rchC]
    rw [e, show (0 : Int) = ((0 : Nat) : Int) from rfl, key]
    rfl
  · have e : c.sands.take (j + 1) = c.sands.take j ++ [c.sands[j]] := by rw [List.take_append_getElem]
    have hx : c.sands.getD j default = c.sands[j] := by simp [List.getD_eq_getElem?_getD, hj]
    have hsp := r.span c.sands[j] (List.getElem_mem hj)
    unfold qj
    simp only
    rw [if_pos (by omega), ix_nat default hj, Option.bind_some, hx, reaches_in hsp.1 (by omega) hsp.2.2 (by omega), Option.bind_some, addc_eq (by omega), Option.bind_some]
    congr 3
    apply List.map_congr_left
    intro t _
    rw [e, rchC_snoc]
  · unfold qj
    simp only
    rw [if_neg (by omega), List.take_length]
    rfl
theorem rchL_len {c : Channel} : (rchL c).length = c.cells.toNat := by simp [rchL]
theorem rchL_get {c : Channel} {x : Int} (h : 0 ≤ x ∧ x < c.cells) : (rchL c).getD x.toNat 0 = rchC c.sands x := by
  unfold rchL
  rw [List.getD_eq_getElem?_getD, List.getElem?_map, List.getElem?_range (by omega)]
  simp
  congr 1
  omega
theorem QC {c : Channel} (h : Few c) : yb c = some (if chk c = 0 then .inr ⟨c.cells, c.tides, rchL c⟩ else .inl (chk c)) := by
  unfold yb
  rw [Y0, Option.bind_some]
  by_cases h0 : chk c = 0
  · rw [if_pos h0, if_pos h0, jaw (rightOf h0)]; rfl
  · rw [if_neg h0, if_neg h0, if_pos h0]
end Go.Proofs.Wb

namespace Go.Proofs.Wb
open Go Go.Fw Go.Gx Go.Sb
set_option linter.unusedVariables false
set_option maxRecDepth 100000
theorem ZW : ∀ {l : List Int}, l.length ≤ 3 → JT l = some (mkCells l)
  | [], _ => by decide +kernel
  | [a], _ => rfl
  | [a, b], _ => rfl
  | [a, b, c], _ => rfl
  | a :: b :: c :: d :: l, h => absurd h (by simp)
def clS (nf : Nat) (s : State) : List Int := [s.at_.c0, s.at_.c1, s.at_.c2].take nf
theorem clS_mk {l : List Int} {k : Int} (h : l.length ≤ 3) : clS l.length ⟨k, mkCells l⟩ = l := by
  unfold clS mkCells
  match l, h with
  | [], _ => rfl
  | [a], _ => rfl
  | [a, b], _ => rfl
  | [a, b, c], _ => rfl
  | a :: b :: c :: d :: l, h => exact absurd h (by simp)
theorem ZT {d0 d1 : Int} {f : List Int} {a : List Sand} {b : List Sight} {r : List Int} (h : f.length ≤ 3) (s : State) : k8 d0 d1 f a b r s = some (clS f.length s) := by
  unfold k8
  rw [if_pos (by simp; omega), Int.toNat_natCast, YZ (by simp; omega)]
  rfl
theorem yL {l : List Int} (hl : l.length < 1000000) (v : Int) : jC l v = some (decide (v ∈ l)) := by
  unfold jC J4
  rw [contains_loop (f := zk l v) l 0 (fun x => decide (v = x)) (by omega) (fun k hk => ?_) ?_]
  · congr 1
    rw [Bool.eq_iff_iff, List.any_eq_true, decide_eq_true_eq]
    constructor
    · rintro ⟨x, hx, he⟩
      rw [decide_eq_true_eq] at he
      subst he; exact hx
    · intro h; exact ⟨v, h, by simp⟩
  · unfold zk
    rw [if_neg (by omega)]
  · unfold zk
    rw [if_pos (by omega), ix_nat 0 hk, Option.bind_some, addc_eq (by omega), Option.bind_some]
    by_cases h : v = l.getD k 0
    · rw [if_pos h, if_pos (by simpa using h)]
    · rw [if_neg h, if_neg (by simpa using h)]
def offS (k : Int) (l : List Int) (x : Sight) : Bool := decide (x.after = k) && !(decide (x.cell ∈ l) == x.upright)
def agP (cnt : Nat → Bool) (sg : List Sight) (k : Int) (l : List Int) : Bool := !(List.range sg.length).any fun i => cnt i && offS k l (sg.getD i default)
theorem agP_iff {cnt : Nat → Bool} {sg : List Sight} {k : Int} {l : List Int} : agP cnt sg k l = true ↔ ∀ i, i < sg.length → cnt i = true → (sg.getD i default).after = k → (decide ((sg.getD i default).cell ∈ l) = (sg.getD i default).upright) := by
  unfold agP
  rw [Bool.not_eq_true', List.any_eq_false]
  simp only [List.mem_range, offS, Bool.and_eq_true, decide_eq_true_eq, Bool.not_eq_true', not_and, Bool.not_eq_false, beq_iff_eq]
theorem Z1 {d0 d1 : Int} {f : List Int} {a : List Sand} {sg : List Sight} {r : List Int} (h : f.length ≤ 3) (hs : sg.length ≤ 100) (s : State) : qw d0 d1 f a sg r s = some (agP (fun _ => true) sg s.after (clS f.length s)) := by
  unfold qw
  rw [iterM_any0 (f := yh sg s d0 d1 f a r) sg.length (fun k => offS s.after (clS f.length s) (sg.getD k default)) false (fun k hk => ?_) ?_ (FU_lt (by omega)), Option.bind_some]
  · unfold agP
    simp only [Bool.true_and]
    cases (List.range sg.length).any fun k => offS s.after (clS f.length s) (sg.getD k default) <;> rfl
  · unfold yh
    rw [if_neg (by omega)]
  · unfold yh K7
    rw [if_pos (by omega), ix_nat default hk, Option.bind_some, ZT h, Option.bind_some, if_pos rfl, Option.bind_some, yL (by unfold clS; simp; omega), Option.bind_some, addc_eq (by omega)]
    unfold offS
    by_cases h1 : (sg.getD k default).after = s.after
    · rw [if_pos h1, Option.bind_some, decide_eq_true h1, Bool.true_and]
      split <;> rfl
    · rw [if_neg h1, Option.bind_some, decide_eq_false h1, Bool.false_and]
      rfl
theorem Qu {d0 d1 : Int} {f : List Int} {a : List Sand} {b : List Sight} {r : List Int} (h : f.length ≤ 3) : jJ d0 d1 f a b r = some ⟨0, mkCells f⟩ := by
  unfold jJ
  rw [ZW h]; rfl
theorem agP_congr {c1 c2 : Nat → Bool} {sg : List Sight} {k : Int} {l : List Int} (h : ∀ i, i < sg.length → c1 i = c2 i) : agP c1 sg k l = agP c2 sg k l := by
  rw [Bool.eq_iff_iff, agP_iff, agP_iff]
  constructor
  · intro h1 i hi hc; exact h1 i hi (by rw [h i hi]; exact hc)
  · intro h1 i hi hc; exact h1 i hi (by rw [← h i hi]; exact hc)
end Go.Proofs.Wb

namespace Go.Proofs.Wb
open Go Go.Fw Go.Gx Go.Sb
set_option linter.unusedVariables false
set_option maxRecDepth 100000
def canB (sa : List Sand) (a b : List Int) : Bool := (List.range a.length).all fun i => inb (b.getD i (-1)) (a.getD i (-1) - rchC sa (a.getD i (-1))) (a.getD i (-1) + rchC sa (a.getD i (-1)))
def rowB (c : Channel) (l : List Int) : Bool := decide (l.length = c.fords.length) && (upB l && l.all fun x => inb x 0 (c.cells - 1))
def okAt (cnt : Nat → Bool) (c : Channel) (course : List (List Int)) (k : Nat) : Bool := rowB c (course.getD k []) && ((decide (k = 0) || canB c.sands (course.getD (k - 1) []) (course.getD k [])) && agP cnt c.sights (k : Int) (course.getD k []))
def fitB (cnt : Nat → Bool) (c : Channel) (course : List (List Int)) : Bool := decide ((course.length : Int) = c.tides + 1) && (decide (course.getD 0 [] = c.fords) && (List.range course.length).all (okAt cnt c course))
theorem rowB_iff {c : Channel} {l : List Int} : rowB c l = true ↔ l.length = c.fords.length ∧ upB l = true ∧ ∀ x ∈ l, 0 ≤ x ∧ x < c.cells := by
  unfold rowB
  simp only [Bool.and_eq_true, decide_eq_true_eq, List.all_eq_true, inb_iff]
  constructor
  · rintro ⟨h1, h2, h3⟩; exact ⟨h1, h2, fun x hx => by have := h3 x hx; omega⟩
  · rintro ⟨h1, h2, h3⟩; exact ⟨h1, h2, fun x hx => by have := h3 x hx; omega⟩
theorem getD_mem {l : List Int} {i : Nat} {d : Int} (h : i < l.length) : l.getD i d ∈ l := by
  rw [List.getD_eq_getElem?_getD, List.getElem?_eq_getElem h]
  exact List.getElem_mem h
end Go.Proofs.Wb

namespace Go.Proofs.Wb
open Go Go.Fw Go.Gx Go.Sb
set_option linter.unusedVariables false
set_option maxRecDepth 100000
theorem cGet_mk {l : List Int} {i : Nat} (h : i < 3) : cGet (mkCells l) i = l.getD i (-1) := by
  have : i = 0 ∨ i = 1 ∨ i = 2 := by omega
  rcases this with rfl | rfl | rfl <;> rfl
theorem rch_eq {c : Channel} {x : Int} (h : 0 ≤ x ∧ x < c.cells) : rch (rchL c) x = rchC c.sands x := rchL_get h
theorem nextOK_of {c : Channel} (r : Right c) {a : List Int} (ha : rowB c a = true) {k : Int} (hk : -1000 ≤ k ∧ k ≤ 1000) : nextOK c.cells (rchL c) (c.fords.length : Int) ⟨k, mkCells a⟩ := by
  obtain ⟨h1, h2, h3⟩ := rowB_iff.1 ha
  have hc := r.cells
  have hf := r.fords
  refine ⟨by omega, by omega, hk.1, hk.2, fun i hi => ?_⟩
  rw [Int.toNat_natCast] at hi
  simp only
  rw [cGet_mk (by omega)]
  have h4 := h3 _ (getD_mem (l := a) (i := i) (d := -1) (by omega))
  have h5 := rchC_bounds (x := a.getD i (-1)) r.reach
  rw [rchL_get h4, rchL_len]
  omega
theorem can_iff {c : Channel} (r : Right c) {a l : List Int} (ha : rowB c a = true) (hl : rowB c l = true) : canB c.sands a l = true ↔ CanS c.cells (rchL c) c.fords.length (mkCells a) l := by
  obtain ⟨a1, a2, a3⟩ := rowB_iff.1 ha
  obtain ⟨l1, l2, l3⟩ := rowB_iff.1 hl
  have hf := r.fords
  unfold canB
  simp only [List.all_eq_true, List.mem_range, inb_iff]
  constructor
  · intro h
    refine ⟨l1, fun i hi => l3 _ (getD_mem (by omega)), fun i hi => ?_, fun i hi => upB_ix.1 l2 i (by omega)⟩
    rw [cGet_mk (by omega), rch_eq (a3 _ (getD_mem (by omega)))]
    exact h i (by omega)
  · intro h i hi
    have := h.near i (by omega)
    rw [cGet_mk (by omega), rch_eq (a3 _ (getD_mem (by omega)))] at this
    exact this
theorem next_any {c : Channel} (r : Right c) {a l : List Int} (ha : rowB c a = true) (hl : rowB c l = true) (k : Int) : ((nextL c.cells (rchL c) (c.fords.length : Int) ⟨k, mkCells a⟩).any fun x => decide (x.at_ = mkCells l)) = canB c.sands a l := by
  have hc := r.cells
  have hf := r.fords
  obtain ⟨l1, l2, l3⟩ := rowB_iff.1 hl
  rw [Bool.eq_iff_iff, List.any_eq_true, can_iff r ha hl]
  constructor
  · rintro ⟨t, ht, he⟩
    rw [decide_eq_true_eq] at he
    obtain ⟨l', h1, rfl⟩ := (mem_nextL (by omega)).1 ht
    rw [Int.toNat_natCast] at h1
    have := mkCells_inj (l := l') (m := l) (by rw [h1.len, l1]) (by rw [h1.len]; omega) he
    rw [← this]
    exact h1
  · intro h
    refine ⟨⟨k + 1, mkCells l⟩, (mem_nextL (by omega)).2 ⟨l, ?_, rfl⟩, by simp⟩
    rw [Int.toNat_natCast]
    exact h
theorem iterL_or {α : Type} (p : α → Bool) {f : α → Bool → Option Bool} (hf : ∀ x s, f x s = if s = true then some true else some (p x)) : ∀ (l : List α) (b : Bool), iterL f l b = some (b || l.any p)
  | [], b => by simp [iterL]
  | x :: l, b => by
    rw [iterL, hf]
    cases b with
    | true => rw [if_pos rfl, Option.bind_some, iterL_or p hf l]; rfl
    | false =>
      rw [if_neg (by decide), Option.bind_some, iterL_or p hf l, List.any_cons]
      rfl
theorem jaK {c : Channel} (r : Right c) {course : List (List Int)} (hn : course.length ≤ 100) (hl : ∀ l ∈ course, l.length ≤ 100) : zj course c.cells c.tides c.fords c.sands c.sights = some (course.all (rowB c)) := by
  have hc := r.cells
  have := any_loop course default (fun x => yy x c.cells c.tides c.fords c.sands c.sights) (fun x => !rowB c x) (by omega) (fun x hx => by
    have hx' := hl x hx
    unfold yy KH rowB
    rw [Z0 (by omega), ZU (c := ⟨c.cells, c.tides, c.fords, c.sands, c.sights⟩) (by simp only; omega) (by omega)]
    simp only [Option.bind_some]
    by_cases h : x.length = c.fords.length
    · rw [if_pos (by omega), decide_eq_true h]
      cases upB x <;> rfl
    · rw [if_neg (by omega), decide_eq_false h]
      rfl) (f := zM course c.cells c.tides c.fords c.sands c.sights) (fun s => rfl)
  unfold zj yq zl
  rw [this, Option.bind_some, not_any_not]
def nowS (c : Channel) (course : List (List Int)) (k : Nat) : State := if k = 0 then ⟨0, mkCells c.fords⟩ else ⟨(k : Int) - 1, mkCells (course.getD (k - 1) [])⟩
theorem jbp {c : Channel} (h0 : Few c) {course : List (List Int)} (hn : course.length ≤ 100) (hl : ∀ l ∈ course, l.length ≤ 100) : zY c course = some (if chk c = 0 then ⟨fitB (fun _ => true) c course, 0⟩ else ⟨false, chk c⟩) := by
  unfold zY
  rw [QC h0, Option.bind_some]
  by_cases hk : chk c = 0
  · rw [if_pos hk, if_pos hk, oc_inr]
    have r := rightOf hk
    have hc := r.cells
    have ht := r.tides
    have hf := r.fords
    have hs := r.sights
    have hsa := r.sands
    rw [addc_eq (by omega), Option.bind_some]
    unfold fitB
    by_cases h1 : (course.length : Int) = c.tides + 1
    · rw [if_pos h1, jaK r hn hl, Option.bind_some, Option.bind_some, decide_eq_true h1, Bool.true_and]
      by_cases h2 : course.all (rowB c) = true
      · have hrow : ∀ k, k < course.length → rowB c (course.getD k []) = true := fun k hk => List.all_eq_true.1 h2 _ (by rw [List.getD_eq_getElem?_getD, List.getElem?_eq_getElem hk]; exact List.getElem_mem hk)
        have hlen : ∀ k, k < course.length → (course.getD k []).length = c.fords.length := fun k hk => (rowB_iff.1 (hrow k hk)).1
        rw [h2, if_neg (by decide), Qu (by omega), Option.bind_some]
        have hfr : rowB c c.fords = true := rowB_iff.2 ⟨rfl, r.up, r.fcell⟩
        have key := iterM_find (f := Jx course ⟨c.cells, c.tides, rchL c⟩ c) (fun j => ⟨(j : Int), (nowS c course j).after, (nowS c course j).at_.c0, (nowS c course j).at_.c1, (nowS c course j).at_.c2⟩) course.length (fun k => !((if k = 0 then decide (course.getD 0 [] = c.fords) else canB c.sands (course.getD (k - 1) []) (course.getD k [])) && agP (fun _ => true) c.sights (k : Int) (course.getD k []))) (fun _ => .inr ⟨false, 0⟩) (.inl ⟨(nowS c course course.length).after, (nowS c course course.length).at_.c0, (nowS c course course.length).at_.c1, (nowS c course course.length).at_.c2⟩) (fun k hk hb => ?_) ?_ (N := FU) (FU_lt (by omega))
        · rw [show (⟨0, 0, (mkCells c.fords).c0, (mkCells c.fords).c1, (mkCells c.fords).c2⟩ : m_branch_Fits_S0) = ⟨((0 : Nat) : Int), (nowS c course 0).after, (nowS c course 0).at_.c0, (nowS c course 0).at_.c1, (nowS c course 0).at_.c2⟩ from rfl, key, Option.bind_some]
          have e : (decide (course.getD 0 [] = c.fords) && (List.range course.length).all (okAt (fun _ => true) c course)) = !((List.range course.length).any fun k => !((if k = 0 then decide (course.getD 0 [] = c.fords) else canB c.sands (course.getD (k - 1) []) (course.getD k [])) && agP (fun _ => true) c.sights (k : Int) (course.getD k []))) := by
            rw [not_any_not, Bool.eq_iff_iff, Bool.and_eq_true, decide_eq_true_eq, List.all_eq_true, List.all_eq_true]
            constructor
            · rintro ⟨q1, q2⟩ k hk
              have hk' : k < course.length := by simpa using hk
              have q3 := q2 k hk
              unfold okAt at q3
              simp only [Bool.and_eq_true, Bool.or_eq_true, decide_eq_true_eq] at q3
              rw [Bool.and_eq_true]
              refine ⟨?_, q3.2.2⟩
              by_cases h0 : k = 0
              · rw [if_pos h0]; simpa using q1
              · rw [if_neg h0]; exact q3.2.1.resolve_left h0
            · intro q
              have q0 := q 0 (by simp; omega)
              rw [if_pos rfl, Bool.and_eq_true, decide_eq_true_eq] at q0
              refine ⟨q0.1, fun k hk => ?_⟩
              have hk' : k < course.length := by simpa using hk
              have q1 := q k hk
              unfold okAt
              rw [hrow k hk', Bool.true_and]
              by_cases h0 : k = 0
              · rw [if_pos h0, Bool.and_eq_true] at q1
                rw [decide_eq_true h0, Bool.true_or, Bool.true_and]
                exact q1.2
              · rw [if_neg h0] at q1
                rw [decide_eq_false h0, Bool.false_or]
                exact q1
          rw [e]
          cases hq : (List.range course.length).find? (fun k => !((if k = 0 then decide (course.getD 0 [] = c.fords) else canB c.sands (course.getD (k - 1) []) (course.getD k [])) && agP (fun _ => true) c.sights (k : Int) (course.getD k []))) with
          | none =>
            have : (List.range course.length).any (fun k => !((if k = 0 then decide (course.getD 0 [] = c.fords) else canB c.sands (course.getD (k - 1) []) (course.getD k [])) && agP (fun _ => true) c.sights (k : Int) (course.getD k []))) = false := by
              rw [List.any_eq_false]; intro x hx; exact List.find?_eq_none.1 hq x hx
            rw [this]; rfl
          | some k =>
            have h3 := List.find?_some hq
            have : (List.range course.length).any (fun k => !((if k = 0 then decide (course.getD 0 [] = c.fords) else canB c.sands (course.getD (k - 1) []) (course.getD k [])) && agP (fun _ => true) c.sights (k : Int) (course.getD k []))) = true := List.any_eq_true.2 ⟨k, List.mem_of_find?_eq_some hq, h3⟩
            rw [this]; rfl
        · unfold Jx
          simp only
          rw [if_pos (by omega), ix_nat [] hk, Option.bind_some, ZW (by rw [hlen k hk]; omega), Option.bind_some]
          have hag : ((zR).bind fun t73 => (qw c.cells c.tides c.fords c.sands c.sights (rchL c) (⟨(k : Int), mkCells (course.getD k [])⟩ : State)).bind fun t75 => some (!t75)) = some (!agP (fun _ => true) c.sights (k : Int) (course.getD k [])) := by
            unfold zR
            rw [Option.bind_some, Z1 (by omega) (by omega), Option.bind_some]
            simp only
            rw [show clS c.fords.length ⟨(k : Int), mkCells (course.getD k [])⟩ = course.getD k [] by rw [← hlen k hk]; exact clS_mk (by rw [hlen k hk]; omega)]
          rw [hag]
          have hnow : (⟨((k + 1 : Nat) : Int), (nowS c course (k + 1)).after, (nowS c course (k + 1)).at_.c0, (nowS c course (k + 1)).at_.c1, (nowS c course (k + 1)).at_.c2⟩ : m_branch_Fits_S0) = ⟨(k : Int) + 1, (k : Int), (mkCells (course.getD k [])).c0, (mkCells (course.getD k [])).c1, (mkCells (course.getD k [])).c2⟩ := by
            unfold nowS
            rw [if_neg (by omega)]
            simp only [Nat.add_sub_cancel, m_branch_Fits_S0.mk.injEq, and_true]
            push_cast
            omega
          by_cases h0 : k = 0
          · subst h0
            rw [if_pos (by omega), Option.bind_some, if_neg (by omega), Option.bind_some, if_pos rfl]
            have e2 : decide ((⟨((0 : Nat) : Int), mkCells (course.getD 0 [])⟩ : State) = ⟨(nowS c course 0).after, (⟨(nowS c course 0).at_.c0, (nowS c course 0).at_.c1, (nowS c course 0).at_.c2⟩ : Cells)⟩) = decide (course.getD 0 [] = c.fords) := by
              rw [Bool.eq_iff_iff, decide_eq_true_eq, decide_eq_true_eq]
              unfold nowS
              rw [if_pos rfl]
              constructor
              · intro hq
                injection hq with _ hq
                exact mkCells_inj (hlen 0 hk) (by rw [hlen 0 hk]; omega) hq
              · intro hq; rw [hq]; rfl
            rw [e2, addc_eq (by omega), Option.bind_some, not_true_if]
            cases decide (course.getD 0 [] = c.fords) with
            | false => rfl
            | true =>
              rw [if_pos rfl, Option.bind_some, Bool.true_and]
              cases agP (fun _ => true) c.sights ((0 : Nat) : Int) (course.getD 0 []) with
              | false => rfl
              | true =>
                simp only [Bool.not_true, Bool.false_eq_true, if_false]
                rw [hnow]
          · have hpr := hrow (k - 1) (by omega)
            have hnx : (⟨(nowS c course k).after, (⟨(nowS c course k).at_.c0, (nowS c course k).at_.c1, (nowS c course k).at_.c2⟩ : Cells)⟩ : State) = ⟨(k : Int) - 1, mkCells (course.getD (k - 1) [])⟩ := by
              unfold nowS
              rw [if_neg h0]
            rw [if_neg (by omega), Option.bind_some, if_pos (by omega), hnx]
            unfold jU
            rw [Option.bind_some, if_pos (nextOK_of r hpr (by omega)), iterL_or (fun x : State => decide (x.at_ = mkCells (course.getD k []))) (f := Qf (mkCells (course.getD k []))) (fun x s => rfl), Option.bind_some, Option.bind_some, Bool.false_or, next_any r hpr (hrow k hk), if_neg h0, addc_eq (by omega), Option.bind_some, not_true_if]
            cases canB c.sands (course.getD (k - 1) []) (course.getD k []) with
            | false => rfl
            | true =>
              rw [if_pos rfl, Option.bind_some, Bool.true_and]
              cases agP (fun _ => true) c.sights (k : Int) (course.getD k []) with
              | false => rfl
              | true =>
                simp only [Bool.not_true, Bool.false_eq_true, if_false]
                rw [hnow]
        · unfold Jx
          simp only
          rw [if_neg (by omega)]
      · have h3 : course.all (rowB c) = false := by simpa using h2
        rw [h3, if_pos (by decide)]
        congr 2
        symm
        rw [Bool.and_eq_false_iff]
        right
        rw [List.all_eq_false] at h3
        obtain ⟨l, hl', hb⟩ := h3
        obtain ⟨k, hk', rfl⟩ := List.getElem_of_mem hl'
        rw [List.all_eq_false]
        refine ⟨k, by simpa using hk', ?_⟩
        unfold okAt
        have e : course.getD k [] = course[k] := by simp [List.getD_eq_getElem?_getD, hk']
        rw [e]
        simp [hb]
    · rw [if_neg h1, Option.bind_some, if_pos rfl, decide_eq_false h1, Bool.false_and]
  · rw [if_neg hk, if_neg hk, oc_inl]
end Go.Proofs.Wb

namespace Go.Gx
open Go
theorem afind_none {α β : Type} [DecidableEq α] : ∀ {l : List (α × β)} {k : α} {i : Nat}, afind l k i = none ↔ ∀ p, p ∈ l → p.1 ≠ k
  | [], k, i => by simp [afind]
  | (k', v') :: r, k, i => by
    unfold afind
    by_cases h : k = k'
    · rw [if_pos h]
      constructor
      · intro h2; cases h2
      · intro h2; exact absurd h.symm (h2 (k', v') (by simp))
    · rw [if_neg h, afind_none]
      constructor
      · intro h2 p hp
        rcases List.mem_cons.1 hp with rfl | hp
        · exact fun e => h e.symm
        · exact h2 p hp
      · intro h2 p hp; exact h2 p (List.mem_cons_of_mem _ hp)
theorem aget_val {α β : Type} [DecidableEq α] : ∀ {l : List (α × β)} {k : α} {i : Nat}, (afind l k i).map (·.2) = (l.find? fun p => decide (p.1 = k)).map (·.2)
  | [], k, i => rfl
  | (k', v') :: r, k, i => by
    unfold afind
    by_cases h : k = k'
    · rw [if_pos h, List.find?_cons, decide_eq_true h.symm]; rfl
    · rw [if_neg h, aget_val (i := i + 1), List.find?_cons, decide_eq_false (fun e => h e.symm)]
theorem find_modify {α β : Type} [DecidableEq α] (v : β) (k x : α) : ∀ {l : List (α × β)} {i j : Nat} {v0 : β}, afind l k j = some (i, v0) → ((l.modify (i - j) (fun p => (p.1, v))).find? fun p => decide (p.1 = x)).map (·.2) = if x = k then some v else (l.find? fun p => decide (p.1 = x)).map (·.2)
  | [], i, j, v0, h => by cases h
  | (k', v') :: r, i, j, v0, h => by
    unfold afind at h
    by_cases hk : k = k'
    · rw [if_pos hk] at h
      cases h
      rw [Nat.sub_self, List.modify_zero_cons, List.find?_cons, List.find?_cons]
      subst hk
      by_cases hx : k = x
      · rw [decide_eq_true hx, if_pos hx.symm]; rfl
      · rw [decide_eq_false hx, if_neg (fun e => hx e.symm)]
    · rw [if_neg hk] at h
      have hle := (afind_some h).1
      have e : i - j = (i - (j + 1)) + 1 := by omega
      rw [e, List.modify_succ_cons, List.find?_cons, List.find?_cons]
      have ih := find_modify v k x h
      by_cases hx : k' = x
      · rw [decide_eq_true hx, if_neg (fun e => hk (by rw [← e, hx]))]
      · rw [decide_eq_false hx]; exact ih
theorem aget_aset {α β : Type} [DecidableEq α] (l : List (α × β)) (k x : α) (v : β) : aget (aset l k v) x = if x = k then some v else aget l x := by
  unfold aget aset
  rw [aget_val, aget_val]
  cases h : afind l k 0 with
  | none =>
    simp only
    rw [List.find?_append]
    by_cases hx : x = k
    · subst hx
      have : (l.find? fun p => decide (p.1 = x)) = none := by
        rw [List.find?_eq_none]
        intro p hp
        simpa using afind_none.1 h p hp
      rw [this, if_pos rfl]
      simp
    · rw [if_neg hx]
      have : (List.find? (fun p : α × β => decide (p.1 = x)) [(k, v)]) = none := by
        rw [List.find?_cons, decide_eq_false (fun e => hx e.symm)]; rfl
      rw [this, Option.or_none]
  | some p =>
    obtain ⟨i, v0⟩ := p
    exact find_modify v k x h
end Go.Gx
namespace Go.Proofs.Wb
open Go Go.Fw Go.Gx Go.Sb
set_option linter.unusedVariables false
abbrev ML := List (State × Int)
def fR (M : State → ML → Option (Int × ML)) (x : State) (p : Int × ML) : Option (Int × ML) := (M x p.2).bind fun q => (addc p.1 q.1).bind fun t => some (t, q.2)
structure RestEq (M : Nat → State → ML → Option (Int × ML)) (V : State → Prop) (ag : State → Bool) (nx : State → List State) (T : Int) : Prop where
  eq : ∀ fu s ml, V s → M (fu + 1) s ml = if (aget ml s).isSome = true then some ((aget ml s).getD 0, ml) else if ag s = true then (if s.after = T then some (1, aset ml s 1) else (iterL (fR (M fu)) (nx s) (0, ml)).bind fun p => some (p.1, aset p.2 s p.1)) else some (0, aset ml s 0)
  nxV : ∀ s t, V s → s.after < T → t ∈ nx s → V t ∧ t.after = s.after + 1
  le : ∀ s, V s → s.after ≤ T
  len : ∀ s, (nx s).length ≤ 1000
theorem sum_le {α : Type} (f : α → Nat) (B : Nat) : ∀ (l : List α), (∀ x ∈ l, f x ≤ B) → (l.map f).sum ≤ l.length * B
  | [], _ => by simp
  | x :: l, h => by
    rw [List.map_cons, List.sum_cons, List.length_cons, Nat.succ_mul]
    have h1 := h x List.mem_cons_self
    have h2 := sum_le f B l (fun y hy => h y (List.mem_cons_of_mem _ hy))
    omega
theorem R_le {nx : State → List State} {ag : State → Bool} (h : ∀ s, (nx s).length ≤ 1000) : ∀ k s, R nx ag k s ≤ 1000 ^ k
  | 0, s => by rw [R]; split <;> simp
  | k + 1, s => by
    rw [R]
    split
    · have h1 := sum_le (R nx ag k) (1000 ^ k) (nx s) (fun x _ => R_le h k x)
      have h2 := Nat.mul_le_mul_right (1000 ^ k) (h s)
      rw [Nat.pow_succ, Nat.mul_comm]
      omega
    · exact Nat.zero_le _
section
variable {nx : State → List State} {ag : State → Bool} {T : Int}
def valR (nx : State → List State) (ag : State → Bool) (T : Int) (s : State) : Int := (R nx ag (T - s.after).toNat s : Nat)
def Sound (nx : State → List State) (ag : State → Bool) (T : Int) (ml : ML) : Prop := ∀ x v, aget ml x = some v → v = valR nx ag T x
def Closed (nx : State → List State) (ag : State → Bool) (T : Int) (ml : ML) : Prop := ∀ x, (aget ml x).isSome = true → ag x = true → x.after < T → ∀ t ∈ nx x, (aget ml t).isSome = true
def Grows (ml ml' : ML) : Prop := ∀ x, (aget ml x).isSome = true → (aget ml' x).isSome = true
theorem Grows.trans {a b c : ML} (h : Grows a b) (h' : Grows b c) : Grows a c := fun x hx => h' x (h x hx)
theorem Sound.set {ml : ML} (h : Sound nx ag T ml) {s : State} {v : Int} (hv : v = valR nx ag T s) : Sound nx ag T (aset ml s v) := by
  intro x w hx
  rw [aget_aset] at hx
  split at hx
  · rename_i e; subst e; rw [← Option.some.inj hx]; exact hv
  · exact h x w hx
theorem Grows.set (ml : ML) (s : State) (v : Int) : Grows ml (aset ml s v) := by
  intro x hx
  rw [aget_aset]
  split
  · rfl
  · exact hx
theorem Closed.set {ml : ML} (h : Closed nx ag T ml) {s : State} {v : Int} (hs : ag s = true → s.after < T → ∀ t ∈ nx s, (aget ml t).isSome = true) : Closed nx ag T (aset ml s v) := by
  intro x hx ha hl t ht
  by_cases e : x = s
  · subst e; exact Grows.set ml x v t (hs ha hl t ht)
  · rw [aget_aset, if_neg e] at hx
    exact Grows.set ml s v t (h x hx ha hl t ht)
def Good (nx : State → List State) (ag : State → Bool) (T : Int) (ml : ML) (s : State) (r : Option (Int × ML)) : Prop := ∃ ml', r = some (valR nx ag T s, ml') ∧ Sound nx ag T ml' ∧ Closed nx ag T ml' ∧ Grows ml ml' ∧ (aget ml' s).isSome = true
theorem rest_loop {M : State → ML → Option (Int × ML)} : ∀ (l : List State) (n : Int) (ml : ML), (∀ x ∈ l, ∀ ml, Sound nx ag T ml → Closed nx ag T ml → Good nx ag T ml x (M x ml)) → 0 ≤ n → n + ((l.length : Nat) : Int) * 1000000000000 ≤ 1000000000000000 → (∀ x ∈ l, valR nx ag T x ≤ 1000000000000) → Sound nx ag T ml → Closed nx ag T ml →
    ∃ ml', iterL (fR M) l (n, ml) = some (n + ((l.map fun x => R nx ag (T - x.after).toNat x).sum : Nat), ml') ∧ Sound nx ag T ml' ∧ Closed nx ag T ml' ∧ Grows ml ml' ∧ ∀ x ∈ l, (aget ml' x).isSome = true
  | [], n, ml, _, _, _, _, hS, hC => ⟨ml, by simp [iterL], hS, hC, fun _ h => h, fun x hx => by cases hx⟩
  | x :: l, n, ml, hM, h0, hb, hv, hS, hC => by
    obtain ⟨m1, e1, s1, c1, g1, i1⟩ := hM x List.mem_cons_self ml hS hC
    have hx := hv x List.mem_cons_self
    have hx0 : 0 ≤ valR nx ag T x := Int.natCast_nonneg _
    rw [List.length_cons] at hb
    obtain ⟨m2, e2, s2, c2, g2, i2⟩ := rest_loop l (n + valR nx ag T x) m1 (fun y hy => hM y (List.mem_cons_of_mem _ hy)) (by omega) (by push_cast at hb ⊢; omega) (fun y hy => hv y (List.mem_cons_of_mem _ hy)) s1 c1
    refine ⟨m2, ?_, s2, c2, g1.trans g2, fun y hy => ?_⟩
    · rw [iterL]
      unfold fR
      simp only
      rw [e1, Option.bind_some, addc_eq (by push_cast at hb; omega), Option.bind_some, Option.bind_some]
      have := e2
      unfold fR at this
      rw [this, List.map_cons, List.sum_cons]
      unfold valR
      push_cast
      rw [Int.add_assoc]
    · rcases List.mem_cons.1 hy with rfl | hy
      · exact g2 _ i1
      · exact i2 y hy
theorem rest_spec {M : Nat → State → ML → Option (Int × ML)} {V : State → Prop} (h : RestEq M V ag nx T) (hT : 0 ≤ T ∧ T ≤ 4) : ∀ (k : Nat) (fu : Nat) (s : State) (ml : ML), V s → 0 ≤ s.after → (T - s.after).toNat = k → k < fu → Sound nx ag T ml → Closed nx ag T ml → Good nx ag T ml s (M fu s ml) := by
  intro k
  induction k with
  | zero =>
    intro fu s ml hV h0 hk hf hS hC
    obtain ⟨fu, rfl⟩ : ∃ f, fu = f + 1 := ⟨fu - 1, by omega⟩
    have hle := h.le s hV
    have hl : s.after = T := by omega
    rw [h.eq fu s ml hV]
    by_cases h1 : (aget ml s).isSome = true
    · rw [if_pos h1]
      obtain ⟨v, hv⟩ := Option.isSome_iff_exists.1 h1
      refine ⟨ml, ?_, hS, hC, fun _ h => h, h1⟩
      rw [hv, Option.getD_some, hS s v hv]
    · rw [if_neg h1]
      by_cases h2 : ag s = true
      · rw [if_pos h2, if_pos hl]
        have e : (1 : Int) = valR nx ag T s := by unfold valR; rw [hk, R, if_pos h2]; rfl
        refine ⟨_, ?_, hS.set e, hC.set (fun _ hlt => absurd hlt (by omega)), Grows.set _ _ _, by rw [aget_aset, if_pos rfl]; rfl⟩
        rw [← e]
      · rw [if_neg h2]
        have e : (0 : Int) = valR nx ag T s := by unfold valR; rw [hk, R, if_neg h2]; rfl
        refine ⟨_, ?_, hS.set e, hC.set (fun ha => absurd ha h2), Grows.set _ _ _, by rw [aget_aset, if_pos rfl]; rfl⟩
        rw [← e]
  | succ k ih =>
    intro fu s ml hV h0 hk hf hS hC
    obtain ⟨fu, rfl⟩ : ∃ f, fu = f + 1 := ⟨fu - 1, by omega⟩
    have hl : s.after < T := by omega
    rw [h.eq fu s ml hV]
    by_cases h1 : (aget ml s).isSome = true
    · rw [if_pos h1]
      obtain ⟨v, hv⟩ := Option.isSome_iff_exists.1 h1
      refine ⟨ml, ?_, hS, hC, fun _ h => h, h1⟩
      rw [hv, Option.getD_some, hS s v hv]
    · rw [if_neg h1]
      by_cases h2 : ag s = true
      · rw [if_pos h2, if_neg (by omega)]
        have hlen := h.len s
        have hmx : (1000 : Nat) ^ k ≤ 1000 ^ 4 := Nat.pow_le_pow_right (by omega) (by omega)
        obtain ⟨m2, e2, s2, c2, g2, i2⟩ := rest_loop (M := M fu) (nx s) 0 ml (fun x hx ml hS hC => by
            obtain ⟨v1, v2⟩ := h.nxV s x hV hl hx
            exact ih fu x ml v1 (by omega) (by omega) (by omega) hS hC) (by omega) (by omega) (fun x hx => by
            obtain ⟨v1, v2⟩ := h.nxV s x hV hl hx
            have e3 : (T - x.after).toNat = k := by omega
            unfold valR
            rw [e3]
            have := R_le (nx := nx) (ag := ag) h.len k x
            have : R nx ag k x ≤ 1000000000000 := by
              have e4 : (1000 : Nat) ^ 4 = 1000000000000 := by decide
              omega
            omega) hS hC
        have e : ((0 : Int) + (((nx s).map fun x => R nx ag (T - x.after).toNat x).sum : Nat)) = valR nx ag T s := by
          unfold valR
          rw [hk, R, if_pos h2, Int.zero_add]
          congr 2
          apply List.map_congr_left
          intro x hx
          obtain ⟨v1, v2⟩ := h.nxV s x hV hl hx
          rw [show (T - x.after).toNat = k by omega]
        rw [e2, Option.bind_some, e]
        exact ⟨_, rfl, s2.set rfl, c2.set (fun _ _ => i2), g2.trans (Grows.set _ _ _), by rw [aget_aset, if_pos rfl]; rfl⟩
      · rw [if_neg h2]
        have e : (0 : Int) = valR nx ag T s := by unfold valR; rw [hk, R, if_neg h2]; rfl
        refine ⟨_, ?_, hS.set e, hC.set (fun ha => absurd ha h2), Grows.set _ _ _, by rw [aget_aset, if_pos rfl]; rfl⟩
        rw [← e]
end
end Go.Proofs.Wb

namespace Go.Proofs.Wb
open Go Go.Fw Go.Gx Go.Sb
set_option linter.unusedVariables false
set_option maxRecDepth 100000
theorem iterL_pair {α σ τ : Type} (g : σ → τ) {f : α → σ → Option σ} {f' : α → τ → Option τ} (h : ∀ x s, (f x s).map g = f' x (g s)) : ∀ (l : List α) (s : σ), (iterL f l s).map g = iterL f' l (g s)
  | [], s => rfl
  | x :: l, s => by
    rw [iterL, iterL, ← h]
    cases f x s with
    | none => rfl
    | some s' => exact iterL_pair g h l s'
def VS (c : Channel) (s : State) : Prop := (∃ l, rowB c l = true ∧ s.at_ = mkCells l) ∧ 0 ≤ s.after ∧ s.after ≤ c.tides
def agS (cnt : Nat → Bool) (c : Channel) (s : State) : Bool := agP cnt c.sights s.after (clS c.fords.length s)
def nxS (c : Channel) (s : State) : List State := nextL c.cells (rchL c) (c.fords.length : Int) s
theorem putL_len {n : Nat} {reach : List Int} {a : Cells} : ∀ (m : Nat) (pre : List Int), (putL n reach a m pre).length ≤ n ^ m
  | 0, pre => by simp [putL]
  | m + 1, pre => by
    rw [putL, List.length_flatMap]
    have h := sum_le (fun x : Nat => (if okN reach a pre (x : Int) = true then putL n reach a m (pre ++ [(x : Int)]) else []).length) (n ^ m) (List.range n) (fun x _ => by
      split
      · exact putL_len m _
      · exact Nat.zero_le _)
    rw [List.length_range] at h
    rw [Nat.pow_succ, Nat.mul_comm]
    exact h
theorem nxS_len {c : Channel} (r : Right c) (s : State) : (nxS c s).length ≤ 1000 := by
  have hc := r.cells
  have hf := r.fords
  unfold nxS nextL
  rw [List.length_map]
  refine Nat.le_trans (putL_len _ _) ?_
  have h1 : c.cells.toNat ^ (c.fords.length : Int).toNat ≤ 10 ^ (c.fords.length : Int).toNat := Nat.pow_le_pow_left (by omega) _
  have h2 : 10 ^ (c.fords.length : Int).toNat ≤ 10 ^ 3 := Nat.pow_le_pow_right (by omega) (by omega)
  omega
theorem nxS_mem {c : Channel} (r : Right c) {s t : State} : t ∈ nxS c s ↔ ∃ l, CanS c.cells (rchL c) c.fords.length s.at_ l ∧ t = ⟨s.after + 1, mkCells l⟩ := by
  have hc := r.cells
  unfold nxS
  rw [mem_nextL (by omega), Int.toNat_natCast]
theorem row_of_can {c : Channel} {a : Cells} {l : List Int} (h : CanS c.cells (rchL c) c.fords.length a l) : rowB c l = true := by
  rw [rowB_iff]
  refine ⟨h.len, upB_ix.2 fun i hi => h.up i (by rw [← h.len]; exact hi), fun x hx => ?_⟩
  obtain ⟨i, hi, rfl⟩ := List.getElem_of_mem hx
  have := h.inC i (by rw [← h.len]; exact hi)
  simpa [List.getD_eq_getElem?_getD, hi] using this
theorem nxS_V {c : Channel} (r : Right c) {s t : State} (hs : VS c s) (hl : s.after < c.tides) (ht : t ∈ nxS c s) : VS c t ∧ t.after = s.after + 1 := by
  obtain ⟨l, h1, rfl⟩ := (nxS_mem r).1 ht
  obtain ⟨_, h2, h3⟩ := hs
  exact ⟨⟨⟨l, row_of_can h1, rfl⟩, by simp only; omega, by simp only; omega⟩, rfl⟩
theorem nxS_nodup {c : Channel} (r : Right c) (s : State) : (nxS c s).Nodup := nextL_nodup (by have := r.fords; omega)
theorem VS_next {c : Channel} (r : Right c) {s : State} (h : VS c s) : nextOK c.cells (rchL c) (c.fords.length : Int) s := by
  obtain ⟨⟨l, h1, h2⟩, h3, h4⟩ := h
  have ht := r.tides
  obtain ⟨k, a⟩ := s
  simp only at h2 h3 h4
  subst h2
  exact nextOK_of r h1 (by omega)
def MR (c : Channel) (fu : Nat) (s : State) (ml : ML) : Option (Int × ML) := (jN fu s ml c.cells c.tides c.fords c.sands c.sights (rchL c)).map fun q => (q.r0, q.a11)
theorem restEq_all {c : Channel} (r : Right c) : RestEq (MR c) (VS c) (agS (fun _ => true) c) (nxS c) c.tides where
  eq fu s ml hV := by
    have hf := r.fords
    have hs := r.sights
    unfold MR
    rw [jN]
    unfold yS
    by_cases h1 : (aget ml s).isSome = true
    · rw [if_pos h1, if_pos h1]; rfl
    · rw [if_neg h1, if_neg h1, Z1 (by omega) (by omega), Option.bind_some, not_true_if]
      show _ = if agS (fun _ => true) c s = true then _ else _
      unfold agS
      by_cases h2 : agP (fun _ => true) c.sights s.after (clS c.fords.length s) = true
      · rw [if_pos h2, if_pos h2]
        by_cases h3 : s.after = c.tides
        · rw [if_pos h3, if_pos h3]; rfl
        · rw [if_neg h3, if_neg h3]
          unfold jU
          rw [Option.bind_some, if_pos (VS_next r hV)]
          have hp := iterL_pair (fun q : kK => (q.n9, q.a11)) (f := qt (jN fu) c.cells c.tides c.fords c.sands c.sights (rchL c)) (f' := fR (MR c fu)) (fun x q => by
            unfold qt fR MR
            cases jN fu x q.a11 c.cells c.tides c.fords c.sands c.sights (rchL c) with
            | none => rfl
            | some q' =>
              simp only [Option.bind_some, Option.map_some]
              cases addc q.n9 q'.r0 <;> rfl) (nxS c s) ⟨0, ml⟩
          simp only at hp
          show _ = (iterL (fR (MR c fu)) (nxS c s) (0, ml)).bind _
          rw [← hp]
          unfold nxS
          cases iterL (qt (jN fu) c.cells c.tides c.fords c.sands c.sights (rchL c)) (nextL c.cells (rchL c) (c.fords.length : Int) s) ⟨0, ml⟩ <;> rfl
      · rw [if_neg h2, if_neg h2]; rfl
  nxV s t hs hl ht := nxS_V r hs hl ht
  le s hs := hs.2.2
  len s := nxS_len r s
def first (c : Channel) : State := ⟨0, mkCells c.fords⟩
theorem first_V {c : Channel} (r : Right c) : VS c (first c) := ⟨⟨c.fords, rowB_iff.2 ⟨rfl, r.up, r.fcell⟩, rfl⟩, Int.le_refl _, r.tides.1⟩
theorem jac {c : Channel} (r : Right c) : ∃ ml, yI c.cells c.tides c.fords c.sands c.sights (rchL c) = some ml ∧ Sound (nxS c) (agS (fun _ => true) c) c.tides ml ∧ Closed (nxS c) (agS (fun _ => true) c) c.tides ml ∧ (aget ml (first c)).isSome = true := by
  have hf := r.fords
  have ht := r.tides
  unfold yI
  rw [Qu (by omega), Option.bind_some]
  obtain ⟨ml, e, s1, c1, _, i1⟩ := rest_spec (restEq_all r) ht (c.tides - (first c).after).toNat FU (first c) [] (first_V r) (Int.le_refl _) rfl (by unfold first FU; simp only; omega) (fun x v hx => by simp [aget, afind] at hx) (fun x hx => by simp [aget, afind] at hx)
  unfold MR at e
  rw [Option.map_eq_some_iff] at e
  obtain ⟨q, e1, e2⟩ := e
  simp only [Prod.mk.injEq] at e2
  refine ⟨ml, ?_, s1, c1, i1⟩
  show (jN FU (first c) [] c.cells c.tides c.fords c.sands c.sights (rchL c)).bind _ = _
  rw [e1, Option.bind_some, e2.2]
def cntS (cnt : Nat → Bool) (c : Channel) : Nat := R (nxS c) (agS cnt c) c.tides.toNat (first c)
theorem ja4 {c : Channel} (r : Right c) : yG c.cells c.tides c.fords c.sands c.sights (rchL c) = some (cntS (fun _ => true) c : Int) := by
  have hf := r.fords
  unfold yG zR
  obtain ⟨ml, e, s1, c1, i1⟩ := jac r
  rw [Option.bind_some, e, Option.bind_some, Qu (by omega), Option.bind_some]
  obtain ⟨v, hv⟩ := Option.isSome_iff_exists.1 i1
  have := s1 _ _ hv
  show some ((aget ml (first c)).getD 0) = _
  rw [hv, Option.getD_some, this]
  unfold valR cntS first
  simp
theorem ja1 {c : Channel} (h : Few c) : yQ c = some (if chk c = 0 then ⟨(cntS (fun _ => true) c : Int), 0⟩ else ⟨0, chk c⟩) := by
  unfold yQ
  rw [QC h, Option.bind_some]
  by_cases h0 : chk c = 0
  · rw [if_pos h0, if_pos h0, oc_inr, ja4 (rightOf h0)]; rfl
  · rw [if_neg h0, if_neg h0, oc_inl]
end Go.Proofs.Wb

namespace Go.Proofs.Wb
open Go Go.Fw Go.Gx Go.Sb
set_option linter.unusedVariables false
set_option maxRecDepth 100000
def stepP (ml : ML) (p : List (State × Bool) × List State) (x : State) : List (State × Bool) × List State := if 0 < (aget ml x).getD 0 ∧ (aget p.1 x).getD false = false then (aset p.1 x true, p.2 ++ [x]) else p
theorem stepP_len (ml : ML) : ∀ (L : List State) (p : List (State × Bool) × List State), (L.foldl (stepP ml) p).2.length ≤ p.2.length + L.length
  | [], p => by simp
  | x :: L, p => by
    rw [List.foldl_cons, List.length_cons]
    have h := stepP_len ml L (stepP ml p x)
    have h2 : (stepP ml p x).2.length ≤ p.2.length + 1 := by
      unfold stepP
      split
      · simp
      · omega
    omega
theorem fit_F2 (ml : ML) : ∀ (L : List State) (p : List (State × Bool) × List State), p.2.length + L.length ≤ 3000000000000 → iterL (q4 ml) L ⟨p.1, p.2⟩ = some ⟨(L.foldl (stepP ml) p).1, (L.foldl (stepP ml) p).2⟩
  | [], p, _ => rfl
  | x :: L, p, h => by
    rw [List.length_cons] at h
    rw [iterL, List.foldl_cons]
    have hs : q4 ml x ⟨p.1, p.2⟩ = some ⟨(stepP ml p x).1, (stepP ml p x).2⟩ := by
      unfold q4 stepP
      simp only
      by_cases h1 : 0 < (aget ml x).getD 0
      · rw [if_pos h1, Option.bind_some]
        by_cases h2 : (aget p.1 x).getD false = false
        · rw [if_pos (by simp [h2]), if_pos ⟨h1, h2⟩, appc_eq (by simp; omega)]
          rfl
        · rw [if_neg (by simpa using h2), if_neg (fun q => h2 q.2)]
      · rw [if_neg h1, Option.bind_some, if_neg (by decide), if_neg (fun q => h1 q.1)]
    have h2 : (stepP ml p x).2.length ≤ p.2.length + 1 := stepP_len ml [x] p
    rw [hs, Option.bind_some]
    exact fit_F2 ml L (stepP ml p x) (by omega)
def Met (p : List (State × Bool) × List State) : Prop := ∀ x, (aget p.1 x).getD false = decide (x ∈ p.2)
theorem stepP_met {ml : ML} {p : List (State × Bool) × List State} {x : State} (h : Met p) : Met (stepP ml p x) ∧ ∀ y, y ∈ (stepP ml p x).2 ↔ y ∈ p.2 ∨ (y = x ∧ 0 < (aget ml y).getD 0) := by
  unfold stepP
  by_cases h1 : 0 < (aget ml x).getD 0 ∧ (aget p.1 x).getD false = false
  · rw [if_pos h1]
    constructor
    · intro y
      simp only
      rw [aget_aset]
      by_cases e : y = x
      · rw [if_pos e]; simp [e]
      · rw [if_neg e, h y]; simp [e]
    · intro y
      simp only [List.mem_append, List.mem_singleton]
      constructor
      · rintro (h2 | rfl)
        · exact .inl h2
        · exact .inr ⟨rfl, h1.1⟩
      · rintro (h2 | ⟨rfl, _⟩)
        · exact .inl h2
        · exact .inr rfl
  · rw [if_neg h1]
    refine ⟨h, fun y => ⟨.inl, ?_⟩⟩
    rintro (h2 | ⟨rfl, h2⟩)
    · exact h2
    · have h3 : ¬ (aget p.1 y).getD false = false := fun q => h1 ⟨h2, q⟩
      rw [h y] at h3
      simpa using h3
theorem foldP_met {ml : ML} : ∀ (L : List State) (p : List (State × Bool) × List State), Met p → Met (L.foldl (stepP ml) p) ∧ ∀ y, y ∈ (L.foldl (stepP ml) p).2 ↔ y ∈ p.2 ∨ (y ∈ L ∧ 0 < (aget ml y).getD 0)
  | [], p, h => ⟨h, fun y => by simp⟩
  | x :: L, p, h => by
    obtain ⟨h1, h2⟩ := stepP_met (ml := ml) (x := x) h
    obtain ⟨h3, h4⟩ := foldP_met L _ h1
    refine ⟨h3, fun y => ?_⟩
    rw [List.foldl_cons, h4 y, h2 y, List.mem_cons]
    constructor
    · rintro ((h | ⟨h, q⟩) | ⟨h, q⟩)
      · exact .inl h
      · exact .inr ⟨.inl h, q⟩
      · exact .inr ⟨.inr h, q⟩
    · rintro (h | ⟨h | h, q⟩)
      · exact .inl (.inl h)
      · exact .inl (.inr ⟨h, q⟩)
      · exact .inr ⟨h, q⟩
def rowP (ml : ML) (nx : State → List State) (l : List State) : List State := ((l.flatMap nx).foldl (stepP ml) ([], [])).2
theorem mem_rowP {ml : ML} {nx : State → List State} {l : List State} {y : State} : y ∈ rowP ml nx l ↔ (∃ s ∈ l, y ∈ nx s) ∧ 0 < (aget ml y).getD 0 := by
  unfold rowP
  rw [(foldP_met (ml := ml) (l.flatMap nx) ([], []) (fun x => by simp [aget, afind])).2 y, List.mem_flatMap]
  simp
theorem flatMap_len {nx : State → List State} (h : ∀ s, (nx s).length ≤ 1000) (l : List State) : (l.flatMap nx).length ≤ l.length * 1000 := by
  rw [List.length_flatMap]
  exact sum_le (fun s => (nx s).length) 1000 l (fun x _ => h x)
theorem rowP_len {ml : ML} {nx : State → List State} (h : ∀ s, (nx s).length ≤ 1000) (l : List State) : (rowP ml nx l).length ≤ l.length * 1000 := by
  have := stepP_len ml (l.flatMap nx) ([], [])
  have := flatMap_len h l
  unfold rowP
  simp only [List.length_nil, Nat.zero_add] at *
  omega
theorem fit_L1 {c : Channel} (r : Right c) (ml : ML) {l : List State} (hl : l.length ≤ 1000000000) (hV : ∀ s ∈ l, VS c s) :
    ∃ met, iterM FU (qf l c.cells c.tides c.fords c.sands c.sights (rchL c) ml) ⟨0, [], []⟩ = some ⟨met, rowP ml (nxS c) l⟩ := by
  refine ⟨((l.flatMap (nxS c)).foldl (stepP ml) ([], [])).1, ?_⟩
  have key := iterM_run (f := qf l c.cells c.tides c.fords c.sands c.sights (rchL c) ml) (fun j => ⟨(j : Int), (((l.take j).flatMap (nxS c)).foldl (stepP ml) ([], [])).1, (((l.take j).flatMap (nxS c)).foldl (stepP ml) ([], [])).2⟩) l.length (b := ⟨((l.flatMap (nxS c)).foldl (stepP ml) ([], [])).1, ((l.flatMap (nxS c)).foldl (stepP ml) ([], [])).2⟩) (fun j hj => ?_) ?_ FU (FU_lt (by omega))
  · exact key
  · have e : l.take (j + 1) = l.take j ++ [l[j]] := by rw [List.take_append_getElem]
    have hx : l.getD j default = l[j] := by simp [List.getD_eq_getElem?_getD, hj]
    unfold qf jU
    simp only
    rw [if_pos (by omega), ix_nat default hj, Option.bind_some, hx, Option.bind_some, if_pos (VS_next r (hV _ (List.getElem_mem hj)))]
    have h1 := stepP_len ml ((l.take j).flatMap (nxS c)) ([], [])
    have h2 := flatMap_len (nxS_len r) (l.take j)
    have h3 := nxS_len r l[j]
    have h4 : (l.take j).length ≤ l.length := by rw [List.length_take]; omega
    have h5 := Nat.mul_le_mul_right 1000 h4
    have hf := fit_F2 ml (nxS c l[j]) (((l.take j).flatMap (nxS c)).foldl (stepP ml) ([], [])) (by simp only [List.length_nil, Nat.zero_add] at h1; omega)
    unfold nxS at hf
    unfold nxS
    rw [hf, Option.bind_some, addc_eq (by omega), Option.bind_some, e, List.flatMap_append, List.foldl_append]
    simp
  · unfold qf
    simp only
    rw [if_neg (by omega), List.take_length]
def lev (c : Channel) (ml : ML) : Nat → List State
  | 0 => [first c]
  | k + 1 => rowP ml (nxS c) (lev c ml k)
theorem lev_len {c : Channel} (r : Right c) (ml : ML) : ∀ k, (lev c ml k).length ≤ 1000 ^ k
  | 0 => by simp [lev]
  | k + 1 => by
    have h := rowP_len (ml := ml) (nxS_len r) (lev c ml k)
    have h2 := Nat.mul_le_mul_right 1000 (lev_len r ml k)
    rw [lev, Nat.pow_succ]
    omega
theorem lev_V {c : Channel} (r : Right c) (ml : ML) : ∀ k : Nat, (k : Int) ≤ c.tides → ∀ s ∈ lev c ml k, VS c s ∧ s.after = (k : Int)
  | 0, _, s, hs => by
    simp only [lev, List.mem_singleton] at hs
    subst hs
    exact ⟨first_V r, rfl⟩
  | k + 1, hk, s, hs => by
    obtain ⟨⟨u, hu, hn⟩, _⟩ := mem_rowP.1 hs
    obtain ⟨h1, h2⟩ := lev_V r ml k (by omega) u hu
    obtain ⟨h3, h4⟩ := nxS_V r h1 (by omega) hn
    exact ⟨h3, by omega⟩
theorem lev_on {c : Channel} (r : Right c) {ml : ML} (hS : Sound (nxS c) (agS (fun _ => true) c) c.tides ml) (hC : Closed (nxS c) (agS (fun _ => true) c) c.tides ml) (hi : (aget ml (first c)).isSome = true) (hp : 0 < cntS (fun _ => true) c) :
    ∀ k : Nat, (k : Int) ≤ c.tides → ∀ t, (t ∈ lev c ml k ↔ On (nxS c) (agS (fun _ => true) c) k c.tides.toNat (first c) t) ∧ (t ∈ lev c ml k → (aget ml t).isSome = true)
  | 0, _, t => by
    constructor
    · rw [lev, List.mem_singleton, on_zero]
      constructor
      · intro h; exact ⟨h, hp⟩
      · exact fun h => h.1
    · intro h
      rw [lev, List.mem_singleton] at h
      rw [h]; exact hi
  | k + 1, hk, t => by
    have ih := lev_on r hS hC hi hp k (by omega)
    have hsome : t ∈ lev c ml (k + 1) → (aget ml t).isSome = true := by
      intro h
      have h2 := (mem_rowP.1 h).2
      cases hq : aget ml t with
      | none => rw [hq] at h2; simp at h2
      | some v => rfl
    refine ⟨?_, hsome⟩
    rw [on_succ (by omega)]
    constructor
    · intro h
      obtain ⟨⟨u, hu, hn⟩, h2⟩ := mem_rowP.1 h
      obtain ⟨v1, v2⟩ := lev_V r ml k (by omega) u hu
      obtain ⟨v3, v4⟩ := nxS_V r v1 (by omega) hn
      refine ⟨u, (ih u).1.1 hu, hn, ?_⟩
      obtain ⟨v, hv⟩ := Option.isSome_iff_exists.1 (hsome h)
      have h3 := hS t v hv
      rw [hv, Option.getD_some, h3] at h2
      unfold valR at h2
      rw [show (c.tides - t.after).toNat = c.tides.toNat - k - 1 by omega] at h2
      omega
    · rintro ⟨u, hu, hn, h2⟩
      have hu' := (ih u).1.2 hu
      obtain ⟨v1, v2⟩ := lev_V r ml k (by omega) u hu'
      obtain ⟨v3, v4⟩ := nxS_V r v1 (by omega) hn
      have hag := R_ag (on_R (by omega) hu)
      have hst := hC u ((ih u).2 hu') hag (by omega) t hn
      obtain ⟨v, hv⟩ := Option.isSome_iff_exists.1 hst
      have h3 := hS t v hv
      refine mem_rowP.2 ⟨⟨u, hu', hn⟩, ?_⟩
      rw [hv, Option.getD_some, h3]
      unfold valR
      rw [show (c.tides - t.after).toNat = c.tides.toNat - k - 1 by omega]
      omega
structure Levs (c : Channel) (L : List (List State)) : Prop where
  len : (L.length : Int) = c.tides + 1
  mem : ∀ k : Nat, (k : Int) ≤ c.tides → ∀ t, t ∈ L.getD k [] ↔ On (nxS c) (agS (fun _ => true) c) k c.tides.toNat (first c) t
  val : ∀ k : Nat, (k : Int) ≤ c.tides → ∀ s ∈ L.getD k [], VS c s ∧ s.after = (k : Int)
  bnd : ∀ k : Nat, (k : Int) ≤ c.tides → (L.getD k []).length ≤ 1000000000000
theorem jaA {c : Channel} (r : Right c) : ∃ L, yT c.cells c.tides c.fords c.sands c.sights (rchL c) = some (if cntS (fun _ => true) c = 0 then .inl () else .inr L) ∧ (cntS (fun _ => true) c ≠ 0 → Levs c L) := by
  have hf := r.fords
  have ht := r.tides
  obtain ⟨ml, e, s1, c1, i1⟩ := jac r
  obtain ⟨v, hv⟩ := Option.isSome_iff_exists.1 i1
  have hv2 := s1 _ _ hv
  have hv3 : v = (cntS (fun _ => true) c : Int) := by
    rw [hv2]
    unfold valR cntS first
    simp
  refine ⟨(List.range (c.tides.toNat + 1)).map (lev c ml), ?_, ?_⟩
  · unfold yT zR
    rw [Option.bind_some, e, Option.bind_some, Qu (by omega), Option.bind_some]
    show (if (aget ml (first c)).getD 0 = 0 then _ else _) = _
    rw [hv, Option.getD_some, hv3]
    by_cases h0 : cntS (fun _ => true) c = 0
    · rw [if_pos (by omega), if_pos h0]
    · rw [if_neg (by omega), if_neg h0, Option.bind_some]
      have key := iterM_run (f := qc c.tides c.cells c.fords c.sands c.sights (rchL c) ml) (fun j => ⟨(j : Int), (List.range (j + 1)).map (lev c ml)⟩) c.tides.toNat (b := (List.range (c.tides.toNat + 1)).map (lev c ml)) (fun j hj => ?_) ?_ FU (FU_lt (by omega))
      · show (iterM FU (qc c.tides c.cells c.fords c.sands c.sights (rchL c) ml) ⟨((0 : Nat) : Int), (List.range (0 + 1)).map (lev c ml)⟩).bind _ = _
        rw [key]; rfl
      · unfold qc
        simp only
        have hlen := lev_len r ml j
        have hpw : (1000 : Nat) ^ j ≤ 1000 ^ 3 := Nat.pow_le_pow_right (by omega) (by omega)
        have e3 : (1000 : Nat) ^ 3 = 1000000000 := by decide
        obtain ⟨met, hm⟩ := fit_L1 r ml (l := lev c ml j) (by omega) (fun s hs => (lev_V r ml j (by omega) s hs).1)
        rw [if_pos (by omega), range_ix (by omega), Option.bind_some, hm, Option.bind_some, appc_eq (by simp; omega), Option.bind_some, addc_eq (by omega), Option.bind_some, List.range_succ (n := j + 1), List.map_append]
        rfl
      · unfold qc
        simp only
        rw [if_neg (by omega)]
  · intro h0
    have hg : ∀ k : Nat, (k : Int) ≤ c.tides → ((List.range (c.tides.toNat + 1)).map (lev c ml)).getD k [] = lev c ml k := by
      intro k hk
      rw [List.getD_eq_getElem?_getD, List.getElem?_map, List.getElem?_range (by omega)]
      rfl
    refine ⟨by simp; omega, fun k hk t => ?_, fun k hk s hs => ?_, fun k hk => ?_⟩
    · rw [hg k hk]; exact (lev_on r s1 c1 i1 (by omega) k hk t).1
    · rw [hg k hk] at hs; exact lev_V r ml k hk s hs
    · rw [hg k hk]
      have := lev_len r ml k
      have hpw : (1000 : Nat) ^ k ≤ 1000 ^ 4 := Nat.pow_le_pow_right (by omega) (by omega)
      have e4 : (1000 : Nat) ^ 4 = 1000000000000 := by decide
      omega
theorem Yp {c : Channel} (h : Few c) : ∃ L, yg c = some (if chk c = 0 then (if cntS (fun _ => true) c = 0 then .inl 7 else .inr ⟨c.cells, c.tides, L, rchL c⟩) else .inl (chk c)) ∧ (chk c = 0 → cntS (fun _ => true) c ≠ 0 → Levs c L) := by
  unfold yg
  rw [QC h, Option.bind_some]
  by_cases h0 : chk c = 0
  · have r := rightOf h0
    obtain ⟨L, e, hL⟩ := jaA r
    refine ⟨L, ?_, fun _ h1 => hL h1⟩
    rw [if_pos h0, if_pos h0, oc_inr, e, Option.bind_some]
    by_cases h1 : cntS (fun _ => true) c = 0
    · rw [if_pos h1, if_pos h1, oc_inl]
    · rw [if_neg h1, if_neg h1, oc_inr, if_pos (by have := (hL h1).len; have := r.tides; omega)]
  · exact ⟨[], by rw [if_neg h0, if_neg h0, oc_inl], fun h => absurd h h0⟩
end Go.Proofs.Wb

namespace Go.Proofs.Wb
open Go Go.Fw Go.Gx Go.Sb
set_option linter.unusedVariables false
set_option maxRecDepth 100000
def sumN {α : Type} (l : List α) (f : α → Nat) : Nat := (l.map f).sum
theorem sumN_nil {α : Type} (f : α → Nat) : sumN [] f = 0 := rfl
theorem sumN_cons {α : Type} (x : α) (l : List α) (f : α → Nat) : sumN (x :: l) f = f x + sumN l f := by unfold sumN; rw [List.map_cons, List.sum_cons]
theorem sumN_congr {α : Type} {l : List α} {f g : α → Nat} (h : ∀ x ∈ l, f x = g x) : sumN l f = sumN l g := by unfold sumN; rw [List.map_congr_left h]
theorem sumN_zero {α : Type} {l : List α} {f : α → Nat} (h : ∀ x ∈ l, f x = 0) : sumN l f = 0 := by
  induction l with
  | nil => rfl
  | cons x l ih => rw [sumN_cons, h x List.mem_cons_self, ih (fun y hy => h y (List.mem_cons_of_mem _ hy))]
theorem sumN_add {α : Type} (l : List α) (f g : α → Nat) : sumN l (fun x => f x + g x) = sumN l f + sumN l g := by
  induction l with
  | nil => rfl
  | cons x l ih => rw [sumN_cons, sumN_cons, sumN_cons, ih]; omega
theorem sumN_mul {α : Type} (l : List α) (f : α → Nat) (k : Nat) : sumN l (fun x => f x * k) = sumN l f * k := by
  induction l with
  | nil => simp [sumN]
  | cons x l ih => rw [sumN_cons, sumN_cons, ih, Nat.add_mul]
theorem sumN_mul' {α : Type} (l : List α) (f : α → Nat) (k : Nat) : sumN l (fun x => k * f x) = k * sumN l f := by
  induction l with
  | nil => simp [sumN]
  | cons x l ih => rw [sumN_cons, sumN_cons, ih, Nat.mul_add]
theorem sumN_comm {α β : Type} (l : List α) (m : List β) (f : α → β → Nat) : sumN l (fun x => sumN m fun y => f x y) = sumN m fun y => sumN l fun x => f x y := by
  induction l with
  | nil => rw [sumN_nil, sumN_zero (fun y _ => sumN_nil _)]
  | cons x l ih =>
    rw [sumN_cons, ih, ← sumN_add]
    refine sumN_congr fun y _ => ?_
    rw [sumN_cons]
theorem sumN_pos {α : Type} {l : List α} {f : α → Nat} : 0 < sumN l f ↔ ∃ x ∈ l, 0 < f x := by
  induction l with
  | nil => simp [sumN]
  | cons x l ih =>
    rw [sumN_cons]
    constructor
    · intro h
      by_cases hx : 0 < f x
      · exact ⟨x, List.mem_cons_self, hx⟩
      · obtain ⟨y, hy, h2⟩ := ih.1 (by omega)
        exact ⟨y, List.mem_cons_of_mem _ hy, h2⟩
    · rintro ⟨y, hy, h⟩
      rcases List.mem_cons.1 hy with rfl | hy
      · omega
      · have := ih.2 ⟨y, hy, h⟩; omega
theorem sumN_perm {α : Type} {l m : List α} (h : l.Perm m) (f : α → Nat) : sumN l f = sumN m f := by
  unfold sumN
  exact (h.map f).sum_nat
theorem sumN_map {α β : Type} (l : List α) (g : α → β) (f : β → Nat) : sumN (l.map g) f = sumN l fun x => f (g x) := by unfold sumN; rw [List.map_map]; rfl
theorem sumN_filter {α : Type} (l : List α) (p : α → Bool) (f : α → Nat) : sumN (l.filter p) f = sumN l fun x => if p x = true then f x else 0 := by
  induction l with
  | nil => rfl
  | cons x l ih =>
    rw [List.filter_cons, sumN_cons, ← ih]
    split
    · rw [sumN_cons]
    · rw [Nat.zero_add]
theorem sumN_one {α : Type} [DecidableEq α] {l : List α} (hn : l.Nodup) {a : α} (ha : a ∈ l) (k : Nat) : sumN l (fun x => if x = a then k else 0) = k := by
  induction l with
  | nil => cases ha
  | cons x l ih =>
    obtain ⟨h1, h2⟩ := List.nodup_cons.1 hn
    rw [sumN_cons]
    by_cases hx : x = a
    · subst hx
      rw [if_pos rfl, sumN_zero (fun y hy => if_neg (fun e : y = x => h1 (e ▸ hy)))]
      rfl
    · rw [if_neg hx, ih h2 ((List.mem_cons.1 ha).resolve_left (fun e => hx e.symm)), Nat.zero_add]
def incL (below : Nat) : Nat → Nat → List (List Int)
  | 0, _ => [[]]
  | m + 1, fr => (List.range (below - fr)).flatMap fun d => (incL below m (fr + d + 1)).map (((fr + d : Nat) : Int) :: ·)
theorem mem_incL {below : Nat} : ∀ (m fr : Nat) (l : List Int), l ∈ incL below m fr ↔ l.length = m ∧ upB l = true ∧ ∀ x ∈ l, (fr : Int) ≤ x ∧ x < (below : Int)
  | 0, fr, l => by
    rw [incL, List.mem_singleton]
    constructor
    · rintro rfl; exact ⟨rfl, rfl, fun x hx => by cases hx⟩
    · rintro ⟨h, _⟩; exact List.length_eq_zero_iff.1 h
  | m + 1, fr, l => by
    rw [incL]
    simp only [List.mem_flatMap, List.mem_range, List.mem_map]
    constructor
    · rintro ⟨d, hd, v, hv, rfl⟩
      obtain ⟨h1, h2, h3⟩ := (mem_incL m _ v).1 hv
      refine ⟨by simp [h1], ?_, fun x hx => ?_⟩
      · rw [upB_iff, List.pairwise_cons]
        exact ⟨fun y hy => by have := h3 y hy; push_cast at this ⊢; omega, upB_iff.1 h2⟩
      · rcases List.mem_cons.1 hx with rfl | hx
        · push_cast; omega
        · have := h3 x hx; push_cast at this; omega
    · rintro ⟨h1, h2, h3⟩
      cases l with
      | nil => simp at h1
      | cons y v =>
        have hy := h3 y List.mem_cons_self
        obtain ⟨q1, q2⟩ := List.pairwise_cons.1 (upB_iff.1 h2)
        refine ⟨y.toNat - fr, by omega, v, (mem_incL m _ v).2 ⟨by simpa using h1, upB_iff.2 q2, fun x hx => ?_⟩, ?_⟩
        · have a := q1 x hx
          have b := h3 x (List.mem_cons_of_mem _ hx)
          push_cast
          omega
        · congr 1
          omega
theorem incL_nodup {below : Nat} : ∀ (m fr : Nat), (incL below m fr).Nodup
  | 0, fr => by simp [incL]
  | m + 1, fr => by
    rw [incL]
    refine nodup_flatMap' List.nodup_range (fun d _ => nodup_map' (incL_nodup m _) (fun a _ b _ h => by simpa using h)) ?_
    intro d _ e _ w h1 h2
    obtain ⟨v, _, rfl⟩ := List.mem_map.1 h1
    obtain ⟨v', _, he⟩ := List.mem_map.1 h2
    injection he with he _
    omega
def LL (c : Channel) : List (List Int) := incL c.cells.toNat c.fords.length 0
theorem mem_LL {c : Channel} (hc : 0 ≤ c.cells) {l : List Int} : l ∈ LL c ↔ rowB c l = true := by
  unfold LL
  rw [mem_incL, rowB_iff]
  constructor
  · rintro ⟨h1, h2, h3⟩; exact ⟨h1, h2, fun x hx => by have := h3 x hx; push_cast at this; omega⟩
  · rintro ⟨h1, h2, h3⟩; exact ⟨h1, h2, fun x hx => by have := h3 x hx; push_cast; omega⟩
theorem LL_nodup (c : Channel) : (LL c).Nodup := incL_nodup _ _
def stL (k : Nat) (l : List Int) : State := ⟨(k : Int), mkCells l⟩
theorem nxS_perm {c : Channel} (r : Right c) {k : Nat} {a : List Int} (ha : rowB c a = true) : (nxS c (stL k a)).Perm (((LL c).filter fun l => canB c.sands a l).map (stL (k + 1))) := by
  have hc := r.cells
  have hf := r.fords
  refine (List.perm_ext_iff_of_nodup (nxS_nodup r _) (nodup_map' ((LL_nodup c).filter _) (fun x hx y hy h => ?_))).2 (fun t => ?_)
  · have hx' := (rowB_iff.1 ((mem_LL (by omega)).1 (List.mem_filter.1 hx).1)).1
    have hy' := (rowB_iff.1 ((mem_LL (by omega)).1 (List.mem_filter.1 hy).1)).1
    simp only [stL, State.mk.injEq, true_and] at h
    exact mkCells_inj (by omega) (by omega) h
  · rw [nxS_mem r, List.mem_map]
    constructor
    · rintro ⟨l, h, rfl⟩
      have hr := row_of_can h
      exact ⟨l, List.mem_filter.2 ⟨(mem_LL (by omega)).2 hr, (can_iff r ha hr).2 h⟩, by simp [stL]⟩
    · rintro ⟨l, h, rfl⟩
      obtain ⟨h1, h2⟩ := List.mem_filter.1 h
      exact ⟨l, (can_iff r ha ((mem_LL (by omega)).1 h1)).1 h2, by simp [stL]⟩
def FcL (cnt : Nat → Bool) (c : Channel) : Nat → List Int → Nat
  | 0, l => if agP cnt c.sights 0 l = true ∧ l = c.fords then 1 else 0
  | k + 1, l => if agP cnt c.sights ((k + 1 : Nat) : Int) l = true then sumN (LL c) fun a => if canB c.sands a l = true then FcL cnt c k a else 0 else 0
theorem agS_stL {cnt : Nat → Bool} {c : Channel} (r : Right c) {k : Nat} {l : List Int} (h : rowB c l = true) : agS cnt c (stL k l) = agP cnt c.sights (k : Int) l := by
  have hf := r.fords
  have h1 := (rowB_iff.1 h).1
  unfold agS stL
  simp only
  rw [← h1, clS_mk (by omega)]
theorem R_stL {cnt : Nat → Bool} {c : Channel} (r : Right c) {j k : Nat} {a : List Int} (ha : rowB c a = true) : R (nxS c) (agS cnt c) (j + 1) (stL k a) = if agP cnt c.sights (k : Int) a = true then sumN (LL c) fun l => if canB c.sands a l = true then R (nxS c) (agS cnt c) j (stL (k + 1) l) else 0 else 0 := by
  rw [R, agS_stL r ha]
  by_cases h : agP cnt c.sights (k : Int) a = true
  · rw [if_pos h, if_pos h]
    show sumN (nxS c (stL k a)) _ = _
    rw [sumN_perm (nxS_perm r ha), sumN_map, sumN_filter]
  · rw [if_neg h, if_neg h]
theorem FcL_ag {cnt : Nat → Bool} {c : Channel} {k : Nat} {l : List Int} (h : ¬ agP cnt c.sights (k : Int) l = true) : FcL cnt c k l = 0 := by
  cases k with
  | zero => rw [FcL, if_neg (fun q => h q.1)]
  | succ k => rw [FcL, if_neg h]
theorem FcL_sum {cnt : Nat → Bool} {c : Channel} (r : Right c) : ∀ (k j : Nat), sumN (LL c) (fun l => FcL cnt c k l * R (nxS c) (agS cnt c) j (stL k l)) = R (nxS c) (agS cnt c) (k + j) (first c)
  | 0, j => by
    have hc := r.cells
    have hfr : rowB c c.fords = true := rowB_iff.2 ⟨rfl, r.up, r.fcell⟩
    have e : sumN (LL c) (fun l => FcL cnt c 0 l * R (nxS c) (agS cnt c) j (stL 0 l)) = sumN (LL c) (fun l => if l = c.fords then R (nxS c) (agS cnt c) j (first c) else 0) := by
      refine sumN_congr fun l hl => ?_
      by_cases h : l = c.fords
      · subst h
        rw [if_pos rfl, FcL]
        by_cases h2 : agP cnt c.sights 0 c.fords = true
        · rw [if_pos ⟨h2, rfl⟩, Nat.one_mul]; rfl
        · rw [if_neg (fun q => h2 q.1), Nat.zero_mul]
          have h3 : ¬ 0 < R (nxS c) (agS cnt c) j (first c) := fun q => by
            have := R_ag q
            rw [show first c = stL 0 c.fords from rfl, agS_stL r hfr] at this
            exact h2 this
          omega
      · rw [if_neg h, FcL, if_neg (fun q => h q.2), Nat.zero_mul]
    rw [e, sumN_one (LL_nodup c) ((mem_LL (by omega)).2 hfr), Nat.zero_add]
  | k + 1, j => by
    have hc := r.cells
    have ih := FcL_sum (cnt := cnt) r k (j + 1)
    rw [show k + 1 + j = k + (j + 1) by omega, ← ih]
    have e1 : sumN (LL c) (fun l => FcL cnt c (k + 1) l * R (nxS c) (agS cnt c) j (stL (k + 1) l)) = sumN (LL c) (fun l => sumN (LL c) fun a => (if canB c.sands a l = true then FcL cnt c k a else 0) * R (nxS c) (agS cnt c) j (stL (k + 1) l)) := by
      refine sumN_congr fun l hl => ?_
      rw [sumN_mul, FcL]
      by_cases h : agP cnt c.sights ((k + 1 : Nat) : Int) l = true
      · rw [if_pos h]
      · rw [if_neg h, Nat.zero_mul]
        have h3 : ¬ 0 < R (nxS c) (agS cnt c) j (stL (k + 1) l) := fun q => by
          have := R_ag q
          rw [agS_stL r ((mem_LL (by omega)).1 hl)] at this
          exact h this
        rw [Nat.eq_zero_of_not_pos h3, Nat.mul_zero]
    rw [e1, sumN_comm]
    refine sumN_congr fun a ha => ?_
    rw [R_stL r ((mem_LL (by omega)).1 ha)]
    by_cases h : agP cnt c.sights (k : Int) a = true
    · rw [if_pos h, ← sumN_mul']
      refine sumN_congr fun l _ => ?_
      split
      · rfl
      · rw [Nat.zero_mul, Nat.mul_zero]
    · rw [if_neg h, Nat.mul_zero]
      refine sumN_zero fun l _ => ?_
      rw [FcL_ag h]
      split <;> rw [Nat.zero_mul]
end Go.Proofs.Wb

namespace Go.Proofs.Wb
open Go Go.Fw Go.Gx Go.Sb
set_option linter.unusedVariables false
set_option maxRecDepth 100000
abbrev tt : Nat → Bool := fun _ => true
def onB (c : Channel) (k : Nat) (l : List Int) : Bool := decide (0 < FcL tt c k l) && decide (0 < R (nxS c) (agS tt c) (c.tides.toNat - k) (stL k l))
theorem FcL_succ_pos {c : Channel} {k : Nat} {l : List Int} : 0 < FcL tt c (k + 1) l ↔ agP tt c.sights ((k + 1 : Nat) : Int) l = true ∧ ∃ a ∈ LL c, canB c.sands a l = true ∧ 0 < FcL tt c k a := by
  rw [FcL]
  by_cases h : agP tt c.sights ((k + 1 : Nat) : Int) l = true
  · rw [if_pos h, sumN_pos]
    constructor
    · rintro ⟨a, ha, h2⟩
      split at h2
      · rename_i hc; exact ⟨h, a, ha, hc, h2⟩
      · omega
    · rintro ⟨_, a, ha, hc, h2⟩
      exact ⟨a, ha, by rw [if_pos hc]; exact h2⟩
  · rw [if_neg h]
    constructor
    · intro q; omega
    · rintro ⟨q, _⟩; exact absurd q h
theorem FcL_pos_ag {c : Channel} {k : Nat} {l : List Int} (h : 0 < FcL tt c k l) : agP tt c.sights (k : Int) l = true := by
  cases hq : agP tt c.sights (k : Int) l with
  | true => rfl
  | false => rw [FcL_ag (by rw [hq]; decide)] at h; omega
theorem R_stL_pos {c : Channel} (r : Right c) {j k : Nat} {a : List Int} (ha : rowB c a = true) : 0 < R (nxS c) (agS tt c) (j + 1) (stL k a) ↔ agP tt c.sights (k : Int) a = true ∧ ∃ l ∈ LL c, canB c.sands a l = true ∧ 0 < R (nxS c) (agS tt c) j (stL (k + 1) l) := by
  rw [R_stL r ha]
  by_cases h : agP tt c.sights (k : Int) a = true
  · rw [if_pos h, sumN_pos]
    constructor
    · rintro ⟨l, hl, h2⟩
      split at h2
      · rename_i hc; exact ⟨h, l, hl, hc, h2⟩
      · omega
    · rintro ⟨_, l, hl, hc, h2⟩
      exact ⟨l, hl, by rw [if_pos hc]; exact h2⟩
  · rw [if_neg h]
    constructor
    · intro q; omega
    · rintro ⟨q, _⟩; exact absurd q h
theorem stL_of {c : Channel} (r : Right c) {s : State} {k : Nat} (h : VS c s) (hk : s.after = (k : Int)) : ∃ a ∈ LL c, s = stL k a := by
  have hc := r.cells
  obtain ⟨⟨l, h1, h2⟩, _⟩ := h
  obtain ⟨x, y⟩ := s
  simp only at hk h2
  exact ⟨l, (mem_LL (by omega)).2 h1, by rw [hk, h2]; rfl⟩
theorem mem_nx_stL {c : Channel} (r : Right c) {k : Nat} {a l : List Int} (ha : rowB c a = true) (hl : rowB c l = true) : stL (k + 1) l ∈ nxS c (stL k a) ↔ canB c.sands a l = true := by
  have hf := r.fords
  rw [nxS_mem r, can_iff r ha hl]
  constructor
  · rintro ⟨l', h, e⟩
    simp only [stL, State.mk.injEq] at e
    have := mkCells_inj (l := l) (m := l') (by rw [h.len]; exact (rowB_iff.1 hl).1) (by have := (rowB_iff.1 hl).1; omega) e.2
    rw [this]; exact h
  · intro h
    exact ⟨l, h, by simp [stL]⟩
theorem on_V {c : Channel} (r : Right c) : ∀ (k : Nat), (k : Int) ≤ c.tides → ∀ t, On (nxS c) (agS tt c) k c.tides.toNat (first c) t → VS c t ∧ t.after = (k : Int)
  | 0, _, t, h => by
    obtain ⟨rfl, _⟩ := on_zero.1 h
    exact ⟨first_V r, rfl⟩
  | k + 1, hk, t, h => by
    obtain ⟨u, h1, h2, _⟩ := (on_succ (by omega)).1 h
    obtain ⟨v1, v2⟩ := on_V r k (by omega) u h1
    obtain ⟨v3, v4⟩ := nxS_V r v1 (by omega) h2
    exact ⟨v3, by omega⟩
theorem on_iff {c : Channel} (r : Right c) : ∀ (k : Nat), (k : Int) ≤ c.tides → ∀ l, rowB c l = true → (On (nxS c) (agS tt c) k c.tides.toNat (first c) (stL k l) ↔ onB c k l = true)
  | 0, _, l, hl => by
    have hf := r.fords
    have h1 := (rowB_iff.1 hl).1
    unfold onB
    rw [on_zero, Bool.and_eq_true, decide_eq_true_eq, decide_eq_true_eq, FcL, Nat.sub_zero]
    constructor
    · rintro ⟨e, h2⟩
      have e2 : l = c.fords := by
        simp only [stL, first, State.mk.injEq] at e
        exact mkCells_inj (by omega) (by omega) e.2
      subst e2
      have hag := R_ag h2
      rw [show first c = stL 0 c.fords from rfl, agS_stL r hl] at hag
      exact ⟨by rw [if_pos ⟨hag, rfl⟩]; omega, h2⟩
    · rintro ⟨h2, h3⟩
      split at h2
      · rename_i q
        obtain ⟨_, q⟩ := q
        subst q
        exact ⟨rfl, h3⟩
      · omega
  | k + 1, hk, l, hl => by
    have hc := r.cells
    unfold onB
    rw [on_succ (by omega), Bool.and_eq_true, decide_eq_true_eq, decide_eq_true_eq, FcL_succ_pos, show c.tides.toNat - (k + 1) = c.tides.toNat - k - 1 by omega]
    constructor
    · rintro ⟨u, h1, h2, h3⟩
      obtain ⟨v1, v2⟩ := on_V r k (by omega) u h1
      obtain ⟨a, ha, rfl⟩ := stL_of r v1 v2
      have ha' := (mem_LL (by omega)).1 ha
      have h4 := (on_iff r k (by omega) a ha').1 h1
      unfold onB at h4
      rw [Bool.and_eq_true, decide_eq_true_eq] at h4
      have hag := R_ag h3
      rw [agS_stL r hl] at hag
      exact ⟨⟨hag, a, ha, (mem_nx_stL r ha' hl).1 h2, h4.1⟩, h3⟩
    · rintro ⟨⟨hag, a, ha, h1, h2⟩, h3⟩
      have ha' := (mem_LL (by omega)).1 ha
      refine ⟨stL k a, (on_iff r k (by omega) a ha').2 ?_, (mem_nx_stL r ha' hl).2 h1, h3⟩
      unfold onB
      rw [Bool.and_eq_true, decide_eq_true_eq, decide_eq_true_eq, show c.tides.toNat - k = (c.tides.toNat - k - 1) + 1 by omega, R_stL_pos r ha']
      exact ⟨h2, FcL_pos_ag h2, l, (mem_LL (by omega)).2 hl, h1, h3⟩
end Go.Proofs.Wb

namespace Go.Proofs.Wb
open Go Go.Fw Go.Gx Go.Sb
set_option linter.unusedVariables false
set_option maxRecDepth 100000
theorem asc_ext {l m : List Int} (hl : l.Pairwise (· < ·)) (hm : m.Pairwise (· < ·)) (h : ∀ x, x ∈ l ↔ x ∈ m) : l = m := by
  refine List.Perm.eq_of_pairwise (le := fun x y : Int => x < y) (fun a b _ _ h1 h2 => by omega) hl hm ?_
  exact (List.perm_ext_iff_of_nodup (hl.imp (fun h => by omega)) (hm.imp (fun h => by omega))).2 h
theorem sorted_get {l : List Int} (h : l.Pairwise (· ≤ ·)) {i j : Nat} (hij : i ≤ j) (hj : j < l.length) : l.getD i 0 ≤ l.getD j 0 := by
  rcases Nat.lt_or_eq_of_le hij with h1 | h1
  · have := List.pairwise_iff_getElem.1 h i j (by omega) hj h1
    simpa [List.getD_eq_getElem?_getD, hj, (show i < l.length by omega)] using this
  · subst h1; exact Int.le_refl _
theorem cmp_get {l : List Int} {j : Nat} (hj : j < l.length) : l.toArray[j]! = l.getD j 0 := by
  simp [List.getD_eq_getElem?_getD, hj]
theorem compact_asc {l : List Int} (h : l.Pairwise (· ≤ ·)) : (Go.Lib.compact l).Pairwise (· < ·) := by
  unfold Go.Lib.compact Go.Lib.compactUpTo
  rw [List.pairwise_map, List.pairwise_filter]
  refine List.Pairwise.imp_of_mem ?_ (List.pairwise_lt_range (n := l.length))
  intro i j hi hj hij ki kj
  have hj' : j < l.length := by simpa using hj
  have hi' : i < l.length := by simpa using hi
  rw [cmp_get hi', cmp_get hj']
  have k2 : l.getD j 0 ≠ l.getD (j - 1) 0 := by
    unfold Go.Lib.keeps at kj
    rw [decide_eq_true_eq, cmp_get hj', cmp_get (by omega)] at kj
    exact kj.resolve_left (by omega)
  have h1 := sorted_get h (show i ≤ j - 1 by omega) (by omega)
  have h2 := sorted_get h (show j - 1 ≤ j by omega) hj'
  omega
theorem compact_mem {l : List Int} {x : Int} : x ∈ Go.Lib.compact l ↔ x ∈ l := by
  unfold Go.Lib.compact Go.Lib.compactUpTo
  simp only [List.mem_map, List.mem_filter, List.mem_range]
  constructor
  · rintro ⟨i, ⟨hi, _⟩, rfl⟩
    rw [cmp_get hi]
    exact getD_mem hi
  · intro hx
    obtain ⟨i, hi, rfl⟩ := List.getElem_of_mem hx
    have key : ∀ n i, i ≤ n → (hi : i < l.length) → ∃ j, (j < l.length ∧ Go.Lib.keeps l.toArray j = true) ∧ l.toArray[j]! = l[i] := by
      intro n
      induction n with
      | zero =>
        intro i h0 hi
        obtain rfl : i = 0 := by omega
        exact ⟨0, ⟨hi, by simp [Go.Lib.keeps]⟩, by simp [hi]⟩
      | succ n ih =>
        intro i h0 hi
        by_cases hk : Go.Lib.keeps l.toArray i = true
        · exact ⟨i, ⟨hi, hk⟩, by simp [hi]⟩
        · have h1 : ¬ (i = 0 ∨ l.toArray[i]! ≠ l.toArray[i - 1]!) := by
            intro q
            exact hk (by unfold Go.Lib.keeps; rw [decide_eq_true_eq]; exact q)
          have h2 : i ≠ 0 := fun q => h1 (.inl q)
          have h3 : l.toArray[i]! = l.toArray[i - 1]! := by
            by_cases q : l.toArray[i]! = l.toArray[i - 1]!
            · exact q
            · exact absurd (.inr q) h1
          obtain ⟨j, h4, h5⟩ := ih (i - 1) (by omega) (by omega)
          refine ⟨j, h4, ?_⟩
          rw [h5]
          have e1 : l.toArray[i]! = l[i] := by simp [hi]
          have e2 : l.toArray[i - 1]! = l[i - 1] := by simp [(show i - 1 < l.length by omega)]
          rw [← e1, h3, e2]
    exact key i i (Nat.le_refl _) hi
theorem filtL_asc {p : Nat → Bool} {n : Nat} : (filtL p n).Pairwise (· < ·) := by
  unfold filtL
  rw [List.pairwise_map]
  refine ((List.pairwise_lt_range (n := n)).filter p).imp ?_
  intro a b h
  omega
theorem mem_filtL {p : Nat → Bool} {n : Nat} {x : Int} : x ∈ filtL p n ↔ 0 ≤ x ∧ x < (n : Int) ∧ p x.toNat = true := by
  unfold filtL
  simp only [List.mem_map, List.mem_filter, List.mem_range]
  constructor
  · rintro ⟨i, ⟨hi, hp⟩, rfl⟩
    exact ⟨by omega, by omega, by simpa using hp⟩
  · rintro ⟨h0, h1, hp⟩
    exact ⟨x.toNat, ⟨by omega, hp⟩, by omega⟩
def whereL (c : Channel) (k i : Nat) : List Int := filtL (fun x => (LL c).any fun l => onB c k l && decide (l.getD i (-1) = (x : Int))) c.cells.toNat
theorem lev_iff {c : Channel} (r : Right c) {L : List (List State)} (hL : Levs c L) {k : Nat} (hk : (k : Int) ≤ c.tides) {s : State} : s ∈ L.getD k [] ↔ ∃ l ∈ LL c, s = stL k l ∧ onB c k l = true := by
  have hc := r.cells
  rw [hL.mem k hk]
  constructor
  · intro h
    obtain ⟨v1, v2⟩ := on_V r k hk s h
    obtain ⟨l, hl, rfl⟩ := stL_of r v1 v2
    exact ⟨l, hl, rfl, (on_iff r k hk l ((mem_LL (by omega)).1 hl)).1 h⟩
  · rintro ⟨l, hl, rfl, h⟩
    exact (on_iff r k hk l ((mem_LL (by omega)).1 hl)).2 h
theorem levs_ix {c : Channel} (r : Right c) {L : List (List State)} (hL : Levs c L) {k : Int} (h0 : 0 ≤ k) (hk : k ≤ c.tides) : ix L k = some (L.getD k.toNat []) := ix_eq [] h0 (by have := hL.len; omega)
theorem cells_loop {l : List State} {i : Nat} (hi : i < 3) (hl : l.length ≤ 1000000000000) : iterM FU (zx l (i : Int)) ⟨0, []⟩ = some (l.map fun s => cGet s.at_ i) := by
  have key := iterM_run (f := zx l (i : Int)) (fun j => ⟨(j : Int), (l.take j).map fun s => cGet s.at_ i⟩) l.length (b := l.map fun s => cGet s.at_ i) (fun j hj => ?_) ?_ FU (FU_lt2 (by omega))
  · exact key
  · have e : l.take (j + 1) = l.take j ++ [l[j]] := by rw [List.take_append_getElem]
    have hx : l.getD j default = l[j] := by simp [List.getD_eq_getElem?_getD, hj]
    unfold zx
    simp only
    rw [if_pos (by omega), ix_nat default hj, Option.bind_some, hx, ix3 hi, Option.bind_some, appc_eq (by simp; omega), Option.bind_some, addc_eq (by omega), Option.bind_some, e, List.map_append]
    rfl
  · unfold zx
    simp only
    rw [if_neg (by omega), List.take_length]
theorem whereL_prog {c : Channel} (r : Right c) {L : List (List State)} (hL : Levs c L) {k i : Nat} (hk : (k : Int) ≤ c.tides) (hi : i < c.fords.length) : Go.Lib.compact (sortI ((L.getD k []).map fun s => cGet s.at_ i)) = whereL c k i := by
  have hc := r.cells
  have hf := r.fords
  refine asc_ext (compact_asc (sortI_sorted _)) filtL_asc (fun x => ?_)
  rw [compact_mem, mem_sortI, List.mem_map]
  unfold whereL
  rw [mem_filtL, List.any_eq_true]
  constructor
  · rintro ⟨s, hs, rfl⟩
    obtain ⟨l, hl, rfl, ho⟩ := (lev_iff r hL hk).1 hs
    have hr := rowB_iff.1 ((mem_LL (by omega)).1 hl)
    have e : cGet (stL k l).at_ i = l.getD i (-1) := cGet_mk (by omega)
    have hm := hr.2.2 _ (getD_mem (l := l) (i := i) (d := -1) (by omega))
    rw [e]
    refine ⟨hm.1, by omega, l, hl, ?_⟩
    rw [ho, Bool.true_and, decide_eq_true_eq]
    omega
  · rintro ⟨h0, h1, l, hl, h⟩
    rw [Bool.and_eq_true, decide_eq_true_eq] at h
    refine ⟨stL k l, (lev_iff r hL hk).2 ⟨l, hl, rfl, h.1⟩, ?_⟩
    rw [show cGet (stL k l).at_ i = l.getD i (-1) from cGet_mk (by omega), h.2]
    omega
theorem jba {c : Channel} (h : Few c) (k i : Int) : yP c k i = some (if chk c = 0 then (if inb k 0 c.tides = true then (if inb i 0 ((c.fords.length : Int) - 1) = true then (if cntS tt c = 0 then ⟨7, []⟩ else ⟨0, whereL c k.toNat i.toNat⟩) else ⟨1, []⟩) else ⟨3, []⟩) else ⟨chk c, []⟩) := by
  unfold yP
  rw [Y0, Option.bind_some]
  by_cases h0 : chk c = 0
  · have r := rightOf h0
    have hf := r.fords
    rw [if_pos h0, if_pos h0, jae, Option.bind_some, not_true_if]
    by_cases h1 : inb k 0 c.tides = true
    · rw [if_pos h1, if_pos h1, subc_eq (by omega), Option.bind_some, Yk, Option.bind_some, not_true_if]
      by_cases h2 : inb i 0 ((c.fords.length : Int) - 1) = true
      · rw [if_pos h2, if_pos h2]
        obtain ⟨L, e, hL⟩ := Yp h
        rw [e, Option.bind_some, if_pos h0]
        by_cases h3 : cntS tt c = 0
        · rw [if_pos h3, if_pos h3, oc_inl]
        · rw [if_neg h3, if_neg h3, oc_inr]
          have hL' := hL h0 h3
          have k1 := inb_iff.1 h1
          have i1 := inb_iff.1 h2
          rw [levs_ix r hL' k1.1 k1.2, Option.bind_some, show i = ((i.toNat : Nat) : Int) by omega, cells_loop (by omega) (hL'.bnd _ (by omega)), Option.bind_some]
          have hlen := hL'.bnd k.toNat (by omega)
          unfold Qs
          rw [if_pos (by rw [List.length_map]; omega), Option.bind_some]
          unfold y9
          rw [if_pos (by rw [sortI_length, List.length_map]; omega), Option.bind_some, whereL_prog r hL' (by omega) (by omega), Int.toNat_natCast]
      · rw [if_neg h2, if_neg h2]
    · rw [if_neg h1, if_neg h1]
  · rw [if_neg h0, if_neg h0]
end Go.Proofs.Wb

namespace Go.Proofs.Wb
open Go Go.Fw Go.Gx Go.Sb
set_option maxRecDepth 100000
theorem awake_true : Jp = some true := by decide +kernel
end Go.Proofs.Wb

namespace Go.Proofs.Wb
open Go Go.Fw Go.Gx Go.Sb
set_option linter.unusedVariables false
set_option maxRecDepth 100000
def WideP (c : Channel) : Prop := (10 < c.fords.length ∨ 10 < c.sands.length ∨ 14 < c.sights.length) ∨ c.fords.length = 3 ∨ (8 < c.cells ∧ c.cells ≤ 10)
instance (c : Channel) : Decidable (WideP c) := by unfold WideP; infer_instance
end Go.Proofs.Wb

namespace Go.Proofs.Wb
open Go Go.Fw Go.Gx Go.Sb
set_option linter.unusedVariables false
set_option maxRecDepth 100000
theorem cntS_sum {cnt : Nat → Bool} {c : Channel} (r : Right c) : cntS cnt c = sumN (LL c) (FcL cnt c c.tides.toNat) := by
  have hc := r.cells
  have h := FcL_sum (cnt := cnt) r c.tides.toNat 0
  unfold cntS
  rw [Nat.add_zero] at h
  rw [← h]
  refine sumN_congr fun l hl => ?_
  rw [R, agS_stL r ((mem_LL (by omega)).1 hl)]
  by_cases hag : agP cnt c.sights ((c.tides.toNat : Nat) : Int) l = true
  · rw [if_pos hag, Nat.mul_one]
  · rw [if_neg hag, Nat.mul_zero, FcL_ag hag]
theorem Z4 {c : Channel} (h : Few c) : yQ c = some (if chk c = 0 then ⟨(cntS tt c : Int), 0⟩ else ⟨0, chk c⟩) := ja1 h
end Go.Proofs.Wb

namespace Go.Proofs.Wb
open Go Go.Fw Go.Gx Go.Sb
set_option linter.unusedVariables false
set_option maxRecDepth 100000
theorem mem_whereL {c : Channel} (r : Right c) {L : List (List State)} (hL : Levs c L) {k i : Nat} (hk : (k : Int) ≤ c.tides) (hi : i < c.fords.length) {x : Int} : x ∈ whereL c k i ↔ ∃ s ∈ L.getD k [], cGet s.at_ i = x := by
  rw [← whereL_prog r hL hk hi, compact_mem, mem_sortI, List.mem_map]
theorem last_on {c : Channel} (r : Right c) (h : cntS tt c ≠ 0) : ∃ l ∈ LL c, onB c c.tides.toNat l = true := by
  have hc := r.cells
  rw [cntS_sum r] at h
  obtain ⟨l, hl, h2⟩ := sumN_pos.1 (Nat.pos_of_ne_zero h)
  refine ⟨l, hl, ?_⟩
  unfold onB
  rw [decide_eq_true h2, Nat.sub_self, R, agS_stL r ((mem_LL (by omega)).1 hl), if_pos (FcL_pos_ag h2)]
  rfl
theorem lev_ne {c : Channel} (r : Right c) {L : List (List State)} (hL : Levs c L) (h : cntS tt c ≠ 0) : L.getD c.tides.toNat [] ≠ [] := by
  have ht := r.tides
  obtain ⟨l, hl, ho⟩ := last_on r h
  have := (lev_iff r hL (show ((c.tides.toNat : Nat) : Int) ≤ c.tides by omega)).2 ⟨l, hl, rfl, ho⟩
  intro q
  rw [q] at this
  exact absurd this (by simp)
def cntF (l : List State) (i : Nat) (f : Int) : Nat := (l.filter fun s => decide (cGet s.at_ i = f)).length
theorem cntF_le (l : List State) (i : Nat) (f : Int) : cntF l i f ≤ l.length := List.length_filter_le _ _
theorem cntF_zero {l : List State} {i : Nat} {f : Int} : cntF l i f = 0 ↔ ¬ ∃ s ∈ l, cGet s.at_ i = f := by
  unfold cntF
  rw [List.length_eq_zero_iff, List.filter_eq_nil_iff]
  simp
theorem cntF_all {l : List State} {i : Nat} {f : Int} : cntF l i f = l.length ↔ ∀ s ∈ l, cGet s.at_ i = f := by
  unfold cntF
  rw [List.length_filter_eq_length_iff]
  simp
theorem asc_one {l : List Int} (h : l.Pairwise (· < ·)) {f : Int} (hf : f ∈ l) : l.length = 1 ↔ ∀ x ∈ l, x = f := by
  constructor
  · intro h1 x hx
    obtain ⟨a, rfl⟩ := List.length_eq_one_iff.1 h1
    simp only [List.mem_singleton] at hf hx
    omega
  · intro h1
    cases l with
    | nil => exact absurd hf (by simp)
    | cons a l =>
      cases l with
      | nil => rfl
      | cons b l =>
        have h2 := h1 a (by simp)
        have h3 := h1 b (by simp)
        have h4 := (List.pairwise_cons.1 h).1 b (by simp)
        omega
def fateI (c : Channel) (i : Nat) : Int := if c.fords.getD i 0 ∈ whereL c c.tides.toNat i then (if (whereL c c.tides.toNat i).length = 1 then 1 else 0) else 2
theorem fate_prog {c : Channel} (r : Right c) {L : List (List State)} (hL : Levs c L) {i : Nat} (hi : i < c.fords.length) (hn : L.getD c.tides.toNat [] ≠ []) : (if cntF (L.getD c.tides.toNat []) i (c.fords.getD i 0) = 0 then (2 : Int) else if cntF (L.getD c.tides.toNat []) i (c.fords.getD i 0) = (L.getD c.tides.toNat []).length then 1 else 0) = fateI c i := by
  have ht := r.tides
  have hm := fun x => mem_whereL r hL (k := c.tides.toNat) (i := i) (x := x) (by omega) hi
  have hs : (whereL c c.tides.toNat i).Pairwise (· < ·) := filtL_asc
  unfold fateI
  by_cases h1 : c.fords.getD i 0 ∈ whereL c c.tides.toNat i
  · have h0 : ¬ cntF (L.getD c.tides.toNat []) i (c.fords.getD i 0) = 0 := fun q => cntF_zero.1 q ((hm _).1 h1)
    rw [if_neg h0, if_pos h1]
    have e : (cntF (L.getD c.tides.toNat []) i (c.fords.getD i 0) = (L.getD c.tides.toNat []).length) ↔ (whereL c c.tides.toNat i).length = 1 := by
      rw [cntF_all, asc_one hs h1]
      constructor
      · intro h x hx
        obtain ⟨s, hs, rfl⟩ := (hm x).1 hx
        exact h s hs
      · intro h s hs
        exact h _ ((hm _).2 ⟨s, hs, rfl⟩)
    by_cases h2 : (whereL c c.tides.toNat i).length = 1
    · rw [if_pos h2, if_pos (e.2 h2)]
    · rw [if_neg h2, if_neg (fun q => h2 (e.1 q))]
  · rw [if_neg h1, if_pos (cntF_zero.2 (fun q => h1 ((hm _).2 q)))]
theorem fates_L1 {l : List State} (hl : l.length ≤ 1000000000000) {i : Nat} (hi : i < 3) (o : List Int) (f : Int) : iterM FU (zA l ⟨(i : Int), o⟩ f) ⟨0, 0⟩ = some (cntF l i f : Int) := by
  have key := iterM_run (f := zA l ⟨(i : Int), o⟩ f) (fun j => ⟨(cntF (l.take j) i f : Int), (j : Int)⟩) l.length (b := (cntF l i f : Int)) (fun j hj => ?_) ?_ FU (FU_lt2 (by omega))
  · exact key
  · have e : l.take (j + 1) = l.take j ++ [l[j]] := by rw [List.take_append_getElem]
    have hx : l.getD j default = l[j] := by simp [List.getD_eq_getElem?_getD, hj]
    have hb : cntF (l.take j) i f ≤ l.length := by
      have := cntF_le (l.take j) i f
      rw [List.length_take] at this
      omega
    have e2 : cntF (l.take (j + 1)) i f = cntF (l.take j) i f + if cGet l[j].at_ i = f then 1 else 0 := by
      unfold cntF
      rw [e, List.filter_append, List.length_append, List.filter_cons, List.filter_nil]
      by_cases hq : cGet l[j].at_ i = f
      · simp [hq]
      · simp [hq]
    unfold zA
    simp only
    rw [if_pos (by omega), ix_nat default hj, Option.bind_some, hx, ix3 hi, Option.bind_some, e2]
    by_cases hq : cGet l[j].at_ i = f
    · rw [if_pos hq, if_pos hq, addc_eq (by omega), Option.bind_some, Option.bind_some, addc_eq (by omega), Option.bind_some]; rfl
    · rw [if_neg hq, if_neg hq, Option.bind_some, addc_eq (by omega), Option.bind_some]; rfl
  · unfold zA
    simp only
    rw [if_neg (by omega), List.take_length]
def fatesL (c : Channel) : List Int := (List.range c.fords.length).map (fateI c)
theorem ja5 {c : Channel} (h : Few c) : JD c = some (if chk c = 0 then (if cntS tt c = 0 then ⟨7, []⟩ else ⟨0, fatesL c⟩) else ⟨chk c, []⟩) := by
  unfold JD
  obtain ⟨L, e, hL⟩ := Yp h
  rw [e, Option.bind_some]
  by_cases h0 : chk c = 0
  · have r := rightOf h0
    have hf := r.fords
    have ht := r.tides
    rw [if_pos h0, if_pos h0]
    by_cases h3 : cntS tt c = 0
    · rw [if_pos h3, if_pos h3, oc_inl]
    · rw [if_neg h3, if_neg h3, oc_inr]
      have hL' := hL h0 h3
      have hlen := hL'.bnd c.tides.toNat (by omega)
      have hn := lev_ne r hL' h3
      have key := iterM_run (f := zy c ⟨c.cells, c.tides, L, rchL c⟩) (fun i => ⟨(i : Int), (List.range i).map (fateI c)⟩) c.fords.length (b := fatesL c) (fun i hi => ?_) ?_ FU (FU_lt (by omega))
      · show (iterM FU (zy c ⟨c.cells, c.tides, L, rchL c⟩) ⟨((0 : Nat) : Int), (List.range 0).map (fateI c)⟩).bind _ = _
        rw [key]; rfl
      · unfold zy
        simp only
        have hfp := fate_prog r hL' hi hn
        have hix := levs_ix r hL' ht.1 (Int.le_refl _)
        have hcl := cntF_le (L.getD c.tides.toNat []) i (c.fords.getD i 0)
        rw [if_pos (by omega), ix_nat 0 hi, Option.bind_some, hix, Option.bind_some, fates_L1 hlen (by omega), Option.bind_some, show (List.range (i + 1)).map (fateI c) = (List.range i).map (fateI c) ++ [fateI c i] by simp [List.range_succ], ← hfp]
        by_cases h1 : cntF (L.getD c.tides.toNat []) i (c.fords.getD i 0) = 0
        · rw [if_pos (by omega), appc_eq (by simp; omega), Option.bind_some, Option.bind_some, addc_eq (by omega), Option.bind_some]
          rw [if_pos h1]
          rfl
        · rw [if_neg (by omega), Option.bind_some]
          by_cases h2 : cntF (L.getD c.tides.toNat []) i (c.fords.getD i 0) = (L.getD c.tides.toNat []).length
          · rw [if_pos (by omega), appc_eq (by simp; omega), Option.bind_some, Option.bind_some, addc_eq (by omega), Option.bind_some]
            rw [if_neg h1, if_pos h2]
            rfl
          · rw [if_neg (by omega), appc_eq (by simp; omega), Option.bind_some, Option.bind_some, addc_eq (by omega), Option.bind_some]
            rw [if_neg h1, if_neg h2]
            rfl
      · unfold zy
        simp only
        rw [if_neg (by omega)]
        rfl
  · rw [if_neg h0, if_neg h0, oc_inl]
def foMin (d : Int) (l : List Int) : Int := l.foldl min d
def foMax (d : Int) (l : List Int) : Int := l.foldl max d
theorem foMin_spec (d : Int) : ∀ l : List Int, foMin d l ≤ d ∧ (∀ x ∈ l, foMin d l ≤ x) ∧ (foMin d l = d ∨ foMin d l ∈ l) := by
  intro l
  induction l generalizing d with
  | nil => exact ⟨Int.le_refl _, by simp, .inl rfl⟩
  | cons a l ih =>
    obtain ⟨h1, h2, h3⟩ := ih (min d a)
    have e : foMin d (a :: l) = foMin (min d a) l := rfl
    rw [e]
    refine ⟨by omega, fun x hx => ?_, ?_⟩
    · rcases List.mem_cons.1 hx with rfl | hx
      · omega
      · exact h2 x hx
    · rcases h3 with h3 | h3
      · rcases Int.le_total d a with h4 | h4
        · left; rw [h3, Int.min_eq_left h4]
        · right; rw [h3, Int.min_eq_right h4]; simp
      · right; exact List.mem_cons_of_mem _ h3
theorem foMax_spec (d : Int) : ∀ l : List Int, d ≤ foMax d l ∧ (∀ x ∈ l, x ≤ foMax d l) ∧ (foMax d l = d ∨ foMax d l ∈ l) := by
  intro l
  induction l generalizing d with
  | nil => exact ⟨Int.le_refl _, by simp, .inl rfl⟩
  | cons a l ih =>
    obtain ⟨h1, h2, h3⟩ := ih (max d a)
    have e : foMax d (a :: l) = foMax (max d a) l := rfl
    rw [e]
    refine ⟨by omega, fun x hx => ?_, ?_⟩
    · rcases List.mem_cons.1 hx with rfl | hx
      · omega
      · exact h2 x hx
    · rcases h3 with h3 | h3
      · rcases Int.le_total d a with h4 | h4
        · right; rw [h3, Int.max_eq_right h4]; simp
        · left; rw [h3, Int.max_eq_left h4]
      · right; exact List.mem_cons_of_mem _ h3
def loL (l : List Int) : Int := foMin (l.headD 0) l
def hiL (l : List Int) : Int := foMax (l.headD 0) l
theorem loL_spec {l : List Int} (h : l ≠ []) : (∀ x ∈ l, loL l ≤ x) ∧ loL l ∈ l := by
  obtain ⟨h1, h2, h3⟩ := foMin_spec (l.headD 0) l
  refine ⟨h2, ?_⟩
  rcases h3 with h3 | h3
  · unfold loL; rw [h3]
    cases l with
    | nil => exact absurd rfl h
    | cons a l => simp
  · exact h3
theorem hiL_spec {l : List Int} (h : l ≠ []) : (∀ x ∈ l, x ≤ hiL l) ∧ hiL l ∈ l := by
  obtain ⟨h1, h2, h3⟩ := foMax_spec (l.headD 0) l
  refine ⟨h2, ?_⟩
  rcases h3 with h3 | h3
  · unfold hiL; rw [h3]
    cases l with
    | nil => exact absurd rfl h
    | cons a l => simp
  · exact h3
theorem jaV (n x : Int) : JC n [x] = some (min n x) := by
  unfold JC
  have key := iterM_run (f := JZ [x]) (fun j => ⟨if j = 0 then n else min n x, (j : Int)⟩) 1 (b := min n x) (fun j hj => ?_) ?_ FU (FU_lt (by omega))
  · show (iterM FU (JZ [x]) ⟨if (0 : Nat) = 0 then n else min n x, ((0 : Nat) : Int)⟩).bind _ = _
    rw [key]; rfl
  · obtain rfl : j = 0 := by omega
    rfl
  · rfl
def shiftV (c : Channel) (i : Nat) (l : List State) : List Int := l.map fun s => cGet s.at_ i - c.fords.getD i 0
theorem ZX {c : Channel} (r : Right c) {s : State} (hs : VS c s) {i : Nat} (hi : i < c.fords.length) : ql s (i : Int) c.cells c.tides c.fords c.sands c.sights = some (cGet s.at_ i - c.fords.getD i 0) := by
  have hf := r.fords
  have hc := r.cells
  obtain ⟨⟨l, hl, hm⟩, _⟩ := hs
  have hr := rowB_iff.1 hl
  have h1 := hr.2.2 _ (getD_mem (l := l) (i := i) (d := -1) (by omega))
  have h2 := r.fcell _ (getD_mem (l := c.fords) (i := i) (d := 0) hi)
  have e : cGet s.at_ i = l.getD i (-1) := by rw [hm, cGet_mk (by omega)]
  unfold ql
  rw [ix3 (by omega), Option.bind_some, ix_nat 0 hi, Option.bind_some, subc_eq (by omega), Option.bind_some]
theorem spread_fold {c : Channel} (r : Right c) {l : List State} (hl : l.length ≤ 1000000000000) (hV : ∀ s ∈ l, VS c s) (hn : l ≠ []) {i : Nat} (hi : i < c.fords.length) : JQ l (i : Int) c.cells c.tides c.fords c.sands c.sights = some ⟨loL (shiftV c i l), hiL (shiftV c i l)⟩ := by
  have hlen : 0 < l.length := List.length_pos_iff.2 hn
  have hx : ∀ j (hj : j < l.length), l.getD j default = l[j] := by intro j hj; simp [List.getD_eq_getElem?_getD, hj]
  have h0 := ZX r (hV _ (List.getElem_mem hlen)) hi
  have hd : (shiftV c i l).headD 0 = cGet l[0].at_ i - c.fords.getD i 0 := by
    cases l with
    | nil => exact absurd rfl hn
    | cons a l => rfl
  unfold JQ
  rw [ix_eq default (Int.le_refl 0) (by omega), Option.bind_some, Option.bind_some, show (0 : Int).toNat = 0 from rfl, hx 0 hlen]
  have h0' : ql (⟨l[0].after, (⟨l[0].at_.c0, l[0].at_.c1, l[0].at_.c2⟩ : Cells)⟩ : State) (i : Int) c.cells c.tides c.fords c.sands c.sights = _ := h0
  rw [h0', Option.bind_some, Option.bind_some, Option.bind_some]
  simp only
  have key := iterM_run (f := y5 l (i : Int) c.cells c.tides c.fords c.sands c.sights) (fun j => ⟨(j : Int), foMin (cGet l[0].at_ i - c.fords.getD i 0) (shiftV c i (l.take j)), foMax (cGet l[0].at_ i - c.fords.getD i 0) (shiftV c i (l.take j))⟩) l.length (b := ⟨loL (shiftV c i l), hiL (shiftV c i l)⟩) (fun j hj => ?_) ?_ FU (FU_lt2 (by omega))
  · show (iterM FU (y5 l (i : Int) c.cells c.tides c.fords c.sands c.sights) ⟨((0 : Nat) : Int), foMin (cGet l[0].at_ i - c.fords.getD i 0) (shiftV c i (l.take 0)), foMax (cGet l[0].at_ i - c.fords.getD i 0) (shiftV c i (l.take 0))⟩).bind _ = _
    rw [key]; rfl
  · have e : l.take (j + 1) = l.take j ++ [l[j]] := by rw [List.take_append_getElem]
    have hj0 := ZX r (hV _ (List.getElem_mem hj)) hi
    have hj' : ql (⟨l[j].after, (⟨l[j].at_.c0, l[j].at_.c1, l[j].at_.c2⟩ : Cells)⟩ : State) (i : Int) c.cells c.tides c.fords c.sands c.sights = _ := hj0
    unfold y5
    simp only
    rw [if_pos (by omega), ix_nat default hj, Option.bind_some, hx j hj, hj', Option.bind_some, jaV, Option.bind_some, Option.bind_some, Option.bind_some, addc_eq (by omega), Option.bind_some, e]
    have ea : shiftV c i (l.take j ++ [l[j]]) = shiftV c i (l.take j) ++ [cGet l[j].at_ i - c.fords.getD i 0] := by unfold shiftV; rw [List.map_append]; rfl
    rw [ea]
    unfold foMin foMax
    rw [List.foldl_append, List.foldl_append]
    rfl
  · unfold y5
    simp only
    rw [if_neg (by omega), List.take_length]
    unfold loL hiL
    rw [hd]
def shiftC (c : Channel) (i : Nat) : Span := ⟨(whereL c c.tides.toNat i).headD 0 - c.fords.getD i 0, (whereL c c.tides.toNat i).getLastD 0 - c.fords.getD i 0⟩
theorem asc_head {l : List Int} (h : l.Pairwise (· < ·)) (hn : l ≠ []) : (∀ x ∈ l, l.headD 0 ≤ x) ∧ l.headD 0 ∈ l := by
  cases l with
  | nil => exact absurd rfl hn
  | cons a l =>
    refine ⟨fun x hx => ?_, by simp⟩
    rcases List.mem_cons.1 hx with rfl | hx
    · exact Int.le_refl _
    · have := (List.pairwise_cons.1 h).1 x hx
      show a ≤ x
      omega
theorem asc_last {l : List Int} (h : l.Pairwise (· < ·)) (hn : l ≠ []) : (∀ x ∈ l, x ≤ l.getLastD 0) ∧ l.getLastD 0 ∈ l := by
  induction l with
  | nil => exact absurd rfl hn
  | cons a l ih =>
    cases l with
    | nil => simp
    | cons b l =>
      obtain ⟨h1, h2⟩ := ih (List.pairwise_cons.1 h).2 (by simp)
      have e : (a :: b :: l).getLastD 0 = (b :: l).getLastD 0 := rfl
      rw [e]
      refine ⟨fun x hx => ?_, List.mem_cons_of_mem _ h2⟩
      rcases List.mem_cons.1 hx with rfl | hx
      · have := (List.pairwise_cons.1 h).1 _ h2
        omega
      · exact h1 x hx
theorem where_ne {c : Channel} (r : Right c) {L : List (List State)} (hL : Levs c L) (h : cntS tt c ≠ 0) {i : Nat} (hi : i < c.fords.length) : whereL c c.tides.toNat i ≠ [] := by
  have ht := r.tides
  intro q
  obtain ⟨s, hs⟩ := List.exists_mem_of_ne_nil _ (lev_ne r hL h)
  have := (mem_whereL r hL (k := c.tides.toNat) (by omega) hi).2 ⟨s, hs, rfl⟩
  rw [q] at this
  exact absurd this (by simp)
theorem shift_prog {c : Channel} (r : Right c) {L : List (List State)} (hL : Levs c L) (h : cntS tt c ≠ 0) {i : Nat} (hi : i < c.fords.length) : (⟨loL (shiftV c i (L.getD c.tides.toNat [])), hiL (shiftV c i (L.getD c.tides.toNat []))⟩ : Span) = shiftC c i := by
  have ht := r.tides
  have hn := lev_ne r hL h
  have hw := where_ne r hL h hi
  have hs : (whereL c c.tides.toNat i).Pairwise (· < ·) := filtL_asc
  have hne : shiftV c i (L.getD c.tides.toNat []) ≠ [] := by unfold shiftV; simpa using hn
  have hm : ∀ x, x ∈ shiftV c i (L.getD c.tides.toNat []) ↔ x + c.fords.getD i 0 ∈ whereL c c.tides.toNat i := by
    intro x
    rw [mem_whereL r hL (by omega) hi]
    unfold shiftV
    rw [List.mem_map]
    constructor
    · rintro ⟨s, hs, rfl⟩; exact ⟨s, hs, by omega⟩
    · rintro ⟨s, hs, h2⟩; exact ⟨s, hs, by omega⟩
  obtain ⟨a1, a2⟩ := loL_spec hne
  obtain ⟨b1, b2⟩ := hiL_spec hne
  obtain ⟨c1, c2⟩ := asc_head hs hw
  obtain ⟨d1, d2⟩ := asc_last hs hw
  have e1 := c1 _ ((hm _).1 a2)
  have e2 := a1 _ ((hm ((whereL c c.tides.toNat i).headD 0 - c.fords.getD i 0)).2 (by rw [show ∀ a b : Int, a - b + b = a from fun a b => by omega]; exact c2))
  have e3 := d1 _ ((hm _).1 b2)
  have e4 := b1 _ ((hm ((whereL c c.tides.toNat i).getLastD 0 - c.fords.getD i 0)).2 (by rw [show ∀ a b : Int, a - b + b = a from fun a b => by omega]; exact d2))
  unfold shiftC
  congr 1 <;> omega
theorem ja0 {c : Channel} (h : Few c) (i : Int) : zs c i = some (if chk c = 0 then (if inb i 0 ((c.fords.length : Int) - 1) = true then (if cntS tt c = 0 then ⟨⟨0, 0⟩, 7⟩ else ⟨shiftC c i.toNat, 0⟩) else ⟨⟨0, 0⟩, 1⟩) else ⟨⟨0, 0⟩, chk c⟩) := by
  unfold zs
  rw [Y0, Option.bind_some]
  by_cases h0 : chk c = 0
  · have r := rightOf h0
    have hf := r.fords
    have ht := r.tides
    rw [if_pos h0, if_pos h0, subc_eq (by omega), Option.bind_some, Yk, Option.bind_some, not_true_if]
    by_cases h2 : inb i 0 ((c.fords.length : Int) - 1) = true
    · rw [if_pos h2, if_pos h2]
      obtain ⟨L, e, hL⟩ := Yp h
      rw [e, Option.bind_some, if_pos h0]
      by_cases h3 : cntS tt c = 0
      · rw [if_pos h3, if_pos h3, oc_inl]
      · rw [if_neg h3, if_neg h3, oc_inr]
        have hL' := hL h0 h3
        have i1 := inb_iff.1 h2
        rw [levs_ix r hL' ht.1 (Int.le_refl _), Option.bind_some, show i = ((i.toNat : Nat) : Int) by omega, spread_fold r (hL'.bnd _ (by omega)) (fun s hs => (hL'.val _ (by omega) s hs).1) (lev_ne r hL' h3) (by omega), Option.bind_some, shift_prog r hL' h3 (by omega), Int.toNat_natCast]
    · rw [if_neg h2, if_neg h2]
  · rw [if_neg h0, if_neg h0]
end Go.Proofs.Wb

namespace Go.Proofs.Wb
open Go Go.Fw Go.Gx Go.Sb
set_option linter.unusedVariables false
set_option maxRecDepth 100000
def anL (c : Channel) (l : List Int) : Nat := ((List.range c.fords.length).filter fun i => decide (l.getD i (-1) ≠ c.fords.getD i 0)).length
def anS (c : Channel) (s : State) : Nat := ((List.range c.fords.length).filter fun i => decide (cGet s.at_ i ≠ c.fords.getD i 0)).length
theorem anS_stL {c : Channel} (hf : c.fords.length ≤ 3) (k : Nat) (l : List Int) : anS c (stL k l) = anL c l := by
  unfold anS anL
  congr 1
  refine List.filter_congr fun i hi => ?_
  have : i < c.fords.length := by simpa using hi
  rw [show cGet (stL k l).at_ i = l.getD i (-1) from cGet_mk (by omega)]
theorem filt_succ (p : Nat → Bool) (j : Nat) : ((List.range (j + 1)).filter p).length = ((List.range j).filter p).length + if p j = true then 1 else 0 := by
  rw [List.range_succ, List.filter_append, List.length_append]
  by_cases h : p j = true
  · rw [if_pos h]; simp [h]
  · rw [if_neg h]; simp [h]
theorem filt_le (p : Nat → Bool) (j : Nat) : ((List.range j).filter p).length ≤ j := by
  have := List.length_filter_le p (List.range j)
  rwa [List.length_range] at this
theorem jag {c : Channel} (hf : c.fords.length ≤ 3) (s : State) : qG s c.cells c.tides c.fords c.sands c.sights = some (anS c s : Int) := by
  unfold qG
  have key := iterM_run (f := y6 c.fords s) (fun i => ⟨((((List.range i).filter fun i => decide (cGet s.at_ i ≠ c.fords.getD i 0)).length : Nat) : Int), (i : Int)⟩) c.fords.length (b := (anS c s : Int)) (fun i hi => ?_) ?_ FU (FU_lt (by omega))
  · show (iterM FU (y6 c.fords s) ⟨((((List.range 0).filter fun i => decide (cGet s.at_ i ≠ c.fords.getD i 0)).length : Nat) : Int), ((0 : Nat) : Int)⟩).bind _ = _
    rw [key]; rfl
  · have hb := filt_le (fun i => decide (cGet s.at_ i ≠ c.fords.getD i 0)) i
    unfold y6
    simp only
    rw [if_pos (by omega), ix_nat 0 hi, Option.bind_some, ix3 (by omega), Option.bind_some, filt_succ]
    by_cases hq : cGet s.at_ i = c.fords.getD i 0
    · rw [if_pos hq, if_neg (by simp only [decide_eq_true_eq]; exact fun q => q hq), Option.bind_some, addc_eq (by omega), Option.bind_some]; rfl
    · rw [if_neg hq, if_pos (by simp only [decide_eq_true_eq]; exact hq), addc_eq (by omega), Option.bind_some, Option.bind_some, addc_eq (by omega), Option.bind_some]; rfl
  · unfold y6
    simp only
    rw [if_neg (by omega)]
    rfl
def anewV (c : Channel) (l : List State) : List Int := l.map fun s => (anS c s : Int)
theorem anew_fold {c : Channel} (hf : c.fords.length ≤ 3) {l : List State} (hl : l.length ≤ 1000000000000) (hn : l ≠ []) : Je l c.cells c.tides c.fords c.sands c.sights = some ⟨loL (anewV c l), hiL (anewV c l)⟩ := by
  have hlen : 0 < l.length := List.length_pos_iff.2 hn
  have hx : ∀ j (hj : j < l.length), l.getD j default = l[j] := by intro j hj; simp [List.getD_eq_getElem?_getD, hj]
  have h0 := jag hf l[0]
  have hd : (anewV c l).headD 0 = (anS c l[0] : Int) := by
    cases l with
    | nil => exact absurd rfl hn
    | cons a l => rfl
  unfold Je
  rw [ix_eq default (Int.le_refl 0) (by omega), Option.bind_some, Option.bind_some, show (0 : Int).toNat = 0 from rfl, hx 0 hlen]
  have h0' : qG (⟨l[0].after, (⟨l[0].at_.c0, l[0].at_.c1, l[0].at_.c2⟩ : Cells)⟩ : State) c.cells c.tides c.fords c.sands c.sights = _ := h0
  rw [h0', Option.bind_some, Option.bind_some, Option.bind_some]
  simp only
  have key := iterM_run (f := yl l c.cells c.tides c.fords c.sands c.sights) (fun j => ⟨(j : Int), foMin (anS c l[0] : Int) (anewV c (l.take j)), foMax (anS c l[0] : Int) (anewV c (l.take j))⟩) l.length (b := ⟨loL (anewV c l), hiL (anewV c l)⟩) (fun j hj => ?_) ?_ FU (FU_lt2 (by omega))
  · show (iterM FU (yl l c.cells c.tides c.fords c.sands c.sights) ⟨((0 : Nat) : Int), foMin (anS c l[0] : Int) (anewV c (l.take 0)), foMax (anS c l[0] : Int) (anewV c (l.take 0))⟩).bind _ = _
    rw [key]; rfl
  · have e : l.take (j + 1) = l.take j ++ [l[j]] := by rw [List.take_append_getElem]
    have hj' : qG (⟨l[j].after, (⟨l[j].at_.c0, l[j].at_.c1, l[j].at_.c2⟩ : Cells)⟩ : State) c.cells c.tides c.fords c.sands c.sights = _ := jag hf l[j]
    unfold yl
    simp only
    rw [if_pos (by omega), ix_nat default hj, Option.bind_some, hx j hj, hj', Option.bind_some, jaV, Option.bind_some, Option.bind_some, Option.bind_some, addc_eq (by omega), Option.bind_some, e]
    have ea : anewV c (l.take j ++ [l[j]]) = anewV c (l.take j) ++ [(anS c l[j] : Int)] := by unfold anewV; rw [List.map_append]; rfl
    rw [ea]
    unfold foMin foMax
    rw [List.foldl_append, List.foldl_append]
    rfl
  · unfold yl
    simp only
    rw [if_neg (by omega), List.take_length]
    unfold loL hiL
    rw [hd]
def anewQ (c : Channel) : List Int := ((LL c).filter fun l => onB c c.tides.toNat l).map fun l => (anL c l : Int)
def anewC (c : Channel) : Span := ⟨foMin 9 (anewQ c), foMax (-1) (anewQ c)⟩
theorem anew_prog {c : Channel} (r : Right c) {L : List (List State)} (hL : Levs c L) (h : cntS tt c ≠ 0) : (⟨loL (anewV c (L.getD c.tides.toNat [])), hiL (anewV c (L.getD c.tides.toNat []))⟩ : Span) = anewC c := by
  have ht := r.tides
  have hf := r.fords
  have hn := lev_ne r hL h
  have hne : anewV c (L.getD c.tides.toNat []) ≠ [] := by unfold anewV; simpa using hn
  have hm : ∀ x, x ∈ anewV c (L.getD c.tides.toNat []) ↔ x ∈ anewQ c := by
    intro x
    unfold anewV anewQ
    rw [List.mem_map, List.mem_map]
    constructor
    · rintro ⟨s, hs, rfl⟩
      obtain ⟨l, hl, rfl, ho⟩ := (lev_iff r hL (by omega)).1 hs
      exact ⟨l, List.mem_filter.2 ⟨hl, ho⟩, by rw [anS_stL hf.2]⟩
    · rintro ⟨l, hl, rfl⟩
      obtain ⟨hl, ho⟩ := List.mem_filter.1 hl
      exact ⟨stL c.tides.toNat l, (lev_iff r hL (by omega)).2 ⟨l, hl, rfl, ho⟩, by rw [anS_stL hf.2]⟩
  have hb : ∀ x ∈ anewQ c, 0 ≤ x ∧ x ≤ 3 := by
    intro x hx
    unfold anewQ at hx
    obtain ⟨l, _, rfl⟩ := List.mem_map.1 hx
    have := filt_le (fun i => decide (l.getD i (-1) ≠ c.fords.getD i 0)) c.fords.length
    unfold anL
    omega
  obtain ⟨a1, a2⟩ := loL_spec hne
  obtain ⟨b1, b2⟩ := hiL_spec hne
  obtain ⟨c1, c2, c3⟩ := foMin_spec 9 (anewQ c)
  obtain ⟨d1, d2, d3⟩ := foMax_spec (-1) (anewQ c)
  have a3 := (hm _).1 a2
  have b3 := (hm _).1 b2
  have a4 := hb _ a3
  have b4 := hb _ b3
  have c4 := c2 _ a3
  have d4 := d2 _ b3
  have c5 : foMin 9 (anewQ c) ∈ anewQ c := by
    rcases c3 with h | h
    · omega
    · exact h
  have d5 : foMax (-1) (anewQ c) ∈ anewQ c := by
    rcases d3 with h | h
    · omega
    · exact h
  have a6 := a1 _ ((hm _).2 c5)
  have b6 := b1 _ ((hm _).2 d5)
  unfold anewC
  congr 1 <;> omega
theorem jbr {c : Channel} (h : Few c) : KT c = some (if chk c = 0 then (if cntS tt c = 0 then ⟨⟨0, 0⟩, 7⟩ else ⟨anewC c, 0⟩) else ⟨⟨0, 0⟩, chk c⟩) := by
  unfold KT
  obtain ⟨L, e, hL⟩ := Yp h
  rw [e, Option.bind_some]
  by_cases h0 : chk c = 0
  · have r := rightOf h0
    have hf := r.fords
    have ht := r.tides
    rw [if_pos h0, if_pos h0]
    by_cases h3 : cntS tt c = 0
    · rw [if_pos h3, if_pos h3, oc_inl]
    · rw [if_neg h3, if_neg h3, oc_inr]
      have hL' := hL h0 h3
      rw [levs_ix r hL' ht.1 (Int.le_refl _), Option.bind_some, anew_fold hf.2 (hL'.bnd _ (by omega)) (lev_ne r hL' h3), Option.bind_some, anew_prog r hL' h3]
  · rw [if_neg h0, if_neg h0, oc_inl]
theorem fatesL_len (c : Channel) : (fatesL c).length = c.fords.length := by unfold fatesL; simp
end Go.Proofs.Wb

namespace Go.Proofs.Wb
open Go Go.Fw Go.Gx Go.Sb
set_option linter.unusedVariables false
set_option maxRecDepth 100000
def mvI (x y : Int) : Int := max (x - y) (y - x)
def sumI (f : Nat → Int) : Nat → Int
  | 0 => 0
  | n + 1 => sumI f n + f n
theorem sumI_bnd {f : Nat → Int} {B : Int} : ∀ n, (∀ i, i < n → 0 ≤ f i ∧ f i ≤ B) → 0 ≤ sumI f n ∧ sumI f n ≤ n * B
  | 0, _ => by simp [sumI]
  | n + 1, h => by
    have h1 := sumI_bnd n (fun i hi => h i (by omega))
    have h2 := h n (by omega)
    rw [sumI, show ((n + 1 : Nat) : Int) * B = n * B + B by rw [Int.natCast_add, Int.add_mul]; simp]
    omega
theorem sumI_congr {f g : Nat → Int} : ∀ n, (∀ i, i < n → f i = g i) → sumI f n = sumI g n
  | 0, _ => rfl
  | n + 1, h => by rw [sumI, sumI, sumI_congr n (fun i hi => h i (by omega)), h n (by omega)]
def movS (s t : State) : Int := sumI (fun i => mvI (cGet s.at_ i) (cGet t.at_ i)) 3
def movL (a b : List Int) : Int := sumI (fun i => mvI (a.getD i (-1)) (b.getD i (-1))) a.length
theorem movS_stL {a b : List Int} (h : a.length = b.length) (h3 : a.length ≤ 3) (j k : Nat) : movS (stL j a) (stL k b) = movL a b := by
  have e : ∀ i, i < 3 → (fun i => mvI (cGet (stL j a).at_ i) (cGet (stL k b).at_ i)) i = (fun i => mvI (a.getD i (-1)) (b.getD i (-1))) i := by
    intro i hi
    show mvI (cGet (mkCells a) i) (cGet (mkCells b) i) = _
    rw [cGet_mk hi, cGet_mk hi]
  unfold movS movL
  rw [sumI_congr 3 e]
  have z : ∀ i, a.length ≤ i → mvI (a.getD i (-1)) (b.getD i (-1)) = 0 := by
    intro i hi
    rw [List.getD_eq_getElem?_getD, List.getD_eq_getElem?_getD, List.getElem?_eq_none hi, List.getElem?_eq_none (by omega)]
    rfl
  have : a.length = 0 ∨ a.length = 1 ∨ a.length = 2 ∨ a.length = 3 := by omega
  rcases this with h | h | h | h <;> rw [h]
  · simp only [sumI, z 0 (by omega), z 1 (by omega), z 2 (by omega)]; rfl
  · simp only [sumI, z 1 (by omega), z 2 (by omega)]; omega
  · simp only [sumI, z 2 (by omega)]; omega
theorem VS_cell {c : Channel} (r : Right c) {s : State} (h : VS c s) {i : Nat} (hi : i < 3) : -1 ≤ cGet s.at_ i ∧ cGet s.at_ i ≤ 10 := by
  obtain ⟨⟨l, h1, h2⟩, _⟩ := h
  have hc := r.cells
  rw [h2, cGet_mk hi]
  by_cases hl : i < l.length
  · have := (rowB_iff.1 h1).2.2 _ (getD_mem (d := -1) hl)
    omega
  · rw [List.getD_eq_getElem?_getD, List.getElem?_eq_none (by omega)]
    simp
theorem movS_bnd {c : Channel} (r : Right c) {s t : State} (hs : VS c s) (ht : VS c t) : 0 ≤ movS s t ∧ movS s t ≤ 33 := by
  have := sumI_bnd (f := fun i => mvI (cGet s.at_ i) (cGet t.at_ i)) (B := 11) 3 (fun i hi => by
    have h1 := VS_cell r hs hi
    have h2 := VS_cell r ht hi
    unfold mvI
    omega)
  unfold movS
  omega
end Go.Proofs.Wb

namespace Go.Proofs.Wb
open Go Go.Fw Go.Gx Go.Sb
set_option linter.unusedVariables false
set_option maxRecDepth 100000
theorem movL_bnd {c : Channel} (r : Right c) {a b : List Int} (ha : rowB c a = true) (hb : rowB c b = true) : 0 ≤ movL a b ∧ movL a b ≤ 33 := by
  have hf := r.fords
  have ht := r.tides
  have h1 := rowB_iff.1 ha
  have h2 := rowB_iff.1 hb
  rw [← movS_stL (by omega) (by omega) 0 0]
  exact movS_bnd r ⟨⟨a, ha, rfl⟩, Int.le_refl _, ht.1⟩ ⟨⟨b, hb, rfl⟩, Int.le_refl _, ht.1⟩
end Go.Proofs.Wb

namespace Go.Proofs.Wb
set_option maxHeartbeats 4000000
set_option maxRecDepth 100000
open Go Go.Fw Go.Gx Go.Sb
open Tryz
set_option linter.unusedVariables false

structure Zz where
  t5_1 : Int
  t5_2 : Int
def Zq (shells0 : (List Int)) : Option Zz :=
 some (⟨0, 0⟩ : Zz)
theorem jaX (shells0 : (List Int)) (qa0 : Option Addr) (na0 ca0 : Nat) (w : World) (hw : HV w (keys [] []) [] [] [(aB qa0, aO qa0, RU8.enc shells0)] w) (hna0 : shells0.length = na0) (hqa0 : AOK na0 qa0) (hla0 : na0 ≤ ca0) {res : Zz} (hm : Zq shells0 = some res) :
    Calls Tryz.prog 62 #[.slice qa0 na0 ca0] w (fun en w' => ∃ l : Nat, en = .returned (ptr l 0) ∧ (True) ∧ HV w (keys [] []) [kc l #[.slice qa0 na0 ca0, .int .i64 res.t5_1, .int .u32 res.t5_2] 199] [] [] w') := by
  unfold Zq at hm
  refine yk func62 Y ntmps62 Y (e := [(0, _)]) Y hw (jr (jo Y Y (kO (jg Y Y (jc Y Y Y (fun _ _ => kN (vs := [(0, _)]) (cells := [_, _, _]) Y Y) ?_)))))
  refine jK Y Y (fun b h1 => ?_)
  refine jo Y Y (jq (jx ?_))
  obtain rfl := sj hm
  refine jn Y (fun w hh => (.tmp Y .nil)) (fun w hh => ⟨b, rfl, trivial, hh.se [0] [] 1 Y Y Y rfl⟩)
structure K1 where
  r0 : Int
  h0_1 : Int
  h0_2 : Int
structure QR where
  h0_1 : Int
  h0_2 : Int
def JX (h00 : (List Int)) (h01 : Int) (h02 : Int) : Option K1 :=
 (if h01 < (h00.length : Int) then
 ((ix h00 h01).bind fun t29 =>
 some (IntKind.u32.wrap ((IntKind.u32.wrap (40503 * (IntKind.u32.wrap (h02 + 1)))) + (IntKind.u32.wrap (331 * (IntKind.u32.wrap t29)))))) else
 (some (IntKind.u32.wrap (40503 * (IntKind.u32.wrap (h02 + 1)))))).bind fun o =>
 ((addc h01 1).bind fun t38 =>
 if (h00.length : Int) ≤ t38 then
 (some (⟨0, (IntKind.u32.wrap (h02 + 1))⟩ : QR)) else
 (some (⟨t38, h02⟩ : QR))).bind fun o_1 =>
 some (⟨(IntKind.i64.wrap (IntKind.u32.wrap (BitVec.ofInt IntKind.u32.bits (IntKind.u32.wrap (BitVec.ofInt IntKind.u32.bits o ^^^ BitVec.ofInt IntKind.u32.bits (Int.fdiv o (2 ^ min (Int.toNat 9) IntKind.u32.bits))).toNat) &&& BitVec.ofInt IntKind.u32.bits 32767).toNat)), o_1.h0_1, o_1.h0_2⟩ : K1)
theorem ZZ (h00 : (List Int)) (h01 : Int) (h02 : Int) (pb : Nat) (qa0 : Option Addr) (na0 ca0 : Nat) (w : World) (hw : HV w (keys [kc pb #[.slice qa0 na0 ca0, .int .i64 h01, .int .u32 h02] 199] []) [kc pb #[.slice qa0 na0 ca0, .int .i64 h01, .int .u32 h02] 199] [] [(aB qa0, aO qa0, RU8.enc h00)] w) (hna0 : h00.length = na0) (hqa0 : AOK na0 qa0) (hla0 : na0 ≤ ca0) {res : K1} (hm : JX h00 h01 h02 = some res) :
    Calls Tryz.prog 180 #[ptr pb 0] w (fun en w' => ∃ l : Unit, en = .returned (.int .i64 res.r0) ∧ (True) ∧ HV w (keys [kc pb #[.slice qa0 na0 ca0, .int .i64 h01, .int .u32 h02] 199] []) [kc pb #[.slice qa0 na0 ca0, .int .i64 res.h0_1, .int .u32 res.h0_2] 199] [] [] w') := by
  unfold JX at hm
  refine yk func180 Y ntmps180 Y (e := [(0, _)]) Y hw (jr (jo Y Y (kO (jg Y Y (jc Y Y Y (fun _ _ => j4 Y) (yp 2 runUnderlying199 Y sizeOf197 Y Y (qy 0 isAgg197 Y Y Y Y ?_)))))))
  refine jc Y Y Y (fun _ _ => jbm Y Y) (jc Y Y Y (fun _ _ => jbD Y Y) (jo Y Y (jq (ji ?_))))
  obtain ⟨o, h1, h2⟩ := bindO hm
  refine jR (ι := Unit) (fun l => True) (fun l => [(0, ptr pb 0), (3, .int .u32 o)]) (fun l => [kc pb #[.slice qa0 na0 ca0, .int .i64 h01, .int .u32 h02] 199]) (fun l => []) ?_ ?_
  ·replace hm := h1
   refine ji ?_
   refine kE none (.free 0 (.free 1 (.free 2 (.hoist 3 (.free 4 (.free 5 (.free 6 (.hoist 7 (.free 8 (.free 9 .done)))))))))) _ Y (by decide +kernel) (fun w k hh => hh.draw k) (fun w hh => hh) ?_
   refine zb Y Y Y (jl Y Y Y Y (fun _ _ => j4 Y) (Kk 1 runUnderlying199 sizeOf3 Y Y Y Y (KW 0 isAgg3 Y Y Y Y Y (zb Y Y Y (jl Y Y Y Y (fun _ _ => j4 Y) (Kk 0 runUnderlying199 sizeOf92 Y Y Y Y (KW 0 isAgg92 Y Y Y Y Y ?_)))))))
   refine jl Y Y Y Y (fun w _ => kw hna0 (runUnderlying92 w) Y) (jl Y Y Y Y (fun _ _ => jbs Y Y) (jS (jb ?_)))
   refine ju Y (fun h3 => ?_) (fun h3 => ?_)
   ·replace hm := ifD h3 hm
    refine kE none (.free 0 (.free 1 (.free 2 (.free 3 (.hoist 4 (.free 5 (.free 6 (.free 7 (.hoist 8 (.free 9 (.hoist 10 (.free 11 (.free 12 (.free 13 (.free 14 .done))))))))))))))) _ Y (by decide +kernel) (fun w k hh => hh.draw k) (fun w hh => hh) ?_
    refine zb Y Y Y (zb Y Y Y (jl Y Y Y Y (fun _ _ => j4 Y) (Kk 0 runUnderlying199 sizeOf92 Y Y Y Y (KW 0 isAgg92 Y Y Y Y Y (zb Y Y Y (jl Y Y Y Y (fun _ _ => j4 Y) (Kk 1 runUnderlying199 sizeOf3 Y Y Y Y ?_)))))))
    refine KW 0 isAgg3 Y Y Y Y Y ?_
    obtain ⟨t29, h4, hm⟩ := bindO hm
    refine jl Y Y Y Y (fun w _ => yX h4 (runUnderlying92 w) (sizeOf5 w) Y Y hna0 hqa0) (jy Y Y Y Y (fun w hh => k7 RU8 0 h4 (isAgg5 w) Y (hh.seg 0 Y) Y (Nat.add_zero _).symm) (jl Y Y Y Y (fun w _ => jbH (runUnderlying5 w) (runUnderlying197 w) Y) (jl Y Y Y Y (fun _ _ => jbD Y Y) (jl Y Y Y Y (fun _ _ => jbm Y Y) (jl Y Y Y Y (fun _ _ => kl Y) (jS ?_))))))
    obtain rfl := sj hm
    exact jj () (trivial) (sE Y) (fun w hh => hh)
   replace hm := ifE h3 hm
   refine jt ?_
   obtain rfl := sj hm
   exact jj () (trivial) (sE Y) (fun w hh => hh)
  intro l hj
  replace hm := h2
  refine jb (ji ?_)
  obtain ⟨o_1, h5, h6⟩ := bindO hm
  refine jR (ι := Unit) (fun l_1 => True) (fun l_1 => [(3, .int .u32 o)]) (fun l_1 => [kc pb #[.slice qa0 na0 ca0, .int .i64 o_1.h0_1, .int .u32 o_1.h0_2] 199]) (fun l_1 => []) ?_ ?_
  ·replace hm := h5
   refine jr (jg Y Y (jc Y Y Y (fun _ _ => j4 Y) (yp 1 runUnderlying199 Y sizeOf3 Y Y (qy 0 isAgg3 Y Y Y Y ?_))))
   obtain ⟨t38, h7, hm⟩ := bindO hm
   refine Ke h7 Y Y Y (jc Y Y Y (fun _ _ => j4 Y) (yp 1 runUnderlying199 Y sizeOf3 Y Y (yn (cs' := #[_, _, _]) (S' := [_]) 0 (fun w => sizeOf3 w) Y Y Y Y Y Y Y (jq (ji ?_)))))
   refine kE none (.free 0 (.free 1 (.free 2 (.hoist 3 (.free 4 (.free 5 (.free 6 (.hoist 7 (.free 8 (.free 9 .done)))))))))) _ Y (by decide +kernel) (fun w k hh => hh.draw k) (fun w hh => hh) ?_
   refine zb Y Y Y (jl Y Y Y Y (fun _ _ => j4 Y) (Kk 1 runUnderlying199 sizeOf3 Y Y Y Y (KW 0 isAgg3 Y Y Y Y Y (zb Y Y Y (jl Y Y Y Y (fun _ _ => j4 Y) (Kk 0 runUnderlying199 sizeOf92 Y Y Y Y (KW 0 isAgg92 Y Y Y Y Y ?_)))))))
   refine jl Y Y Y Y (fun w _ => kw hna0 (runUnderlying92 w) Y) (jl Y Y Y Y (fun _ _ => Zf Y Y) (jS (jb ?_)))
   refine ju Y (fun h8 => ?_) (fun h8 => ?_)
   ·replace hm := ifD h8 hm
    refine jh (jg Y Y (jg Y Y (jg Y Y (jc Y Y Y (fun _ _ => j4 Y) (yp 2 runUnderlying199 Y sizeOf197 Y Y (qy 0 isAgg197 Y Y Y Y (jc Y Y Y (fun _ _ => jbm Y Y) ?_)))))))
    refine jc Y Y Y (fun _ _ => j4 Y) (yp 1 runUnderlying199 Y sizeOf3 Y Y (yn (cs' := #[_, _, _]) (S' := [_]) 0 (fun w => sizeOf3 w) Y Y Y Y Y Y Y (jc Y Y Y (fun _ _ => j4 Y) (yp 2 runUnderlying199 Y sizeOf197 Y Y (yn (cs' := #[_, _, _]) (S' := [_]) 0 (fun w => sizeOf197 w) Y Y Y Y Y Y Y (js ?_))))))
    obtain rfl := sj hm
    exact jj () (trivial) (sE Y) (fun w hh => hh)
   replace hm := ifE h8 hm
   refine jt ?_
   obtain rfl := sj hm
   exact jj () (trivial) (sE Y) (fun w hh => hh)
  intro l_1 hj
  replace hm := h6
  refine jb (jr (jg Y Y (jg Y Y (jc Y Y Y (fun _ _ => jb6 Y Y (by decide)) (jc Y Y Y (fun _ _ => jbd Y Y Y) (jc Y Y Y (fun _ _ => jbd Y Y Y) (jc Y Y Y (fun w _ => jbH (runUnderlying197 w) (runUnderlying3 w) Y) ?_)))))))
  refine jo Y Y (jq (jx ?_))
  obtain rfl := sj hm
  refine jn Y (fun w hh => (.tmp Y .nil)) (fun w hh => ⟨(), rfl, trivial, hh.se [0] [] 1 Y Y Y rfl⟩)
structure zz where
  r0 : Int
  h0_1 : Int
  h0_2 : Int
def j7 (h00 : (List Int)) (h01 : Int) (h02 : Int) (n1 : Int) : Option zz :=
 (JX h00 h01 h02).bind fun t6 =>
 (addc n1 1).bind fun t8 =>
 (remc t6.r0 (max 1 t8)).bind fun t10 =>
 some (⟨t10, t6.h0_1, t6.h0_2⟩ : zz)
theorem ko (h00 : (List Int)) (h01 : Int) (h02 : Int) (n1 : Int) (pb : Nat) (qa0 : Option Addr) (na0 ca0 : Nat) (w : World) (hw : HV w (keys [kc pb #[.slice qa0 na0 ca0, .int .i64 h01, .int .u32 h02] 199] []) [kc pb #[.slice qa0 na0 ca0, .int .i64 h01, .int .u32 h02] 199] [] [(aB qa0, aO qa0, RU8.enc h00)] w) (hna0 : h00.length = na0) (hqa0 : AOK na0 qa0) (hla0 : na0 ≤ ca0) {res : zz} (hm : j7 h00 h01 h02 n1 = some res) :
    Calls Tryz.prog 146 #[ptr pb 0, .int .i64 n1] w (fun en w' => ∃ l : Unit, en = .returned (.int .i64 res.r0) ∧ (True) ∧ HV w (keys [kc pb #[.slice qa0 na0 ca0, .int .i64 h01, .int .u32 h02] 199] []) [kc pb #[.slice qa0 na0 ca0, .int .i64 res.h0_1, .int .u32 res.h0_2] 199] [] [] w') := by
  unfold j7 at hm
  refine yk func146 Y ntmps146 Y (e := [(0, _), (1, _)]) Y hw (jr (jo Y Y (kO (jg Y Y ?_))))
  obtain ⟨t6, h1, hm⟩ := bindO hm
  refine jd [_] [] Y Y Y Y Y Y Y call180 (fun w hh => ZZ h00 h01 h02 pb qa0 na0 ca0 w (HV.callee (S0 := [_]) (vs0 := []) hh (roR hh 0 Y roN)) hna0 hqa0 hla0 h1) (fun l h2 => ?_)
  refine kQ (S' := [_]) (vs' := []) [0] [] 0 Y Y Y Y (jg Y Y ?_)
  obtain ⟨t8, h3, hm⟩ := bindO hm
  refine Ke h3 Y Y Y (jc Y Y Y (fun _ _ => Z2 Y Y) ?_)
  obtain ⟨t10, h4, hm⟩ := bindO hm
  refine jc Y Y Y (fun _ _ => jbZ h4 Y Y) (jo Y Y (jq (jx ?_)))
  obtain rfl := sj hm
  refine jn Y (fun w hh => (.tmp Y .nil)) (fun w hh => ⟨(), rfl, trivial, hh.se [0] [] 1 Y Y Y rfl⟩)
structure yK where
  r0 : Int
  h0_1 : Int
  h0_2 : Int
def zC (h00 : (List Int)) (h01 : Int) (h02 : Int) (lo1 : Int) (hi2 : Int) : Option yK :=
 (subc hi2 lo1).bind fun t11 =>
 (j7 h00 h01 h02 t11).bind fun t12 =>
 (addc lo1 t12.r0).bind fun t13 =>
 some (⟨t13, t12.h0_1, t12.h0_2⟩ : yK)
theorem Qz (h00 : (List Int)) (h01 : Int) (h02 : Int) (lo1 : Int) (hi2 : Int) (pb : Nat) (qa0 : Option Addr) (na0 ca0 : Nat) (w : World) (hw : HV w (keys [kc pb #[.slice qa0 na0 ca0, .int .i64 h01, .int .u32 h02] 199] []) [kc pb #[.slice qa0 na0 ca0, .int .i64 h01, .int .u32 h02] 199] [] [(aB qa0, aO qa0, RU8.enc h00)] w) (hna0 : h00.length = na0) (hqa0 : AOK na0 qa0) (hla0 : na0 ≤ ca0) {res : yK} (hm : zC h00 h01 h02 lo1 hi2 = some res) :
    Calls Tryz.prog 145 #[ptr pb 0, .int .i64 lo1, .int .i64 hi2] w (fun en w' => ∃ l : Unit, en = .returned (.int .i64 res.r0) ∧ (True) ∧ HV w (keys [kc pb #[.slice qa0 na0 ca0, .int .i64 h01, .int .u32 h02] 199] []) [kc pb #[.slice qa0 na0 ca0, .int .i64 res.h0_1, .int .u32 res.h0_2] 199] [] [] w') := by
  unfold zC at hm
  refine yk func145 Y ntmps145 Y (e := [(0, _), (1, _), (2, _)]) Y hw (jr (jo Y Y (kO (jg Y Y (jg Y Y (jg Y Y (jg Y Y ?_)))))))
  obtain ⟨t11, h1, hm⟩ := bindO hm
  refine jc Y Y Y (fun _ _ => zu h1 Y Y) ?_
  obtain ⟨t12, h2, hm⟩ := bindO hm
  refine jd [_] [] Y Y Y Y Y Y Y call146 (fun w hh => ko h00 h01 h02 t11 pb qa0 na0 ca0 w (HV.callee (S0 := [_]) (vs0 := []) hh (roR hh 0 Y roN)) hna0 hqa0 hla0 h2) (fun l h3 => ?_)
  refine kQ (S' := [_]) (vs' := []) [0] [] 0 Y Y Y Y ?_
  obtain ⟨t13, h4, hm⟩ := bindO hm
  refine Ke h4 Y Y Y (jo Y Y (jq (jx ?_)))
  obtain rfl := sj hm
  refine jn Y (fun w hh => (.tmp Y .nil)) (fun w hh => ⟨(), rfl, trivial, hh.se [0] [] 1 Y Y Y rfl⟩)
structure K2 where
  r0 : Bool
  h0_1 : Int
  h0_2 : Int
def Jj (h00 : (List Int)) (h01 : Int) (h02 : Int) (n1 : Int) : Option K2 :=
 (subc n1 1).bind fun t7 =>
 (j7 h00 h01 h02 t7).bind fun t8 =>
 some (⟨(decide (t8.r0 = 0)), t8.h0_1, t8.h0_2⟩ : K2)
theorem YD (h00 : (List Int)) (h01 : Int) (h02 : Int) (n1 : Int) (pb : Nat) (qa0 : Option Addr) (na0 ca0 : Nat) (w : World) (hw : HV w (keys [kc pb #[.slice qa0 na0 ca0, .int .i64 h01, .int .u32 h02] 199] []) [kc pb #[.slice qa0 na0 ca0, .int .i64 h01, .int .u32 h02] 199] [] [(aB qa0, aO qa0, RU8.enc h00)] w) (hna0 : h00.length = na0) (hqa0 : AOK na0 qa0) (hla0 : na0 ≤ ca0) {res : K2} (hm : Jj h00 h01 h02 n1 = some res) :
    Calls Tryz.prog 68 #[ptr pb 0, .int .i64 n1] w (fun en w' => ∃ l : Unit, en = .returned (.bool res.r0) ∧ (True) ∧ HV w (keys [kc pb #[.slice qa0 na0 ca0, .int .i64 h01, .int .u32 h02] 199] []) [kc pb #[.slice qa0 na0 ca0, .int .i64 res.h0_1, .int .u32 res.h0_2] 199] [] [] w') := by
  unfold Jj at hm
  refine yk func68 Y ntmps68 Y (e := [(0, _), (1, _)]) Y hw (jr (jo Y Y (kO (jg Y Y (jg Y Y ?_)))))
  obtain ⟨t7, h1, hm⟩ := bindO hm
  refine jc Y Y Y (fun _ _ => zu h1 Y Y) ?_
  obtain ⟨t8, h2, hm⟩ := bindO hm
  refine jd [_] [] Y Y Y Y Y Y Y call146 (fun w hh => ko h00 h01 h02 t7 pb qa0 na0 ca0 w (HV.callee (S0 := [_]) (vs0 := []) hh (roR hh 0 Y roN)) hna0 hqa0 hla0 h2) (fun l h3 => ?_)
  refine kQ (S' := [_]) (vs' := []) [0] [] 0 Y Y Y Y (jc Y Y Y (fun _ _ => zS Y Y) (jo Y Y (jq (jx ?_))))
  obtain rfl := sj hm
  refine jn Y (fun w hh => (.tmp Y .nil)) (fun w hh => ⟨(), rfl, trivial, hh.se [0] [] 1 Y Y Y rfl⟩)
structure zT where
  h0_1 : Int
  h0_2 : Int
  r0 : (List Int)
structure QE where
  h0_1 : Int
  h0_2 : Int
  out5 : (List Int)
structure Jm where
  t9 : Int
  h0_1 : Int
  h0_2 : Int
  out5 : (List Int)
def zF (n1 : Int) (h00 : (List Int)) (s : Jm) : Option (Jm ⊕ QE) :=
 if s.t9 < (max 0 n1) then
 ((j7 h00 s.h0_1 s.h0_2 s.t9).bind fun t15 =>
 (JU s.out5 t15.r0 [s.t9]).bind fun t18 =>
 (addc s.t9 1).bind fun t19 =>
 some (.inl (⟨t19, t15.h0_1, t15.h0_2, t18⟩ : Jm))) else
 (some (.inr (⟨s.h0_1, s.h0_2, s.out5⟩ : QE)))
def Js (h00 : (List Int)) (h01 : Int) (h02 : Int) (n1 : Int) : Option zT :=
 (iterM FU (zF n1 h00) (⟨0, h01, h02, []⟩ : Jm)).bind fun o =>
 some (⟨o.h0_1, o.h0_2, o.out5⟩ : zT)
theorem ZK (h00 : (List Int)) (h01 : Int) (h02 : Int) (n1 : Int) (pb : Nat) (qa0 : Option Addr) (na0 ca0 : Nat) (w : World) (hw : HV w (keys [kc pb #[.slice qa0 na0 ca0, .int .i64 h01, .int .u32 h02] 199] []) [kc pb #[.slice qa0 na0 ca0, .int .i64 h01, .int .u32 h02] 199] [] [(aB qa0, aO qa0, RU8.enc h00)] w) (hna0 : h00.length = na0) (hqa0 : AOK na0 qa0) (hla0 : na0 ≤ ca0) {res : zT} (hm : Js h00 h01 h02 n1 = some res) :
    Calls Tryz.prog 69 #[ptr pb 0, .int .i64 n1] w (fun en w' => ∃ l : VL, en = .returned (sL l) ∧ (VOK 1 l.n l.cap (RI.enc res.r0) l.sp l.q) ∧ HV w (keys [kc pb #[.slice qa0 na0 ca0, .int .i64 h01, .int .u32 h02] 199] []) [kc pb #[.slice qa0 na0 ca0, .int .i64 res.h0_1, .int .u32 res.h0_2] 199] [vL 3 l (RI.enc res.r0)] [] w') := by
  unfold Js at hm
  refine yk func69 Y ntmps69 Y (e := [(0, _), (1, _)]) Y hw (jr (jc Y Y Y (fun _ _ => zf Y) (kO (jc Y Y Y (fun _ _ => zf Y) (jq (ji (jr ?_)))))))
  refine jg Y Y (jc Y Y Y (fun _ _ => Z2 Y Y) (jg Y Y (jq (Kq 3 ?_))))
  obtain ⟨o, h2, h3⟩ := bindO hm
  refine jR (ι := VL) (fun l => VOK 1 l.n l.cap (RI.enc o.out5) l.sp l.q) (fun l => [(5, sL l)]) (fun l => [kc pb #[.slice qa0 na0 ca0, .int .i64 o.h0_1, .int .u32 o.h0_2] 199]) (fun l => [vL 3 l (RI.enc o.out5)]) ?_ ?_
  ·replace hm := h2
   refine jp ?_
   refine jV (ι := VL) hm (fun s l_1 => VOK 1 l_1.n l_1.cap (RI.enc s.out5) l_1.sp l_1.q) (fun s l_1 => [(0, ptr pb 0), (5, sL l_1), (8, .int .i64 (max 0 n1)), (9, .int .i64 s.t9)]) (fun s l_1 => [kc pb #[.slice qa0 na0 ca0, .int .i64 s.h0_1, .int .u32 s.h0_2] 199]) (fun s l_1 => [vL 3 l_1 (RI.enc s.out5)]) ⟨none, 0, 0, []⟩ (VOK.nil) (sE Y) (fun w hh => hh) (fun s l_1 r hpl hm h6 => ?_)
   have h5 := hpl
   unfold zF at hm
   refine jr (J6 Y Y Y (jq (ji ?_)))
   refine ju Y (fun h7 => ?_) (fun h7 => ?_)
   ·replace hm := ifD h7 hm
    refine jt (jb (ji (jp (jr (jg Y Y (jo Y Y (jq ?_)))))))
    refine jh (jg Y Y (jg Y Y (jg Y Y ?_)))
    obtain ⟨t15, h8, hm⟩ := bindO hm
    refine jd [_] [] Y Y Y Y Y Y Y call146 (fun w hh => ko h00 s.h0_1 s.h0_2 s.t9 pb qa0 na0 ca0 w (HV.callee (S0 := [_]) (vs0 := []) hh (roR hh 0 Y roN)) hna0 hqa0 hla0 h8) (fun l_2 h9 => ?_)
    refine kQ (S' := [_]) (vs' := [_]) [0] [0] 0 Y Y Y Y (jg Y Y ?_)
    refine qI RI [s.t9] (ps := [(0, _)]) (cells := [_]) (fun w => runUnderlying22 w) (fun w => sizeOf3 w) (fun w => zeroValue3 w) Y Y Y Y Y Y Y Y (fun L h10 => ?_)
    obtain ⟨t18, h11, hm⟩ := bindO hm
    refine kQ (S' := [_]) (vs' := [_, _]) [0] [1, 0] 0 Y Y Y Y ?_
    refine jd [] [_, _] Y Y Y Y Y Y Y call149 (fun w hh => ZH s.out5 t15.r0 [s.t9] ⟨l_1.q, l_1.n, l_1.cap, l_1.sp⟩ ⟨L.q, L.n, L.cap, L.sp⟩ w (HV.callee (S0 := []) (vs0 := [_, _]) hh roN) h5 h10 h11) (fun l_3 h12 => ?_)
    have h13 := h12
    refine kQ (S' := [_]) (vs' := [_, _]) [0] [0, 1] 0 Y Y Y Y (jo Y Y (js (jw (jb (jh ?_)))))
    obtain ⟨t19, h14, hm⟩ := bindO hm
    refine Ke h14 Y Y Y (jg Y Y (js ?_))
    obtain rfl := sj hm
    refine jb ?_
    exact jG _ l_3 Y (h13) (sE Y) (hsE [0] [0] 0 Y Y Y Y)
   replace hm := ifE h7 hm
   refine j8 (jk (jk (jI ?_)))
   obtain rfl := sj hm
   have hbo := h6 _ Y
   subst hbo
   exact jj l_1 (h5) (sE Y) (fun w hh => hh)
  intro l hj
  have h4 := hj
  replace hm := h3
  refine jb (jr (jg Y Y (jo Y Y (jq (jx ?_)))))
  obtain rfl := sj hm
  refine jn Y (fun w hh => (.tmp Y .nil)) (fun w hh => ⟨l, rfl, h4, hh.se [0] [0] 1 Y Y Y rfl⟩)
structure yx where
  r5 : Int
  t11 : Int
def yB (c0 : Channel) (cell1 : Int) (s : yx) : Option (yx ⊕ Int) :=
 if s.t11 < (c0.sands.length : Int) then
 (((ix c0.sands s.t11).bind fun t13 =>
 (if t13.span.lo ≤ cell1 then
 (some (decide (cell1 ≤ t13.span.hi))) else
 (some false)).bind fun o_2 =>
 if o_2 = true then
 (some (max s.r5 t13.reach)) else
 (some s.r5)).bind fun o_1 =>
 (addc s.t11 1).bind fun t31 =>
 some (.inl (⟨o_1, t31⟩ : yx))) else
 (some (.inr s.r5))
def yD (c0 : Channel) (cell1 : Int) : Option Int :=
 (iterM FU (yB c0 cell1) (⟨0, 0⟩ : yx)).bind fun o =>
 some o
theorem Qy (c0 : Channel) (cell1 : Int) (qa0 : Option Addr) (na0 ca0 : Nat) (qa1 : Option Addr) (na1 ca1 : Nat) (qa2 : Option Addr) (na2 ca2 : Nat) (w : World) (hw : HV w (keys [] []) [] [] [(aB qa0, aO qa0, RI.enc c0.fords), (aB qa1, aO qa1, RSa.enc c0.sands), (aB qa2, aO qa2, RSi.enc c0.sights)] w) (hna0 : c0.fords.length = na0) (hqa0 : AOK na0 qa0) (hla0 : na0 ≤ ca0) (hna1 : c0.sands.length = na1) (hqa1 : AOK na1 qa1) (hla1 : na1 ≤ ca1) (hna2 : c0.sights.length = na2) (hqa2 : AOK na2 qa2) (hla2 : na2 ≤ ca2) {res : Int} (hm : yD c0 cell1 = some res) :
    Calls Tryz.prog 63 #[.agg #[.int .i64 c0.cells, .int .i64 c0.tides, .slice qa0 na0 ca0, .slice qa1 na1 ca1, .slice qa2 na2 ca2], .int .i64 cell1] w (fun en w' => ∃ l : Unit, en = .returned (.int .i64 res) ∧ (True) ∧ HV w (keys [] []) [] [] [] w') := by
  unfold yD at hm
  refine yk func63 Y ntmps63 Y (e := [(0, _), (1, _)]) Y hw (jr ?_)
  refine jK Y Y (fun b h1 => ?_)
  refine jo Y Y (kO (jo Y Y (jq (ji (jr (yp 3 runUnderlying26 Y sizeOf23 Y Y (qy 0 isAgg23 Y Y Y Y ?_)))))))
  refine jc Y Y Y (fun w _ => kw hna1 (runUnderlying23 w) Y) (jg Y Y (jq ?_))
  obtain ⟨o, h2, h3⟩ := bindO hm
  refine jR (ι := Unit) (fun l => True) (fun l => [(5, .int .i64 o)]) (fun l => [kc b #[.int .i64 c0.cells, .int .i64 c0.tides, .slice qa0 na0 ca0, .slice qa1 na1 ca1, .slice qa2 na2 ca2] 26]) (fun l => []) ?_ ?_
  ·replace hm := h2
   refine jp ?_
   refine jV (ι := Unit) hm (fun s l_1 => True) (fun s l_1 => [(1, .int .i64 cell1), (5, .int .i64 s.r5), (9, .slice qa1 na1 ca1), (10, .int .i64 (c0.sands.length : Int)), (11, .int .i64 s.t11)]) (fun s l_1 => [kc b #[.int .i64 c0.cells, .int .i64 c0.tides, .slice qa0 na0 ca0, .slice qa1 na1 ca1, .slice qa2 na2 ca2] 26]) (fun s l_1 => []) () (trivial) (sE Y) (fun w hh => hh) (fun s l_1 r hpl hm h4 => ?_)
   unfold yB at hm
   refine jr (J6 Y Y Y (jq (ji ?_)))
   refine ju Y (fun h5 => ?_) (fun h5 => ?_)
   ·replace hm := ifD h5 hm
    refine jt (jb (ji ?_))
    obtain ⟨o_1, h6, h7⟩ := bindO hm
    refine jR (ι := Unit) (fun l_2 => True) (fun l_2 => [(1, .int .i64 cell1), (5, .int .i64 o_1), (9, .slice qa1 na1 ca1), (10, .int .i64 (c0.sands.length : Int)), (11, .int .i64 s.t11)]) (fun l_2 => [kc b #[.int .i64 c0.cells, .int .i64 c0.tides, .slice qa0 na0 ca0, .slice qa1 na1 ca1, .slice qa2 na2 ca2] 26]) (fun l_2 => []) ?_ ?_
    ·replace hm := h6
     refine jp (jr ?_)
     obtain ⟨t13, h8, hm⟩ := bindO hm
     refine jc Y Y Y (fun w _ => yX h8 (runUnderlying23 w) (sizeOf98 w) Y Y hna1 hqa1) ?_
     refine jc Y Y Y (fun w hh => J5 RSa 0 [.int .i64 t13.span.lo, .int .i64 t13.span.hi, .int .i64 t13.reach] h8 (isAgg98 w) (sizeOf98 w) Y (hh.seg 1 Y) Y (Nat.add_zero _).symm) ?_
     refine jv (fun w => zeroValue98 w) Y (fun b_1 h9 => ?_)
     refine j3 (us := #[_, _, _]) (cs' := [_, _, _]) (S' := [_, _]) 0 (fun w => sizeOf98 w) Y Y Y Y Y Y Y (jq (ji ?_))
     obtain ⟨o_2, h10, h11⟩ := bindO hm
     refine jR (ι := Unit) (fun l_3 => True) (fun l_3 => [(1, .int .i64 cell1), (5, .int .i64 s.r5), (7, ptr b_1 0), (9, .slice qa1 na1 ca1), (10, .int .i64 (c0.sands.length : Int)), (11, .int .i64 s.t11), (26, .bool o_2)]) (fun l_3 => [kc b_1 #[.int .i64 t13.span.lo, .int .i64 t13.span.hi, .int .i64 t13.reach] 98, kc b #[.int .i64 c0.cells, .int .i64 c0.tides, .slice qa0 na0 ca0, .slice qa1 na1 ca1, .slice qa2 na2 ca2] 26]) (fun l_3 => []) ?_ ?_
     ·replace hm := h10
      refine jh (yp 0 runUnderlying98 Y sizeOf50 Y Y (yp 0 runUnderlying50 Y sizeOf3 Y Y (qy 0 isAgg3 Y Y Y Y (jg Y Y (jc Y Y Y (fun _ _ => jaO Y Y) (jg Y Y ?_))))))
      refine jH 20 Y (fun h12 => ?_) (fun h12 => ?_)
      ·replace hm := ifD h12 hm
       refine ja Y Y (jg Y Y (ja Y Y (yp 0 runUnderlying98 Y sizeOf50 Y Y (ja Y Y (yp 1 runUnderlying50 Y sizeOf3 Y Y (ja Y Y (qy 0 isAgg3 Y Y Y Y ?_)))))))
       refine ja Y Y (jc Y Y Y (fun _ _ => jaO Y Y) (qY Y Y Y (js ?_)))
       obtain rfl := sj hm
       exact jj () (trivial) (sE Y) (fun w hh => hh)
      replace hm := ifE h12 hm
      refine g_k Y Y Y Y (g_k Y Y Y Y (g_k Y Y Y Y (g_k Y Y Y Y (g_k Y Y Y Y (q6 Y Y Y (js ?_))))))
      obtain rfl := sj hm
      exact jj () (trivial) (sE Y) (fun w hh => hh)
     intro l_3 hj
     replace hm := h11
     refine jb ?_
     refine ju Y (fun h13 => ?_) (fun h13 => ?_)
     ·replace hm := ifT (h13) hm
      refine jh (jg Y Y (yp 2 runUnderlying98 Y sizeOf3 Y Y (qy 0 isAgg3 Y Y Y Y (jc Y Y Y (fun _ _ => Z2 Y Y) (jo Y Y (js (jw ?_)))))))
      obtain rfl := sj hm
      exact jj () (trivial) (sE Y) (hsE [1] [] 0 Y Y Y Y)
     replace hm := ifN h13 hm
     refine jt (jw ?_)
     obtain rfl := sj hm
     exact jj () (trivial) (sE Y) (hsE [1] [] 0 Y Y Y Y)
    intro l_2 hj
    replace hm := h7
    refine jb (jh ?_)
    obtain ⟨t31, h14, hm⟩ := bindO hm
    refine Ke h14 Y Y Y (jg Y Y (js ?_))
    obtain rfl := sj hm
    refine jb ?_
    exact jG _ () Y (trivial) (sE Y) (fun w hh => hh)
   replace hm := ifE h5 hm
   refine j8 (jk (jk (jI ?_)))
   obtain rfl := sj hm
   have hbo := h4 _ Y
   subst hbo
   exact jj () (trivial) (sE Y) (fun w hh => hh)
  intro l hj
  replace hm := h3
  refine jb (jr (jg Y Y (jo Y Y (jq (jx ?_)))))
  obtain rfl := sj hm
  refine jn Y (fun w hh => (.tmp Y .nil)) (fun w hh => ⟨(), rfl, trivial, hh.se [] [] 3 Y Y Y rfl⟩)
structure kb where
  b0_1 : Int
  b0_2 : Int
  r0 : (List (List Int))
structure Kl where
  b0_1 : Int
  b0_2 : Int
  out5 : (List (List Int))
structure yO where
  t17 : Int
  b0_1 : Int
  b0_2 : Int
  out5 : (List (List Int))
structure Kr where
  b0_1 : Int
  b0_2 : Int
  r0 : (List Int)
structure yM where
  t33 : Int
  b0_1 : Int
  b0_2 : Int
  r0 : (List Int)
structure Km where
  b0_1 : Int
  b0_2 : Int
  r0 : (List Int)
def qN (t31 : zT) (t27 : (List Int)) (c1 : Channel) (b00 : (List Int)) (s_1 : yM) : Option (yM ⊕ Kr) :=
 if s_1.t33 < (t31.r0.length : Int) then
 (((ix t31.r0 s_1.t33).bind fun t35 =>
 (ix t27 t35).bind fun t39 =>
 (ix t27 t35).bind fun t45 =>
 (ix t27 t35).bind fun t52 =>
 (yD c1 t45).bind fun t47 =>
 (negc t47).bind fun t48 =>
 (yD c1 t52).bind fun t54 =>
 (zC b00 s_1.b0_1 s_1.b0_2 t48 t54).bind fun t55 =>
 (addc t39 t55.r0).bind fun t56 =>
 (if 0 ≤ t56 then
 (if t56 < c1.cells then
 (if t35 = 0 then
 ((subc (s_1.r0.length : Int) 1).bind fun t82 =>
 if t35 = t82 then
 (some true) else
 ((addc t35 1).bind fun t88 =>
 (ix s_1.r0 t88).bind fun t89 =>
 some (decide (t56 < t89)))) else
 ((subc t35 1).bind fun t72 =>
 (ix s_1.r0 t72).bind fun t73 =>
 if t73 < t56 then
 ((subc (s_1.r0.length : Int) 1).bind fun t82_1 =>
 if t35 = t82_1 then
 (some true) else
 ((addc t35 1).bind fun t88_1 =>
 (ix s_1.r0 t88_1).bind fun t89_1 =>
 some (decide (t56 < t89_1)))) else
 (some false))) else
 (some false)) else
 (some false)).bind fun o_3 =>
 if o_3 = true then
 ((ix s_1.r0 t35).bind fun t97 =>
 (some (s_1.r0.set (Int.toNat t35) t56)).bind fun r0 =>
 some (⟨t55.h0_1, t55.h0_2, r0⟩ : Km)) else
 (some (⟨t55.h0_1, t55.h0_2, s_1.r0⟩ : Km))).bind fun o_2 =>
 (addc s_1.t33 1).bind fun t98 =>
 some (.inl (⟨t98, o_2.b0_1, o_2.b0_2, o_2.r0⟩ : yM))) else
 (some (.inr (⟨s_1.b0_1, s_1.b0_2, s_1.r0⟩ : Kr)))
def qL (c1 : Channel) (b00 : (List Int)) (s : yO) : Option (yO ⊕ Kl) :=
 if s.t17 < c1.tides then
 ((subc (s.out5.length : Int) 1).bind fun t22 =>
 (ix s.out5 t22).bind fun t23 =>
 (KD t23).bind fun t25 =>
 (KD t25).bind fun t27 =>
 (Js b00 s.b0_1 s.b0_2 (t25.length : Int)).bind fun t31 =>
 (iterM FU (qN t31 t27 c1 b00) (⟨0, t31.h0_1, t31.h0_2, t25⟩ : yM)).bind fun o_1 =>
 (appc 24 s.out5 [o_1.r0]).bind fun t102 =>
 (addc s.t17 1).bind fun t103 =>
 some (.inl (⟨t103, o_1.b0_1, o_1.b0_2, t102⟩ : yO))) else
 (some (.inr (⟨s.b0_1, s.b0_2, s.out5⟩ : Kl)))
def k4 (b00 : (List Int)) (b01 : Int) (b02 : Int) (c1 : Channel) : Option kb :=
 (KD c1.fords).bind fun t13 =>
 (iterM FU (qL c1 b00) (⟨0, b01, b02, [t13]⟩ : yO)).bind fun o =>
 some (⟨o.b0_1, o.b0_2, o.out5⟩ : kb)
theorem KX (b00 : (List Int)) (b01 : Int) (b02 : Int) (c1 : Channel) (pb : Nat) (qa0 : Option Addr) (na0 ca0 : Nat) (qa1 : Option Addr) (na1 ca1 : Nat) (qa2 : Option Addr) (na2 ca2 : Nat) (qa3 : Option Addr) (na3 ca3 : Nat) (w : World) (hw : HV w (keys [kc pb #[.slice qa0 na0 ca0, .int .i64 b01, .int .u32 b02] 199] []) [kc pb #[.slice qa0 na0 ca0, .int .i64 b01, .int .u32 b02] 199] [] [(aB qa0, aO qa0, RU8.enc b00), (aB qa1, aO qa1, RI.enc c1.fords), (aB qa2, aO qa2, RSa.enc c1.sands), (aB qa3, aO qa3, RSi.enc c1.sights)] w) (hna0 : b00.length = na0) (hqa0 : AOK na0 qa0) (hla0 : na0 ≤ ca0) (hna1 : c1.fords.length = na1) (hqa1 : AOK na1 qa1) (hla1 : na1 ≤ ca1) (hna2 : c1.sands.length = na2) (hqa2 : AOK na2 qa2) (hla2 : na2 ≤ ca2) (hna3 : c1.sights.length = na3) (hqa3 : AOK na3 qa3) (hla3 : na3 ≤ ca3) {res : kb} (hm : k4 b00 b01 b02 c1 = some res) :
    Calls Tryz.prog 78 #[ptr pb 0, .agg #[.int .i64 c1.cells, .int .i64 c1.tides, .slice qa1 na1 ca1, .slice qa2 na2 ca2, .slice qa3 na3 ca3]] w (fun en w' => ∃ l : DL, en = .returned (sL l.v) ∧ (VOK 1 l.v.n l.v.cap (RwH.enc l.rs) l.v.sp l.v.q ∧ DOK RI res.r0 l.rs) ∧ HV w (keys [kc pb #[.slice qa0 na0 ca0, .int .i64 b01, .int .u32 b02] 199] []) [kc pb #[.slice qa0 na0 ca0, .int .i64 res.b0_1, .int .u32 res.b0_2] 199] [⟨22, RwH.enc l.rs, l.v.sp, l.v.q, dbl 3 RI res.r0 l.rs⟩] [] w') := by
  unfold k4 at hm
  refine yk func78 Y ntmps78 Y (e := [(0, _), (1, _)]) Y hw (jr ?_)
  refine jK Y Y (fun b h3 => ?_)
  refine jc Y Y Y (fun _ _ => zf Y) (kO (yp 2 runUnderlying26 Y sizeOf22 Y Y (qy 0 isAgg22 Y Y Y Y ?_)))
  obtain ⟨t13, h4, hm⟩ := bindO hm
  refine jd [] [] Y Y Y Y Y Y Y call46 (fun w hh => Zm c1.fords qa1 na1 ca1 w (HV.callee (S0 := []) (vs0 := []) hh (roR hh 1 Y roN)) hna1 hqa1 hla1 h4) (fun l h5 => ?_)
  have h6 := h5
  refine kQ (S' := [_, _]) (vs' := [_]) [0, 1] [0] 0 Y Y Y Y ?_
  refine qI RwH [(⟨l.q, l.n, l.cap, l.sp⟩ : VL)] (ps := [(0, _)]) (cells := [_]) (fun w => runUnderlying41 w) (fun w => sizeOf22 w) (fun w => zeroValue22 w) Y Y Y Y Y Y Y Y (fun L h7 => ?_)
  refine jaf (E2 := 3) RI 1 (Y : _ = ([[]] : List (List Int))) (fun h8 => ?_)
  refine kQ (S' := [_, _]) (vs' := [_, _]) [0, 1] [0, 1] 0 Y Y Y Y ?_
  refine jah RI (l' := [t13]) 0 l.n l.cap h8 h6 Y Y (fun h9 => ?_)
  have h10 : DOK RI [t13] [(⟨l.q, l.n, l.cap, l.sp⟩ : VL)] := h9
  refine ja2 (S' := [_, _]) (vs' := [⟨22, RwH.enc [(⟨l.q, l.n, l.cap, l.sp⟩ : VL)], L.sp, L.q, dbl 3 RI [t13] [(⟨l.q, l.n, l.cap, l.sp⟩ : VL)]⟩]) [0, 1] [0] 0 (by decide) (by decide) Y Y Y ?_
  refine jo Y Y (jq (ji (jr (yp 1 runUnderlying26 Y sizeOf3 Y Y (qy 0 isAgg3 Y Y Y Y (jg Y Y (jq ?_)))))))
  obtain ⟨o, h11, h12⟩ := bindO hm
  refine jR (ι := DL) (fun l_1 => VOK 1 l_1.v.n l_1.v.cap (RwH.enc l_1.rs) l_1.v.sp l_1.v.q ∧ DOK RI o.out5 l_1.rs) (fun l_1 => [(5, sL l_1.v)]) (fun l_1 => [kc b #[.int .i64 c1.cells, .int .i64 c1.tides, .slice qa1 na1 ca1, .slice qa2 na2 ca2, .slice qa3 na3 ca3] 26, kc pb #[.slice qa0 na0 ca0, .int .i64 o.b0_1, .int .u32 o.b0_2] 199]) (fun l_1 => [⟨22, RwH.enc l_1.rs, l_1.v.sp, l_1.v.q, dbl 3 RI o.out5 l_1.rs⟩]) ?_ ?_
  ·replace hm := h11
   refine jp ?_
   refine jV (ι := DL) hm (fun s l_2 => VOK 1 l_2.v.n l_2.v.cap (RwH.enc l_2.rs) l_2.v.sp l_2.v.q ∧ DOK RI s.out5 l_2.rs) (fun s l_2 => [(0, ptr pb 0), (3, ptr b 0), (5, sL l_2.v), (16, .int .i64 c1.tides), (17, .int .i64 s.t17)]) (fun s l_2 => [kc b #[.int .i64 c1.cells, .int .i64 c1.tides, .slice qa1 na1 ca1, .slice qa2 na2 ca2, .slice qa3 na3 ca3] 26, kc pb #[.slice qa0 na0 ca0, .int .i64 s.b0_1, .int .u32 s.b0_2] 199]) (fun s l_2 => [⟨22, RwH.enc l_2.rs, l_2.v.sp, l_2.v.q, dbl 3 RI s.out5 l_2.rs⟩]) (⟨⟨L.q, L.n, L.cap, L.sp⟩, [(⟨l.q, l.n, l.cap, l.sp⟩ : VL)]⟩) (⟨h7, h10⟩) (sE Y) (fun w hh => hh) (fun s l_2 r hpl hm h17 => ?_)
   obtain ⟨h15, h16⟩ := hpl
   unfold qL at hm
   refine jr (J6 Y Y Y (jq (ji ?_)))
   refine ju Y (fun h18 => ?_) (fun h18 => ?_)
   ·replace hm := ifD h18 hm
    refine jt (jb (ji (jp (jr (jg Y Y (jg Y Y (jc Y Y Y (fun w _ => Jh (Eq.trans (h16).len (vlen RwH h15 Y)) (runUnderlying41 w) Y) ?_)))))))
    obtain ⟨t22, h19, hm⟩ := bindO hm
    refine jc Y Y Y (fun _ _ => zu h19 Y Y) ?_
    obtain ⟨t23, h20, hm⟩ := bindO hm
    obtain ⟨L_1, h21, h22⟩ := (h16).row h20
    refine jc Y Y Y (fun w _ => zE h21 (runUnderlying41 w) (sizeOf22 w) Y Y (vlen RwH h15 Y) (vne h15)) (jc Y Y Y (fun w hh => k7 RwH 0 h21 (isAgg22 w) Y (hh.vseg 0 Y h15) Y (Nat.add_zero _).symm) ?_)
    obtain ⟨t25, h23, hm⟩ := bindO hm
    refine jd [] [] Y Y Y Y Y Y Y call46 (fun w hh => Zm t23 (qA L_1.q) L_1.n L_1.cap w (HV.callee (S0 := []) (vs0 := []) hh (roC (hh.dsepA (S0 := []) (vs0 := []) 0 Y h20 h21 h22) roN)) (vlen RI h22 Y) (AOK.q (vne h22)) (h22).hle h23) (fun l_3 h24 => ?_)
    have h25 := h24
    refine kQ (S' := [_, _]) (vs' := [_, _]) [0, 1] [0, 1] 0 Y Y Y Y (jo Y Y (kO (jg Y Y ?_)))
    obtain ⟨t27, h26, hm⟩ := bindO hm
    refine jd [] [] Y Y Y Y Y Y Y call46 (fun w hh => Zm t25 (qA l_3.q) l_3.n l_3.cap w (HV.callee (S0 := []) (vs0 := []) hh (roC (hh.vsepA 0 Y h25) roN)) (vlen RI h25 Y) (AOK.q (vne h25)) (h25).hle h26) (fun l_4 h27 => ?_)
    have h28 := h27
    refine kQ (S' := [_, _]) (vs' := [_, _, _]) [0, 1] [0, 1, 2] 0 Y Y Y Y (jo Y Y (jq (ji (jr (jg Y Y (jg Y Y (jc Y Y Y (fun w _ => Jh (vlen RI h25 Y) (runUnderlying22 w) Y) ?_)))))))
    obtain ⟨t31, h29, hm⟩ := bindO hm
    refine kQ (S' := [_, _]) (vs' := [_, _, _]) [1, 0] [0, 1, 2] 0 Y Y Y Y ?_
    refine jd [_] [] Y Y Y Y Y Y Y call69 (fun w hh => ZK b00 s.b0_1 s.b0_2 (t25.length : Int) pb qa0 na0 ca0 w (HV.callee (S0 := [_]) (vs0 := []) hh (roR hh 0 Y roN)) hna0 hqa0 hla0 h29) (fun l_5 h30 => ?_)
    have h31 := h30
    refine kQ (S' := [_, _]) (vs' := [_, _, _, _]) [0, 1] [0, 1, 2, 3] 0 Y Y Y Y (jc Y Y Y (fun w _ => Jh (vlen RI h31 Y) (runUnderlying22 w) Y) (jg Y Y (jq ?_)))
    obtain ⟨o_1, h32, h33⟩ := bindO hm
    refine jR (ι := Unit) (fun l_6 => VOK 1 l_3.n l_3.cap (RI.enc o_1.r0) l_3.sp l_3.q) (fun l_6 => [(0, ptr pb 0), (3, ptr b 0), (5, sL l_2.v), (6, sL l_3), (16, .int .i64 c1.tides), (17, .int .i64 s.t17)]) (fun l_6 => [kc pb #[.slice qa0 na0 ca0, .int .i64 o_1.b0_1, .int .u32 o_1.b0_2] 199, kc b #[.int .i64 c1.cells, .int .i64 c1.tides, .slice qa1 na1 ca1, .slice qa2 na2 ca2, .slice qa3 na3 ca3] 26]) (fun l_6 => [⟨22, RwH.enc l_2.rs, l_2.v.sp, l_2.v.q, dbl 3 RI s.out5 l_2.rs⟩, vL 3 l_3 (RI.enc o_1.r0)]) ?_ ?_
    ·replace hm := h32
     refine jp ?_
     refine jV (ι := Unit) hm (fun s_1 l_7 => VOK 1 l_3.n l_3.cap (RI.enc s_1.r0) l_3.sp l_3.q) (fun s_1 l_7 => [(0, ptr pb 0), (3, ptr b 0), (5, sL l_2.v), (6, sL l_3), (7, sL l_4), (16, .int .i64 c1.tides), (17, .int .i64 s.t17), (31, sL l_5), (32, .int .i64 (t31.r0.length : Int)), (33, .int .i64 s_1.t33)]) (fun s_1 l_7 => [kc pb #[.slice qa0 na0 ca0, .int .i64 s_1.b0_1, .int .u32 s_1.b0_2] 199, kc b #[.int .i64 c1.cells, .int .i64 c1.tides, .slice qa1 na1 ca1, .slice qa2 na2 ca2, .slice qa3 na3 ca3] 26]) (fun s_1 l_7 => [⟨22, RwH.enc l_2.rs, l_2.v.sp, l_2.v.q, dbl 3 RI s.out5 l_2.rs⟩, vL 3 l_3 (RI.enc s_1.r0), vL 3 l_4 (RI.enc t27), vL 3 l_5 (RI.enc t31.r0)]) () (h25) (sE Y) (hsE [0, 1] [3, 2, 1, 0] 0 Y Y Y Y) (fun s_1 l_7 r_1 hpl hm h36 => ?_)
     have h35 := hpl
     unfold qN at hm
     refine jr (J6 Y Y Y (jq (ji ?_)))
     refine ju Y (fun h37 => ?_) (fun h37 => ?_)
     ·replace hm := ifD h37 hm
      refine jt (jb (ji ?_))
      obtain ⟨o_2, h38, h39⟩ := bindO hm
      refine jR (ι := Unit) (fun l_8 => VOK 1 l_3.n l_3.cap (RI.enc o_2.r0) l_3.sp l_3.q) (fun l_8 => [(0, ptr pb 0), (3, ptr b 0), (5, sL l_2.v), (6, sL l_3), (7, sL l_4), (16, .int .i64 c1.tides), (17, .int .i64 s.t17), (31, sL l_5), (32, .int .i64 (t31.r0.length : Int)), (33, .int .i64 s_1.t33)]) (fun l_8 => [kc pb #[.slice qa0 na0 ca0, .int .i64 o_2.b0_1, .int .u32 o_2.b0_2] 199, kc b #[.int .i64 c1.cells, .int .i64 c1.tides, .slice qa1 na1 ca1, .slice qa2 na2 ca2, .slice qa3 na3 ca3] 26]) (fun l_8 => [⟨22, RwH.enc l_2.rs, l_2.v.sp, l_2.v.q, dbl 3 RI s.out5 l_2.rs⟩, vL 3 l_3 (RI.enc o_2.r0), vL 3 l_4 (RI.enc t27), vL 3 l_5 (RI.enc t31.r0)]) ?_ ?_
      ·replace hm := h38
       refine jp (jr ?_)
       obtain ⟨t35, h41, hm⟩ := bindO hm
       refine jc Y Y Y (fun w _ => zE h41 (runUnderlying22 w) (sizeOf3 w) Y Y (vlen RI h31 Y) (vne h31)) (jc Y Y Y (fun w hh => k7 RI 0 h41 (isAgg3 w) Y (hh.vseg 3 Y h31) Y (Nat.add_zero _).symm) (jo Y Y (jq (ji ?_))))
       refine kE none (.free 0 (.free 1 (.free 2 (.hoist 3 (.free 4 (.hoist 5 (.free 6 (.free 7 (.free 8 (.hoist 9 (.hoist 12 (.free 13 (.free 14 (.free 15 (.hoist 16 (.one 10 (.free 11 (.one 17 (.one 18 (.free 19 (.free 20 .done))))))))))))))))))))) (HV _ _ [kc b #[.int .i64 c1.cells, .int .i64 c1.tides, .slice qa1 na1 ca1, .slice qa2 na2 ca2, .slice qa3 na3 ca3] 26] [⟨22, RwH.enc l_2.rs, l_2.v.sp, l_2.v.q, dbl 3 RI s.out5 l_2.rs⟩, vL 3 l_3 (RI.enc s_1.r0), vL 3 l_4 (RI.enc t27), vL 3 l_5 (RI.enc t31.r0)] _) Y (by decide +kernel) (fun w k hh => hh.draw k) (hsE [1] [0, 1, 2, 3] 0 Y Y Y Y) ?_
       refine zb Y Y Y (zb Y Y Y ?_)
       obtain ⟨t39, h42, hm⟩ := bindO hm
       refine jl Y Y Y Y (fun w _ => zE h42 (runUnderlying22 w) (sizeOf3 w) Y Y (vlen RI h28 Y) (vne h28)) (jy Y Y Y Y (fun w hh => k7 RI 0 h42 (isAgg3 w) Y (hh.vseg 2 Y h28) Y (Nat.add_zero _).symm) (zb Y Y Y (jy Y Y Y Y (fun w hh => jP (vs := [_, _, _, _, _]) (isAgg26 w) (sizeOf26 w) Y (hh.cells 0 Y Y)) (zb Y Y Y (zb Y Y Y ?_)))))
       obtain ⟨t45, h43, hm⟩ := bindO hm
       refine jl Y Y Y Y (fun w _ => zE h43 (runUnderlying22 w) (sizeOf3 w) Y Y (vlen RI h28 Y) (vne h28)) (jy Y Y Y Y (fun w hh => k7 RI 0 h43 (isAgg3 w) Y (hh.vseg 2 Y h28) Y (Nat.add_zero _).symm) (jy Y Y Y Y (fun w hh => jP (vs := [_, _, _, _, _]) (isAgg26 w) (sizeOf26 w) Y (hh.cells 0 Y Y)) (zb Y Y Y (zb Y Y Y ?_))))
       obtain ⟨t52, h44, hm⟩ := bindO hm
       refine jl Y Y Y Y (fun w _ => zE h44 (runUnderlying22 w) (sizeOf3 w) Y Y (vlen RI h28 Y) (vne h28)) (jy Y Y Y Y (fun w hh => k7 RI 0 h44 (isAgg3 w) Y (hh.vseg 2 Y h28) Y (Nat.add_zero _).symm) (jF Y ?_))
       obtain ⟨t47, h45, hm⟩ := bindO hm
       refine jd [] [] Y Y Y Y Y Y Y call63 (fun w hh => Qy c1 t45 qa1 na1 ca1 qa2 na2 ca2 qa3 na3 ca3 w (HV.callee (S0 := []) (vs0 := []) hh (roR hh 1 Y (roR hh 2 Y (roR hh 3 Y roN)))) hna1 hqa1 hla1 hna2 hqa2 hla2 hna3 hqa3 hla3 h45) (fun l_9 h46 => ?_)
       refine jm (hsE [1] [0, 1, 2, 3] 0 Y Y Y Y) ?_
       obtain ⟨t48, h47, hm⟩ := bindO hm
       refine jl Y Y Y Y (fun _ _ => jb5 h47 Y) (jF Y ?_)
       obtain ⟨t54, h48, hm⟩ := bindO hm
       refine jd [] [] Y Y Y Y Y Y Y call63 (fun w hh => Qy c1 t52 qa1 na1 ca1 qa2 na2 ca2 qa3 na3 ca3 w (HV.callee (S0 := []) (vs0 := []) hh (roR hh 1 Y (roR hh 2 Y (roR hh 3 Y roN)))) hna1 hqa1 hla1 hna2 hqa2 hla2 hna3 hqa3 hla3 h48) (fun l_10 h49 => ?_)
       refine jm (hsE [1] [0, 1, 2, 3] 0 Y Y Y Y) (jF Y ?_)
       obtain ⟨t55, h50, hm⟩ := bindO hm
       refine jd [_] [] Y Y Y Y Y Y Y call145 (fun w hh => Qz b00 s_1.b0_1 s_1.b0_2 t48 t54 pb qa0 na0 ca0 w (HV.callee (S0 := [_]) (vs0 := []) hh (roR hh 0 Y roN)) hna0 hqa0 hla0 h50) (fun l_11 h51 => ?_)
       refine kQ (S' := [_, _]) (vs' := [_, _, _, _]) [0, 1] [0, 1, 2, 3] 0 Y Y Y Y (jm (hsE [1] [0, 1, 2, 3] 0 Y Y Y Y) ?_)
       obtain ⟨t56, h52, hm⟩ := bindO hm
       refine jl Y Y Y Y (fun _ _ => KL h52 Y Y) (jl Y Y Y Y (fun _ _ => kl Y) (jS (jb (ji ?_))))
       obtain ⟨o_3, h53, h54⟩ := bindO hm
       refine jR (ι := Unit) (fun l_12 => True) (fun l_12 => [(0, ptr pb 0), (3, ptr b 0), (5, sL l_2.v), (6, sL l_3), (7, sL l_4), (9, .int .i64 t35), (10, .int .i64 t56), (16, .int .i64 c1.tides), (17, .int .i64 s.t17), (31, sL l_5), (32, .int .i64 (t31.r0.length : Int)), (33, .int .i64 s_1.t33), (93, .bool o_3)]) (fun l_12 => [kc pb #[.slice qa0 na0 ca0, .int .i64 t55.h0_1, .int .u32 t55.h0_2] 199, kc b #[.int .i64 c1.cells, .int .i64 c1.tides, .slice qa1 na1 ca1, .slice qa2 na2 ca2, .slice qa3 na3 ca3] 26]) (fun l_12 => [⟨22, RwH.enc l_2.rs, l_2.v.sp, l_2.v.q, dbl 3 RI s.out5 l_2.rs⟩, vL 3 l_3 (RI.enc s_1.r0), vL 3 l_4 (RI.enc t27), vL 3 l_5 (RI.enc t31.r0)]) ?_ ?_
       ·replace hm := h53
        refine jh (jg Y Y (jc Y Y Y (fun _ _ => Zf Y Y) (jg Y Y ?_)))
        refine jH 59 Y (fun h55 => ?_) (fun h55 => ?_)
        ·replace hm := ifD h55 hm
         refine ja Y Y (jg Y Y (ja Y Y (yp 0 runUnderlying26 Y sizeOf3 Y Y (ja Y Y (qy 1 isAgg3 Y Y Y Y (ja Y Y (J6 Y Y Y ?_)))))))
         refine qY Y Y Y (jg Y Y ?_)
         refine jH 65 Y (fun h56 => ?_) (fun h56 => ?_)
         ·replace hm := ifD h56 hm
          refine ja Y Y (jg Y Y (ja Y Y (jc Y Y Y (fun _ _ => zS Y Y) (ja Y Y (jg Y Y ?_)))))
          refine jH 68 Y (fun h57 => ?_) (fun h57 => ?_)
          ·replace hm := ifD h57 hm
           refine g_k Y Y Y Y (g_k Y Y Y Y (g_k Y Y Y Y (g_k Y Y Y Y (g_k Y Y Y Y (g_k Y Y Y Y (g_k Y Y Y Y (ja Y Y ?_)))))))
           refine qY Y Y Y (qY Y Y Y (jg Y Y (ja Y Y (jg Y Y (ja Y Y (jg Y Y (ja Y Y ?_)))))))
           refine jc Y Y Y (fun w _ => Jh (vlen RI h35 Y) (runUnderlying22 w) Y) (ja Y Y ?_)
           obtain ⟨t82, h58, hm⟩ := bindO hm
           refine jc Y Y Y (fun _ _ => zu h58 Y Y) (ja Y Y (jc Y Y Y (fun _ _ => zS Y Y) (ja Y Y (jg Y Y ?_))))
           refine jH 84 Y (fun h59 => ?_) (fun h59 => ?_)
           ·replace hm := ifD h59 hm
            refine g_k Y Y Y Y (g_k Y Y Y Y (g_k Y Y Y Y (g_k Y Y Y Y (g_k Y Y Y Y (g_k Y Y Y Y (g_k Y Y Y Y (ja Y Y ?_)))))))
            refine qY Y Y Y (qY Y Y Y (js ?_))
            obtain rfl := sj hm
            exact jj () (trivial) (sE Y) (fun w hh => hh)
           replace hm := ifE h59 hm
           refine ja Y Y (jg Y Y (ja Y Y (jg Y Y (ja Y Y (jg Y Y (ja Y Y ?_))))))
           obtain ⟨t88, h60, hm⟩ := bindO hm
           refine Ke h60 Y Y Y (ja Y Y ?_)
           obtain ⟨t89, h61, hm⟩ := bindO hm
           refine jc Y Y Y (fun w _ => zE h61 (runUnderlying22 w) (sizeOf3 w) Y Y (vlen RI h35 Y) (vne h35)) (ja Y Y (jc Y Y Y (fun w hh => k7 RI 0 h61 (isAgg3 w) Y (hh.vseg 1 Y h35) Y (Nat.add_zero _).symm) (ja Y Y (J6 Y Y Y (ja Y Y (q6 Y Y Y (qY Y Y Y ?_)))))))
           refine js ?_
           obtain rfl := sj hm
           exact jj () (trivial) (sE Y) (fun w hh => hh)
          replace hm := ifE h57 hm
          refine ja Y Y (jg Y Y (ja Y Y (jg Y Y (ja Y Y (jg Y Y (ja Y Y ?_))))))
          obtain ⟨t72, h62, hm⟩ := bindO hm
          refine jc Y Y Y (fun _ _ => zu h62 Y Y) (ja Y Y ?_)
          obtain ⟨t73, h63, hm⟩ := bindO hm
          refine jc Y Y Y (fun w _ => zE h63 (runUnderlying22 w) (sizeOf3 w) Y Y (vlen RI h35 Y) (vne h35)) (ja Y Y (jc Y Y Y (fun w hh => k7 RI 0 h63 (isAgg3 w) Y (hh.vseg 1 Y h35) Y (Nat.add_zero _).symm) (ja Y Y (jc Y Y Y (fun _ _ => Y4 Y Y) (ja Y Y (q6 Y Y Y (qY Y Y Y ?_)))))))
          refine jg Y Y ?_
          refine jH 78 Y (fun h64 => ?_) (fun h64 => ?_)
          ·replace hm := ifD h64 hm
           refine ja Y Y (jg Y Y (ja Y Y (jg Y Y (ja Y Y (jc Y Y Y (fun w _ => Jh (vlen RI h35 Y) (runUnderlying22 w) Y) (ja Y Y ?_))))))
           obtain ⟨t82_1, h65, hm⟩ := bindO hm
           refine jc Y Y Y (fun _ _ => zu h65 Y Y) (ja Y Y (jc Y Y Y (fun _ _ => zS Y Y) (ja Y Y (jg Y Y ?_))))
           refine jH 84 Y (fun h66 => ?_) (fun h66 => ?_)
           ·replace hm := ifD h66 hm
            refine g_k Y Y Y Y (g_k Y Y Y Y (g_k Y Y Y Y (g_k Y Y Y Y (g_k Y Y Y Y (g_k Y Y Y Y (g_k Y Y Y Y (ja Y Y ?_)))))))
            refine qY Y Y Y (qY Y Y Y (js ?_))
            obtain rfl := sj hm
            exact jj () (trivial) (sE Y) (fun w hh => hh)
           replace hm := ifE h66 hm
           refine ja Y Y (jg Y Y (ja Y Y (jg Y Y (ja Y Y (jg Y Y (ja Y Y ?_))))))
           obtain ⟨t88_1, h67, hm⟩ := bindO hm
           refine Ke h67 Y Y Y (ja Y Y ?_)
           obtain ⟨t89_1, h68, hm⟩ := bindO hm
           refine jc Y Y Y (fun w _ => zE h68 (runUnderlying22 w) (sizeOf3 w) Y Y (vlen RI h35 Y) (vne h35)) (ja Y Y (jc Y Y Y (fun w hh => k7 RI 0 h68 (isAgg3 w) Y (hh.vseg 1 Y h35) Y (Nat.add_zero _).symm) (ja Y Y (J6 Y Y Y (ja Y Y (q6 Y Y Y (qY Y Y Y ?_)))))))
           refine js ?_
           obtain rfl := sj hm
           exact jj () (trivial) (sE Y) (fun w hh => hh)
          replace hm := ifE h64 hm
          refine g_k Y Y Y Y (g_k Y Y Y Y (g_k Y Y Y Y (g_k Y Y Y Y (g_k Y Y Y Y (g_k Y Y Y Y ?_)))))
          refine jB Y Y Y Y Y ?_
          refine jB Y Y Y Y Y ?_
          refine jB Y Y Y Y Y ?_
          refine jB Y Y Y Y Y ?_
          refine jB Y Y Y Y Y ?_
          refine jB Y Y Y Y Y ?_
          refine jB Y Y Y Y Y ?_
          refine g_k Y Y Y Y (q6 Y Y Y (js ?_))
          obtain rfl := sj hm
          exact jj () (trivial) (sE Y) (fun w hh => hh)
         replace hm := ifE h56 hm
         refine g_k Y Y Y Y (g_k Y Y Y Y (g_k Y Y Y Y ?_))
         refine jB Y Y Y Y Y ?_
         refine jB Y Y Y Y Y ?_
         refine jB Y Y Y Y Y ?_
         refine jB Y Y Y Y Y ?_
         refine jB Y Y Y Y Y ?_
         refine jB Y Y Y Y Y ?_
         refine jB Y Y Y Y Y ?_
         refine g_k Y Y Y Y (q6 Y Y Y (jg Y Y (g_k Y Y Y Y (g_k Y Y Y Y (g_k Y Y Y Y (g_k Y Y Y Y (g_k Y Y Y Y ?_)))))))
         refine g_k Y Y Y Y ?_
         refine jB Y Y Y Y Y ?_
         refine jB Y Y Y Y Y ?_
         refine jB Y Y Y Y Y ?_
         refine jB Y Y Y Y Y ?_
         refine jB Y Y Y Y Y ?_
         refine jB Y Y Y Y Y ?_
         refine jB Y Y Y Y Y ?_
         refine g_k Y Y Y Y (q6 Y Y Y (js ?_))
         obtain rfl := sj hm
         exact jj () (trivial) (sE Y) (fun w hh => hh)
        replace hm := ifE h55 hm
        refine g_k Y Y Y Y (g_k Y Y Y Y (g_k Y Y Y Y (g_k Y Y Y Y (q6 Y Y Y (jg Y Y (g_k Y Y Y Y (g_k Y Y Y Y ?_)))))))
        refine g_k Y Y Y Y ?_
        refine jB Y Y Y Y Y ?_
        refine jB Y Y Y Y Y ?_
        refine jB Y Y Y Y Y ?_
        refine jB Y Y Y Y Y ?_
        refine jB Y Y Y Y Y ?_
        refine jB Y Y Y Y Y ?_
        refine jB Y Y Y Y Y ?_
        refine g_k Y Y Y Y (q6 Y Y Y (jg Y Y (g_k Y Y Y Y (g_k Y Y Y Y (g_k Y Y Y Y (g_k Y Y Y Y (g_k Y Y Y Y ?_)))))))
        refine g_k Y Y Y Y ?_
        refine jB Y Y Y Y Y ?_
        refine jB Y Y Y Y Y ?_
        refine jB Y Y Y Y Y ?_
        refine jB Y Y Y Y Y ?_
        refine jB Y Y Y Y Y ?_
        refine jB Y Y Y Y Y ?_
        refine jB Y Y Y Y Y ?_
        refine g_k Y Y Y Y (q6 Y Y Y (js ?_))
        obtain rfl := sj hm
        exact jj () (trivial) (sE Y) (fun w hh => hh)
       intro l_12 hj
       replace hm := h54
       refine jb ?_
       refine ju Y (fun h69 => ?_) (fun h69 => ?_)
       ·replace hm := ifT (h69) hm
        refine jh (jg Y Y (jg Y Y (jg Y Y ?_)))
        obtain ⟨t97, h70, hm⟩ := bindO hm
        refine jc Y Y Y (fun w _ => zE h70 (runUnderlying22 w) (sizeOf3 w) Y Y (vlen RI h35 Y) (vne h35)) ?_
        obtain ⟨r0, hr0, hm⟩ := bindO hm
        refine jbK RI 1 0 t56 (fun w => sizeOf3 w) Y Y Y Y h35 Y (Nat.add_zero _).symm Y h70 Y Y (Option.some.inj hr0) (fun h71 => ?_)
        refine kQ (S' := [_, _]) (vs' := [_, _, _, _]) [0, 1] [0, 1, 2, 3] 0 Y Y Y Y (js (jw ?_))
        obtain rfl := sj hm
        exact jj () (h71) (sE Y) (fun w hh => hh)
       replace hm := ifN h69 hm
       refine jt (jw ?_)
       obtain rfl := sj hm
       exact jj () (h35) (sE Y) (fun w hh => hh)
      intro l_8 hj
      have h40 := hj
      replace hm := h39
      refine jb (jh ?_)
      obtain ⟨t98, h72, hm⟩ := bindO hm
      refine Ke h72 Y Y Y (jg Y Y (js ?_))
      obtain rfl := sj hm
      refine jb ?_
      exact jG _ () Y (h40) (sE Y) (fun w hh => hh)
     replace hm := ifE h37 hm
     refine j8 (jk (jk (jI ?_)))
     obtain rfl := sj hm
     have hbo := h36 _ Y
     subst hbo
     exact jj () (h35) (sE Y) (hsE [0, 1] [0, 1] 0 Y Y Y Y)
    intro l_6 hj
    have h34 := hj
    replace hm := h33
    refine jb (jh (jg Y Y (jg Y Y ?_)))
    refine qI RwH [(⟨l_3.q, l_3.n, l_3.cap, l_3.sp⟩ : VL)] (ps := [(0, _)]) (cells := [_]) (fun w => runUnderlying41 w) (fun w => sizeOf22 w) (fun w => zeroValue22 w) Y Y Y Y Y Y Y Y (fun L_2 h73 => ?_)
    refine jaf (E2 := 3) RI 1 (Y : _ = ([[]] : List (List Int))) (fun h74 => ?_)
    refine kQ (S' := [_, _]) (vs' := [_, _, _]) [0, 1] [0, 2, 1] 0 Y Y Y Y ?_
    refine jah RI (l' := [o_1.r0]) 0 l_3.n l_3.cap h74 h34 Y Y (fun h75 => ?_)
    have h76 : DOK RI [o_1.r0] [(⟨l_3.q, l_3.n, l_3.cap, l_3.sp⟩ : VL)] := h75
    refine ja2 (S' := [_, _]) (vs' := [⟨22, RwH.enc [(⟨l_3.q, l_3.n, l_3.cap, l_3.sp⟩ : VL)], L_2.sp, L_2.q, dbl 3 RI [o_1.r0] [(⟨l_3.q, l_3.n, l_3.cap, l_3.sp⟩ : VL)]⟩, ⟨22, RwH.enc l_2.rs, l_2.v.sp, l_2.v.q, dbl 3 RI s.out5 l_2.rs⟩]) [0, 1] [0, 1] 0 (by decide) (by decide) Y Y Y ?_
    obtain ⟨t102, h77, hm⟩ := bindO hm
    refine Ko RwH 1 (appcL h77 (h16).len (h76).len) underlying41 jbi Y Y Y Y Y h15 Y Y (vlen RwH h73 Y) (AOK.q (vne h73)) (fun w hh => (hh.vsegA 0 Y h73)) Y (fun L_3 h78 _ => ?_)
    refine kQ (S' := [_, _]) (vs' := [_, _]) [0, 1] [0, 1] 0 Y Y Y Y (kQ (S' := [_, _]) (vs' := [_, _]) [0, 1] [1, 0] 0 Y Y Y Y ?_)
    refine jaQ RI h16 h76 (appcO h77).1.symm (fun h79 => ?_)
    refine jo Y Y (js (jw (jb (jh ?_))))
    obtain ⟨t103, h80, hm⟩ := bindO hm
    refine Ke h80 Y Y Y (jg Y Y (js ?_))
    obtain rfl := sj hm
    refine jb ?_
    exact jG _ (⟨⟨L_3.q, L_3.n, L_3.cap, L_3.sp⟩, (l_2.rs ++ [(⟨l_3.q, l_3.n, l_3.cap, l_3.sp⟩ : VL)])⟩) Y (⟨h78, h79⟩) (sE Y) (hsE [1, 0] [0] 0 Y Y Y Y)
   replace hm := ifE h18 hm
   refine j8 (jk (jk (jI ?_)))
   obtain rfl := sj hm
   have hbo := h17 _ Y
   subst hbo
   exact jj l_2 (⟨h15, h16⟩) (sE Y) (fun w hh => hh)
  intro l_1 hj
  obtain ⟨h13, h14⟩ := hj
  replace hm := h12
  refine jb (jr (jg Y Y (jo Y Y (jq (jx ?_)))))
  obtain rfl := sj hm
  refine jn Y (fun w hh => (.tmp Y .nil)) (fun w hh => ⟨l_1, rfl, ⟨h13, h14⟩, hh.se [1] [0] 4 Y Y Y rfl⟩)
structure jQ where
  r0 : Channel
  b0_1 : Int
  b0_2 : Int
  r1 : (List (List Int))
structure zq where
  b0_1 : Int
  b0_2 : Int
  c10_fords : (List Int)
structure km where
  t22 : Int
  b0_1 : Int
  b0_2 : Int
  c10_fords : (List Int)
structure zr where
  b0_1 : Int
  b0_2 : Int
  c10_fords : (List Int)
structure zp where
  t46 : Bool
  b0_1 : Int
  b0_2 : Int
def q9 (t15 : yK) (fords2 : Int) (b00 : (List Int)) (s : km) : Option (km ⊕ zq) :=
 if s.t22 < t15.r0 then
 (((if (s.c10_fords.length : Int) < fords2 then
 ((Jj b00 s.b0_1 s.b0_2 3).bind fun t32 =>
 if t32.r0 = true then
 (some (⟨true, t32.h0_1, t32.h0_2⟩ : zp)) else
 ((subc t15.r0 1).bind fun t37 =>
 if s.t22 = t37 then
 (some (⟨(decide ((s.c10_fords.length : Int) = 0)), t32.h0_1, t32.h0_2⟩ : zp)) else
 (some (⟨false, t32.h0_1, t32.h0_2⟩ : zp)))) else
 (some (⟨false, s.b0_1, s.b0_2⟩ : zp))).bind fun o_2 =>
 if o_2.t46 = true then
 ((appc 8 s.c10_fords [s.t22]).bind fun t51 =>
 some (⟨o_2.b0_1, o_2.b0_2, t51⟩ : zr)) else
 (some (⟨o_2.b0_1, o_2.b0_2, s.c10_fords⟩ : zr))).bind fun o_1 =>
 (addc s.t22 1).bind fun t53 =>
 some (.inl (⟨t53, o_1.b0_1, o_1.b0_2, o_1.c10_fords⟩ : km))) else
 (some (.inr (⟨s.b0_1, s.b0_2, s.c10_fords⟩ : zq)))
structure KI where
  b0_1 : Int
  b0_2 : Int
  c10_sands : (List Sand)
structure zm where
  t56 : Int
  b0_1 : Int
  b0_2 : Int
  c10_sands : (List Sand)
structure Yf where
  b0_1 : Int
  b0_2 : Int
  c10_sands : (List Sand)
def ye (t55 : zz) (t15 : yK) (b00 : (List Int)) (s_1 : zm) : Option (zm ⊕ KI) :=
 if s_1.t56 < t55.r0 then
 ((subc t15.r0 1).bind fun t61 =>
 (j7 b00 s_1.b0_1 s_1.b0_2 t61).bind fun t62 =>
 ((subc t15.r0 1).bind fun t68 =>
 (j7 b00 t62.h0_1 t62.h0_2 4).bind fun t71 =>
 (addc t62.r0 t71.r0).bind fun t72 =>
 (zC b00 t71.h0_1 t71.h0_2 1 2).bind fun t76 =>
 (appc 24 s_1.c10_sands [(⟨(⟨t62.r0, (min t68 t72)⟩ : Span), t76.r0⟩ : Sand)]).bind fun t79 =>
 some (⟨t76.h0_1, t76.h0_2, t79⟩ : Yf)).bind fun o_4 =>
 (addc s_1.t56 1).bind fun t81 =>
 some (.inl (⟨t81, o_4.b0_1, o_4.b0_2, o_4.c10_sands⟩ : zm))) else
 (some (.inr (⟨s_1.b0_1, s_1.b0_2, s_1.c10_sands⟩ : KI)))
def yi (b00 : (List Int)) (b01 : Int) (b02 : Int) (cells1 : Int) (fords2 : Int) (tides3 : Int) : Option jQ :=
 (zC b00 b01 b02 3 cells1).bind fun t15 =>
 (j7 b00 t15.h0_1 t15.h0_2 tides3).bind fun t18 =>
 (iterM FU (q9 t15 fords2 b00) (⟨0, t18.h0_1, t18.h0_2, []⟩ : km)).bind fun o =>
 (j7 b00 o.b0_1 o.b0_2 4).bind fun t55 =>
 (iterM FU (ye t55 t15 b00) (⟨0, t55.h0_1, t55.h0_2, []⟩ : zm)).bind fun o_3 =>
 (k4 b00 o_3.b0_1 o_3.b0_2 (⟨t15.r0, t18.r0, o.c10_fords, o_3.c10_sands, []⟩ : Channel)).bind fun t85 =>
 some (⟨(⟨t15.r0, t18.r0, o.c10_fords, o_3.c10_sands, []⟩ : Channel), t85.b0_1, t85.b0_2, t85.r0⟩ : jQ)
theorem Y8 (b00 : (List Int)) (b01 : Int) (b02 : Int) (cells1 : Int) (fords2 : Int) (tides3 : Int) (pb : Nat) (qa0 : Option Addr) (na0 ca0 : Nat) (w : World) (hw : HV w (keys [kc pb #[.slice qa0 na0 ca0, .int .i64 b01, .int .u32 b02] 199] []) [kc pb #[.slice qa0 na0 ca0, .int .i64 b01, .int .u32 b02] 199] [] [(aB qa0, aO qa0, RU8.enc b00)] w) (hna0 : b00.length = na0) (hqa0 : AOK na0 qa0) (hla0 : na0 ≤ ca0) {res : jQ} (hm : yi b00 b01 b02 cells1 fords2 tides3 = some res) :
    Calls Tryz.prog 61 #[ptr pb 0, .int .i64 cells1, .int .i64 fords2, .int .i64 tides3] w (fun en w' => ∃ l : VL × VL × VL × DL, en = .returned (.tuple #[.agg #[.int .i64 res.r0.cells, .int .i64 res.r0.tides, sL l.1, sL l.2.1, sL l.2.2.1], sL l.2.2.2.v]) ∧ (VOK 1 l.1.n l.1.cap (RI.enc res.r0.fords) l.1.sp l.1.q ∧ VOK 3 l.2.1.n l.2.1.cap (RSa.enc res.r0.sands) l.2.1.sp l.2.1.q ∧ VOK 3 l.2.2.1.n l.2.2.1.cap (RSi.enc res.r0.sights) l.2.2.1.sp l.2.2.1.q ∧ VOK 1 l.2.2.2.v.n l.2.2.2.v.cap (RwH.enc l.2.2.2.rs) l.2.2.2.v.sp l.2.2.2.v.q ∧ DOK RI res.r1 l.2.2.2.rs) ∧ HV w (keys [kc pb #[.slice qa0 na0 ca0, .int .i64 b01, .int .u32 b02] 199] []) [kc pb #[.slice qa0 na0 ca0, .int .i64 res.b0_1, .int .u32 res.b0_2] 199] [vL 3 l.1 (RI.enc res.r0.fords), vL 98 l.2.1 (RSa.enc res.r0.sands), vL 55 l.2.2.1 (RSi.enc res.r0.sights), ⟨22, RwH.enc l.2.2.2.rs, l.2.2.2.v.sp, l.2.2.2.v.q, dbl 3 RI res.r1 l.2.2.2.rs⟩] [] w') := by
  unfold yi at hm
  refine yk func61 Y ntmps61 Y (e := [(0, _), (1, _), (2, _), (3, _)]) Y hw (jr ?_)
  refine jv (fun w => zeroValue26 w) Y (fun b h6 => ?_)
  refine jc Y Y Y (fun _ _ => zf Y) (kO (jg Y Y (jg Y Y ?_)))
  obtain ⟨t15, h7, hm⟩ := bindO hm
  refine kQ (S' := [_, _]) (vs' := []) [1, 0] [] 0 Y Y Y Y ?_
  refine jd [_] [] Y Y Y Y Y Y Y call145 (fun w hh => Qz b00 b01 b02 3 cells1 pb qa0 na0 ca0 w (HV.callee (S0 := [_]) (vs0 := []) hh (roR hh 0 Y roN)) hna0 hqa0 hla0 h7) (fun l h8 => ?_)
  refine kQ (S' := [_, _]) (vs' := []) [0, 1] [] 0 Y Y Y Y (jg Y Y (jg Y Y ?_))
  obtain ⟨t18, h9, hm⟩ := bindO hm
  refine jd [_] [] Y Y Y Y Y Y Y call146 (fun w hh => ko b00 t15.h0_1 t15.h0_2 tides3 pb qa0 na0 ca0 w (HV.callee (S0 := [_]) (vs0 := []) hh (roR hh 0 Y roN)) hna0 hqa0 hla0 h9) (fun l_1 h10 => ?_)
  refine kQ (S' := [_, _]) (vs' := []) [0, 1] [] 0 Y Y Y Y (jc Y Y Y (fun _ _ => kN (vs := [(0, _), (1, _)]) (cells := [_, _, _, _, _]) Y Y) ?_)
  refine jv (fun w => zeroValue26 w) Y (fun b_1 h11 => ?_)
  refine j3 (us := #[_, _, _, _, _]) (cs' := [_, _, _, _, _]) (S' := [_, _, _]) 0 (fun w => sizeOf26 w) Y Y Y Y Y Y Y (jq (ji (jr (yp 0 runUnderlying26 Y sizeOf3 Y Y (qy 0 isAgg3 Y Y Y Y (jg Y Y (jq ?_)))))))
  refine Kq 3 ?_
  obtain ⟨o, h12, h13⟩ := bindO hm
  refine jR (ι := VL) (fun l_2 => VOK 1 l_2.n l_2.cap (RI.enc o.c10_fords) l_2.sp l_2.q) (fun l_2 => [(0, ptr pb 0), (8, ptr b 0), (10, ptr b_1 0)]) (fun l_2 => [kc b_1 #[.int .i64 t15.r0, .int .i64 t18.r0, sL l_2, slv none 0 0, slv none 0 0] 26, kc pb #[.slice qa0 na0 ca0, .int .i64 o.b0_1, .int .u32 o.b0_2] 199, kc b #[.int .i64 0, .int .i64 0, slv none 0 0, slv none 0 0, slv none 0 0] 26]) (fun l_2 => [vL 3 l_2 (RI.enc o.c10_fords)]) ?_ ?_
  ·replace hm := h12
   refine jp ?_
   refine jV (ι := VL) hm (fun s l_3 => VOK 1 l_3.n l_3.cap (RI.enc s.c10_fords) l_3.sp l_3.q) (fun s l_3 => [(0, ptr pb 0), (2, .int .i64 fords2), (8, ptr b 0), (10, ptr b_1 0), (21, .int .i64 t15.r0), (22, .int .i64 s.t22)]) (fun s l_3 => [kc b_1 #[.int .i64 t15.r0, .int .i64 t18.r0, sL l_3, slv none 0 0, slv none 0 0] 26, kc pb #[.slice qa0 na0 ca0, .int .i64 s.b0_1, .int .u32 s.b0_2] 199, kc b #[.int .i64 0, .int .i64 0, slv none 0 0, slv none 0 0, slv none 0 0] 26]) (fun s l_3 => [vL 3 l_3 (RI.enc s.c10_fords)]) ⟨none, 0, 0, []⟩ (VOK.nil) (sE Y) (fun w hh => hh) (fun s l_3 r hpl hm h16 => ?_)
   have h15 := hpl
   unfold q9 at hm
   refine jr (J6 Y Y Y (jq (ji ?_)))
   refine ju Y (fun h17 => ?_) (fun h17 => ?_)
   ·replace hm := ifD h17 hm
    refine jt (jb (ji ?_))
    obtain ⟨o_1, h18, h19⟩ := bindO hm
    refine jR (ι := VL) (fun l_4 => VOK 1 l_4.n l_4.cap (RI.enc o_1.c10_fords) l_4.sp l_4.q) (fun l_4 => [(0, ptr pb 0), (2, .int .i64 fords2), (8, ptr b 0), (10, ptr b_1 0), (21, .int .i64 t15.r0), (22, .int .i64 s.t22)]) (fun l_4 => [kc b_1 #[.int .i64 t15.r0, .int .i64 t18.r0, sL l_4, slv none 0 0, slv none 0 0] 26, kc pb #[.slice qa0 na0 ca0, .int .i64 o_1.b0_1, .int .u32 o_1.b0_2] 199, kc b #[.int .i64 0, .int .i64 0, slv none 0 0, slv none 0 0, slv none 0 0] 26]) (fun l_4 => [vL 3 l_4 (RI.enc o_1.c10_fords)]) ?_ ?_
    ·replace hm := h18
     refine jp (jr (jg Y Y (jo Y Y (jq (ji ?_)))))
     obtain ⟨o_2, h21, h22⟩ := bindO hm
     refine jR (ι := Unit) (fun l_5 => True) (fun l_5 => [(0, ptr pb 0), (2, .int .i64 fords2), (8, ptr b 0), (10, ptr b_1 0), (11, .int .i64 s.t22), (21, .int .i64 t15.r0), (22, .int .i64 s.t22), (46, .bool o_2.t46)]) (fun l_5 => [kc b_1 #[.int .i64 t15.r0, .int .i64 t18.r0, sL l_3, slv none 0 0, slv none 0 0] 26, kc pb #[.slice qa0 na0 ca0, .int .i64 o_2.b0_1, .int .u32 o_2.b0_2] 199, kc b #[.int .i64 0, .int .i64 0, slv none 0 0, slv none 0 0, slv none 0 0] 26]) (fun l_5 => [vL 3 l_3 (RI.enc s.c10_fords)]) ?_ ?_
     ·replace hm := h21
      refine jh (yp 2 runUnderlying26 Y sizeOf22 Y Y (qy 0 isAgg22 Y Y Y Y (jc Y Y Y (fun w _ => Jh (vlen RI h15 Y) (runUnderlying22 w) Y) (jg Y Y (J6 Y Y Y (jg Y Y ?_))))))
      refine jH 30 Y (fun h23 => ?_) (fun h23 => ?_)
      ·replace hm := ifD h23 hm
       refine ja Y Y (jg Y Y (ja Y Y ?_))
       obtain ⟨t32, h24, hm⟩ := bindO hm
       refine kQ (S' := [_, _, _]) (vs' := [_]) [1, 0, 2] [0] 0 Y Y Y Y ?_
       refine jd [_] [] Y Y Y Y Y Y Y call68 (fun w hh => YD b00 s.b0_1 s.b0_2 3 pb qa0 na0 ca0 w (HV.callee (S0 := [_]) (vs0 := []) hh (roR hh 0 Y roN)) hna0 hqa0 hla0 h24) (fun l_6 h25 => ?_)
       refine kQ (S' := [_, _, _]) (vs' := [_]) [0, 1, 2] [0] 0 Y Y Y Y (ja Y Y (jg Y Y ?_))
       refine jH 33 Y (fun h26 => ?_) (fun h26 => ?_)
       ·replace hm := ifT (h26) hm
        refine g_k Y Y Y Y (g_k Y Y Y Y (g_k Y Y Y Y (g_k Y Y Y Y (g_k Y Y Y Y (g_k Y Y Y Y ?_)))))
        refine jB Y Y Y Y Y ?_
        refine jB Y Y Y Y Y ?_
        refine jB Y Y Y Y Y ?_
        refine jB Y Y Y Y Y ?_
        refine g_k Y Y Y Y (ja Y Y (qY Y Y Y (qY Y Y Y (js ?_))))
        obtain rfl := sj hm
        exact jj () (trivial) (sE Y) (hsE [1, 0, 2] [0] 0 Y Y Y Y)
       replace hm := ifN h26 hm
       refine ja Y Y (jg Y Y (ja Y Y (yp 0 runUnderlying26 Y sizeOf3 Y Y (ja Y Y (qy 1 isAgg3 Y Y Y Y (ja Y Y ?_))))))
       obtain ⟨t37, h27, hm⟩ := bindO hm
       refine jc Y Y Y (fun _ _ => zu h27 Y Y) (ja Y Y (jc Y Y Y (fun _ _ => zS Y Y) (ja Y Y (jg Y Y ?_))))
       refine jH 39 Y (fun h28 => ?_) (fun h28 => ?_)
       ·replace hm := ifD h28 hm
        refine ja Y Y (yp 2 runUnderlying26 Y sizeOf22 Y Y (ja Y Y (qy 1 isAgg22 Y Y Y Y (ja Y Y (jc Y Y Y (fun w _ => Jh (vlen RI h15 Y) (runUnderlying22 w) Y) (ja Y Y (jc Y Y Y (fun _ _ => zS Y Y) ?_)))))))
        refine ja Y Y (qY Y Y Y (ja Y Y (q6 Y Y Y (qY Y Y Y (js ?_)))))
        obtain rfl := sj hm
        exact jj () (trivial) (sE Y) (hsE [1, 0, 2] [0] 0 Y Y Y Y)
       replace hm := ifE h28 hm
       refine g_k Y Y Y Y (g_k Y Y Y Y (g_k Y Y Y Y (g_k Y Y Y Y (ja Y Y (q6 Y Y Y (ja Y Y (q6 Y Y Y ?_)))))))
       refine qY Y Y Y (js ?_)
       obtain rfl := sj hm
       exact jj () (trivial) (sE Y) (hsE [1, 0, 2] [0] 0 Y Y Y Y)
      replace hm := ifE h23 hm
      refine g_k Y Y Y Y (g_k Y Y Y Y (g_k Y Y Y Y ?_))
      refine jB Y Y Y Y Y ?_
      refine jB Y Y Y Y Y ?_
      refine jB Y Y Y Y Y ?_
      refine jB Y Y Y Y Y ?_
      refine jB Y Y Y Y Y ?_
      refine jB Y Y Y Y Y ?_
      refine jB Y Y Y Y Y ?_
      refine jB Y Y Y Y Y ?_
      refine jB Y Y Y Y Y ?_
      refine jB Y Y Y Y Y ?_
      refine jB Y Y Y Y Y ?_
      refine g_k Y Y Y Y (q6 Y Y Y (js ?_))
      obtain rfl := sj hm
      exact jj () (trivial) (sE Y) (fun w hh => hh)
     intro l_5 hj
     replace hm := h22
     refine jb ?_
     refine ju Y (fun h29 => ?_) (fun h29 => ?_)
     ·replace hm := ifT (h29) hm
      refine jh (yp 2 runUnderlying26 Y sizeOf22 Y Y (qy 0 isAgg22 Y Y Y Y (jg Y Y ?_)))
      refine qI RI [s.t22] (ps := [(0, _)]) (cells := [_]) (fun w => runUnderlying22 w) (fun w => sizeOf3 w) (fun w => zeroValue3 w) Y Y Y Y Y Y Y Y (fun L h30 => ?_)
      obtain ⟨t51, h31, hm⟩ := bindO hm
      refine Ko RI 1 h31 underlying22 YE Y Y Y Y Y h15 Y Y (vlen RI h30 Y) (AOK.q (vne h30)) (fun w hh => (hh.vsegA 0 Y h30)) Y (fun L_1 h32 h32n => ?_)
      refine kQ (S' := [_, _, _]) (vs' := [_, _]) [0, 1, 2] [0, 1] 0 Y Y Y Y (yp 2 runUnderlying26 Y sizeOf22 Y Y (yn (cs' := #[_, _, _, _, _]) (S' := [_, _, _]) 0 (fun w => sizeOf22 w) Y Y Y Y Y Y Y (js (jw ?_))))
      obtain rfl := sj hm
      exact jj L_1 (h32) (sE Y) (hsE [0, 1, 2] [1] 0 Y Y Y Y)
     replace hm := ifN h29 hm
     refine jt (jw ?_)
     obtain rfl := sj hm
     exact jj l_3 (h15) (sE Y) (fun w hh => hh)
    intro l_4 hj
    have h20 := hj
    replace hm := h19
    refine jb (jh ?_)
    obtain ⟨t53, h33, hm⟩ := bindO hm
    refine Ke h33 Y Y Y (jg Y Y (js ?_))
    obtain rfl := sj hm
    refine jb ?_
    exact jG _ l_4 Y (h20) (sE Y) (fun w hh => hh)
   replace hm := ifE h17 hm
   refine j8 (jk (jk (jI ?_)))
   obtain rfl := sj hm
   have hbo := h16 _ Y
   subst hbo
   exact jj l_3 (h15) (sE Y) (fun w hh => hh)
  intro l_2 hj
  have h14 := hj
  replace hm := h13
  refine jb (ji (jr (jg Y Y ?_)))
  obtain ⟨t55, h34, hm⟩ := bindO hm
  refine kQ (S' := [_, _, _]) (vs' := [_]) [1, 0, 2] [0] 0 Y Y Y Y ?_
  refine jd [_] [] Y Y Y Y Y Y Y call146 (fun w hh => ko b00 o.b0_1 o.b0_2 4 pb qa0 na0 ca0 w (HV.callee (S0 := [_]) (vs0 := []) hh (roR hh 0 Y roN)) hna0 hqa0 hla0 h34) (fun l_7 h35 => ?_)
  refine kQ (S' := [_, _, _]) (vs' := [_]) [0, 1, 2] [0] 0 Y Y Y Y (jg Y Y (jq (Kq 98 ?_)))
  obtain ⟨o_3, h36, h37⟩ := bindO hm
  refine jR (ι := VL) (fun l_8 => VOK 3 l_8.n l_8.cap (RSa.enc o_3.c10_sands) l_8.sp l_8.q) (fun l_8 => [(0, ptr pb 0), (8, ptr b 0), (10, ptr b_1 0)]) (fun l_8 => [kc pb #[.slice qa0 na0 ca0, .int .i64 o_3.b0_1, .int .u32 o_3.b0_2] 199, kc b_1 #[.int .i64 t15.r0, .int .i64 t18.r0, sL l_2, sL l_8, slv none 0 0] 26, kc b #[.int .i64 0, .int .i64 0, slv none 0 0, slv none 0 0, slv none 0 0] 26]) (fun l_8 => [vL 3 l_2 (RI.enc o.c10_fords), vL 98 l_8 (RSa.enc o_3.c10_sands)]) ?_ ?_
  ·replace hm := h36
   refine jp ?_
   refine jV (ι := VL) hm (fun s_1 l_9 => VOK 3 l_9.n l_9.cap (RSa.enc s_1.c10_sands) l_9.sp l_9.q) (fun s_1 l_9 => [(0, ptr pb 0), (8, ptr b 0), (10, ptr b_1 0), (55, .int .i64 t55.r0), (56, .int .i64 s_1.t56)]) (fun s_1 l_9 => [kc pb #[.slice qa0 na0 ca0, .int .i64 s_1.b0_1, .int .u32 s_1.b0_2] 199, kc b_1 #[.int .i64 t15.r0, .int .i64 t18.r0, sL l_2, sL l_9, slv none 0 0] 26, kc b #[.int .i64 0, .int .i64 0, slv none 0 0, slv none 0 0, slv none 0 0] 26]) (fun s_1 l_9 => [vL 3 l_2 (RI.enc o.c10_fords), vL 98 l_9 (RSa.enc s_1.c10_sands)]) ⟨none, 0, 0, []⟩ (VOK.nil) (sE Y) (hsE [0, 1, 2] [1, 0] 0 Y Y Y Y) (fun s_1 l_9 r_1 hpl hm h40 => ?_)
   have h39 := hpl
   unfold ye at hm
   refine jr (J6 Y Y Y (jq (ji ?_)))
   refine ju Y (fun h41 => ?_) (fun h41 => ?_)
   ·replace hm := ifD h41 hm
    refine jt (jb (ji (jp (jr (jg Y Y (yp 0 runUnderlying26 Y sizeOf3 Y Y (qy 1 isAgg3 Y Y Y Y ?_)))))))
    obtain ⟨t61, h42, hm⟩ := bindO hm
    refine jc Y Y Y (fun _ _ => zu h42 Y Y) ?_
    obtain ⟨t62, h43, hm⟩ := bindO hm
    refine jd [_] [] Y Y Y Y Y Y Y call146 (fun w hh => ko b00 s_1.b0_1 s_1.b0_2 t61 pb qa0 na0 ca0 w (HV.callee (S0 := [_]) (vs0 := []) hh (roR hh 0 Y roN)) hna0 hqa0 hla0 h43) (fun l_10 h44 => ?_)
    refine kQ (S' := [_, _, _]) (vs' := [_, _]) [0, 1, 2] [0, 1] 0 Y Y Y Y (jo Y Y (jq ?_))
    obtain ⟨o_4, h45, h46⟩ := bindO hm
    refine jR (ι := VL) (fun l_11 => VOK 3 l_11.n l_11.cap (RSa.enc o_4.c10_sands) l_11.sp l_11.q) (fun l_11 => [(0, ptr pb 0), (8, ptr b 0), (10, ptr b_1 0), (55, .int .i64 t55.r0), (56, .int .i64 s_1.t56)]) (fun l_11 => [kc pb #[.slice qa0 na0 ca0, .int .i64 o_4.b0_1, .int .u32 o_4.b0_2] 199, kc b_1 #[.int .i64 t15.r0, .int .i64 t18.r0, sL l_2, sL l_11, slv none 0 0] 26, kc b #[.int .i64 0, .int .i64 0, slv none 0 0, slv none 0 0, slv none 0 0] 26]) (fun l_11 => [vL 3 l_2 (RI.enc o.c10_fords), vL 98 l_11 (RSa.enc o_4.c10_sands)]) ?_ ?_
    ·replace hm := h45
     refine kE (some 18) (.free 0 (.hoist 1 (.free 2 (.free 3 (.hoist 4 (.free 5 (.free 6 (.free 7 (.free 12 (.one 8 (.free 9 (.free 10 (.free 11 (.one 13 (.free 14 (.one 15 (.one 16 (.free 17 (.last 18 .done))))))))))))))))))) (HV _ _ [kc b_1 #[.int .i64 t15.r0, .int .i64 t18.r0, sL l_2, sL l_9, slv none 0 0] 26, kc b #[.int .i64 0, .int .i64 0, slv none 0 0, slv none 0 0, slv none 0 0] 26] [vL 3 l_2 (RI.enc o.c10_fords)] _) Y (by decide +kernel) (fun w k hh => hh.draw k) (hsE [1, 2] [0] 0 Y Y Y Y) ?_
     refine Kk 3 runUnderlying26 sizeOf23 Y Y Y Y (KW 0 isAgg23 Y Y Y Y Y (zb Y Y Y (Kk 0 runUnderlying26 sizeOf3 Y Y Y Y (KW 0 isAgg3 Y Y Y Y Y ?_))))
     obtain ⟨t68, h48, hm⟩ := bindO hm
     refine jl Y Y Y Y (fun _ _ => zu h48 Y Y) (zb Y Y Y (zb Y Y Y (zb Y Y Y (jF Y ?_))))
     obtain ⟨t71, h49, hm⟩ := bindO hm
     refine jd [_] [] Y Y Y Y Y Y Y call146 (fun w hh => ko b00 t62.h0_1 t62.h0_2 4 pb qa0 na0 ca0 w (HV.callee (S0 := [_]) (vs0 := []) hh (roR hh 0 Y roN)) hna0 hqa0 hla0 h49) (fun l_12 h50 => ?_)
     refine kQ (S' := [_, _, _]) (vs' := [_, _]) [0, 1, 2] [0, 1] 0 Y Y Y Y (jm (hsE [1, 2] [0] 0 Y Y Y Y) ?_)
     obtain ⟨t72, h51, hm⟩ := bindO hm
     refine jl Y Y Y Y (fun _ _ => KL h51 Y Y) (jl Y Y Y Y (fun _ _ => jb7 Y Y) (jl Y Y Y Y (fun _ _ => kN (vs := [(0, _), (1, _)]) (cells := [_, _]) Y Y) (jF Y ?_)))
     obtain ⟨t76, h52, hm⟩ := bindO hm
     refine jd [_] [] Y Y Y Y Y Y Y call145 (fun w hh => Qz b00 t71.h0_1 t71.h0_2 1 2 pb qa0 na0 ca0 w (HV.callee (S0 := [_]) (vs0 := []) hh (roR hh 0 Y roN)) hna0 hqa0 hla0 h52) (fun l_13 h53 => ?_)
     refine kQ (S' := [_, _, _]) (vs' := [_, _]) [0, 1, 2] [0, 1] 0 Y Y Y Y (jm (hsE [1, 2] [0] 0 Y Y Y Y) (jl Y Y Y Y (fun _ _ => kN (vs := [(0, _), (1, _)]) (cells := [_, _, _]) Y Y) (jF Y ?_)))
     refine qI RSa [(⟨(⟨t62.r0, (min t68 t72)⟩ : Span), t76.r0⟩ : Sand)] (ps := [(0, _)]) (cells := [_, _, _]) (fun w => runUnderlying23 w) (fun w => sizeOf98 w) (fun w => zeroValue98 w) Y Y Y Y Y Y Y Y (fun L_2 h54 => ?_)
     refine jm (hsE [1, 2] [1] 0 Y Y Y Y) (jF Y ?_)
     obtain ⟨t79, h55, hm⟩ := bindO hm
     refine Ko RSa 2 h55 underlying23 jbh Y Y Y Y Y h39 Y Y (vlen RSa h54 Y) (AOK.q (vne h54)) (fun w hh => (hh.vsegA 0 Y h54)) Y (fun L_3 h56 h56n => ?_)
     refine kQ (S' := [_, _, _]) (vs' := [_, _, _]) [0, 1, 2] [0, 1, 2] 0 Y Y Y Y (jm (hsE [1, 2] [1] 0 Y Y Y Y) (Kk 3 runUnderlying26 sizeOf23 Y Y Y Y (ZG Y (yn (cs' := #[_, _, _, _, _]) (S' := [_, _, _]) 1 (fun w => sizeOf23 w) Y Y Y Y Y Y Y (YR (jS ?_))))))
     obtain rfl := sj hm
     exact jj L_3 (h56) (sE Y) (hsE [0, 1, 2] [1, 2] 0 Y Y Y Y)
    intro l_11 hj
    have h47 := hj
    replace hm := h46
    refine jw (jb (jh ?_))
    obtain ⟨t81, h57, hm⟩ := bindO hm
    refine Ke h57 Y Y Y (jg Y Y (js ?_))
    obtain rfl := sj hm
    refine jb ?_
    exact jG _ l_11 Y (h47) (sE Y) (fun w hh => hh)
   replace hm := ifE h41 hm
   refine j8 (jk (jk (jI ?_)))
   obtain rfl := sj hm
   have hbo := h40 _ Y
   subst hbo
   exact jj l_9 (h39) (sE Y) (fun w hh => hh)
  intro l_8 hj
  have h38 := hj
  replace hm := h37
  refine jb (ji ?_)
  refine kE none (.hoist 0 (.free 1 (.hoist 2 (.one 3 (.one 4 (.free 5 .done)))))) (HV _ _ [kc b_1 #[.int .i64 t15.r0, .int .i64 t18.r0, sL l_2, sL l_8, slv none 0 0] 26] [vL 3 l_2 (RI.enc o.c10_fords), vL 98 l_8 (RSa.enc o_3.c10_sands)] _) Y (by decide +kernel) (fun w k hh => hh.draw k) (hsE [1] [0, 1] 0 Y Y Y Y) ?_
  refine jy Y Y Y Y (fun w hh => jP (vs := [_, _, _, _, _]) (isAgg26 w) (sizeOf26 w) Y (hh.cells 0 Y Y)) (zb Y Y Y (jy Y Y Y Y (fun w hh => jP (vs := [_, _, _, _, _]) (isAgg26 w) (sizeOf26 w) Y (hh.cells 0 Y Y)) (jF Y ?_)))
  obtain ⟨t85, h58, hm⟩ := bindO hm
  refine jd [_] [] Y Y Y Y Y Y Y call78 (fun w hh => KX b00 o_3.b0_1 o_3.b0_2 (⟨t15.r0, t18.r0, o.c10_fords, o_3.c10_sands, []⟩ : Channel) pb qa0 na0 ca0 (qA l_2.q) l_2.n l_2.cap (qA l_8.q) l_8.n l_8.cap none 0 0 w (HV.callee (S0 := [_]) (vs0 := []) hh (roR hh 0 Y (roC (hh.vsepA 0 Y h14) (roC (hh.vsepA 1 Y h38) (roC ⟨segOK.nil, fun hx => absurd Y hx⟩ roN))))) hna0 hqa0 hla0 (vlen RI h14 Y) (AOK.q (vne h14)) (h14).hle (vlen RSa h38 Y) (AOK.q (vne h38)) (h38).hle Y AOK.nil (Nat.le_refl 0) h58) (fun l_14 h59 => ?_)
  obtain ⟨h60, h61⟩ := h59
  refine kQ (S' := [_, _, _]) (vs' := [_, _, _]) [0, 1, 2] [0, 1, 2] 0 Y Y Y Y (jm (hsE [1] [1, 2] 0 Y Y Y Y) (jF Y (j3 (us := #[_, _, _, _, _]) (cs' := [_, _, _, _, _]) (S' := [_, _, _]) 2 (fun w => sizeOf26 w) Y Y Y Y Y Y Y (jm (hsE [1] [1, 2] 0 Y Y Y Y) (jl Y Y Y Y (fun _ _ => kl Y) (jS (jb ?_)))))))
  refine jx (Kq 55 ?_)
  obtain rfl := sj hm
  refine jn Y (fun w hh => (.cell Y (loadVar_agg (vs := [_, _, _, _, _]) (isAgg26 _) (sizeOf26 _) (hh.cells 2 Y Y)) (.tmp Y .nil))) (fun w hh => ⟨(l_2, l_8, ⟨none, 0, 0, []⟩, l_14), rfl, ⟨h14, h38, VOK.nil, h60, h61⟩, hh.se [0] [2, 3, 0, 1] 1 Y Y Y rfl⟩)
structure jE where
  b0_1 : Int
  b0_2 : Int
  r0 : (List Sight)
structure Jq where
  b0_1 : Int
  b0_2 : Int
  out9 : (List Sight)
structure qo where
  t14 : Int
  b0_1 : Int
  b0_2 : Int
  out9 : (List Sight)
structure Yh where
  s10 : Sight
  b0_1 : Int
  b0_2 : Int
structure KU where
  b0_1 : Int
  b0_2 : Int
  s10_cell : Int
def yf (t13 : zz) (c1 : Channel) (b00 : (List Int)) (course2 : (List (List Int))) (s : qo) : Option (qo ⊕ Jq) :=
 if s.t14 < t13.r0 then
 (((subc c1.cells 1).bind fun t23 =>
 (j7 b00 s.b0_1 s.b0_2 c1.tides).bind fun t19 =>
 (j7 b00 t19.h0_1 t19.h0_2 t23).bind fun t24 =>
 some (⟨(⟨t19.r0, t24.r0, false⟩ : Sight), t24.h0_1, t24.h0_2⟩ : Yh)).bind fun o_1 =>
 ((Jj b00 o_1.b0_1 o_1.b0_2 2).bind fun t27 =>
 if t27.r0 = true then
 ((ix course2 o_1.s10.after).bind fun t31 =>
 (subc (c1.fords.length : Int) 1).bind fun t37 =>
 (j7 b00 t27.h0_1 t27.h0_2 t37).bind fun t38 =>
 (ix t31 t38.r0).bind fun t39 =>
 some (⟨t38.h0_1, t38.h0_2, t39⟩ : KU)) else
 (some (⟨t27.h0_1, t27.h0_2, o_1.s10.cell⟩ : KU))).bind fun o_2 =>
 (ix course2 o_1.s10.after).bind fun t45 =>
 (jC t45 o_2.s10_cell).bind fun t49 =>
 (appc 24 s.out9 [(⟨o_1.s10.after, o_2.s10_cell, t49⟩ : Sight)]).bind fun t54 =>
 (addc s.t14 1).bind fun t55 =>
 some (.inl (⟨t55, o_2.b0_1, o_2.b0_2, t54⟩ : qo))) else
 (some (.inr (⟨s.b0_1, s.b0_2, s.out9⟩ : Jq)))
def yj (b00 : (List Int)) (b01 : Int) (b02 : Int) (c1 : Channel) (course2 : (List (List Int))) (most3 : Int) : Option jE :=
 (j7 b00 b01 b02 most3).bind fun t13 =>
 (iterM FU (yf t13 c1 b00 course2) (⟨0, t13.h0_1, t13.h0_2, []⟩ : qo)).bind fun o =>
 some (⟨o.b0_1, o.b0_2, o.out9⟩ : jE)
theorem Y6 (b00 : (List Int)) (b01 : Int) (b02 : Int) (c1 : Channel) (course2 : (List (List Int))) (most3 : Int) (pb : Nat) (qa0 : Option Addr) (na0 ca0 : Nat) (qa1 : Option Addr) (na1 ca1 : Nat) (qa2 : Option Addr) (na2 ca2 : Nat) (qa3 : Option Addr) (na3 ca3 : Nat) (qa4 : Option Addr) (na4 ca4 : Nat) (ar4 : List AL) (w : World) (hw : HV w (keys [kc pb #[.slice qa0 na0 ca0, .int .i64 b01, .int .u32 b02] 199] []) [kc pb #[.slice qa0 na0 ca0, .int .i64 b01, .int .u32 b02] 199] [] [(aB qa0, aO qa0, RU8.enc b00), (aB qa1, aO qa1, RI.enc c1.fords), (aB qa2, aO qa2, RSa.enc c1.sands), (aB qa3, aO qa3, RSi.enc c1.sights), (aB qa4, aO qa4, RwA.enc ar4)] w) (hna0 : b00.length = na0) (hqa0 : AOK na0 qa0) (hla0 : na0 ≤ ca0) (hna1 : c1.fords.length = na1) (hqa1 : AOK na1 qa1) (hla1 : na1 ≤ ca1) (hna2 : c1.sands.length = na2) (hqa2 : AOK na2 qa2) (hla2 : na2 ≤ ca2) (hna3 : c1.sights.length = na3) (hqa3 : AOK na3 qa3) (hla3 : na3 ≤ ca3) (hna4 : course2.length = na4) (hqa4 : AOK na4 qa4) (hla4 : na4 ≤ ca4) (hda4 : DRO course2 ar4) (hTa4 : ∀ t, t ∈ rsg RI course2 ar4 → segOK w t ∧ (t.2.2 ≠ [] → t.1 ∉ keys [kc pb #[.slice qa0 na0 ca0, .int .i64 b01, .int .u32 b02] 199] [])) {res : jE} (hm : yj b00 b01 b02 c1 course2 most3 = some res) :
    Calls Tryz.prog 67 #[ptr pb 0, .agg #[.int .i64 c1.cells, .int .i64 c1.tides, .slice qa1 na1 ca1, .slice qa2 na2 ca2, .slice qa3 na3 ca3], .slice qa4 na4 ca4, .int .i64 most3] w (fun en w' => ∃ l : VL, en = .returned (sL l) ∧ (VOK 3 l.n l.cap (RSi.enc res.r0) l.sp l.q) ∧ HV w (keys [kc pb #[.slice qa0 na0 ca0, .int .i64 b01, .int .u32 b02] 199] []) [kc pb #[.slice qa0 na0 ca0, .int .i64 res.b0_1, .int .u32 res.b0_2] 199] [vL 55 l (RSi.enc res.r0)] [] w') := by
  unfold yj at hm
  refine yk func67 Y ntmps67 Y (e := [(0, _), (1, _), (2, _), (3, _)]) Y hw (jr ?_)
  refine jK Y Y (fun b h2 => ?_)
  refine jc Y Y Y (fun _ _ => zf Y) (kO (jc Y Y Y (fun _ _ => zf Y) (jq (ji (jr (jg Y Y (jg Y Y ?_)))))))
  obtain ⟨t13, h3, hm⟩ := bindO hm
  refine kQ (S' := [_, _]) (vs' := []) [1, 0] [] 0 Y Y Y Y ?_
  refine jd [_] [] Y Y Y Y Y Y Y call146 (fun w hh => ko b00 b01 b02 most3 pb qa0 na0 ca0 w (HV.callee (S0 := [_]) (vs0 := []) hh (roR hh 0 Y roN)) hna0 hqa0 hla0 h3) (fun l h4 => ?_)
  refine kQ (S' := [_, _]) (vs' := []) [0, 1] [] 0 Y Y Y Y (jg Y Y (jq (Kq 55 ?_)))
  obtain ⟨o, h5, h6⟩ := bindO hm
  refine jR (ι := VL) (fun l_1 => VOK 3 l_1.n l_1.cap (RSi.enc o.out9) l_1.sp l_1.q) (fun l_1 => [(9, sL l_1)]) (fun l_1 => [kc pb #[.slice qa0 na0 ca0, .int .i64 o.b0_1, .int .u32 o.b0_2] 199, kc b #[.int .i64 c1.cells, .int .i64 c1.tides, .slice qa1 na1 ca1, .slice qa2 na2 ca2, .slice qa3 na3 ca3] 26]) (fun l_1 => [vL 55 l_1 (RSi.enc o.out9)]) ?_ ?_
  ·replace hm := h5
   refine jp ?_
   refine jV (ι := VL) hm (fun s l_2 => VOK 3 l_2.n l_2.cap (RSi.enc s.out9) l_2.sp l_2.q) (fun s l_2 => [(0, ptr pb 0), (2, .slice qa4 na4 ca4), (5, ptr b 0), (9, sL l_2), (13, .int .i64 t13.r0), (14, .int .i64 s.t14)]) (fun s l_2 => [kc pb #[.slice qa0 na0 ca0, .int .i64 s.b0_1, .int .u32 s.b0_2] 199, kc b #[.int .i64 c1.cells, .int .i64 c1.tides, .slice qa1 na1 ca1, .slice qa2 na2 ca2, .slice qa3 na3 ca3] 26]) (fun s l_2 => [vL 55 l_2 (RSi.enc s.out9)]) ⟨none, 0, 0, []⟩ (VOK.nil) (sE Y) (fun w hh => hh) (fun s l_2 r hpl hm h9 => ?_)
   have h8 := hpl
   unfold yf at hm
   refine jr (J6 Y Y Y (jq (ji ?_)))
   refine ju Y (fun h10 => ?_) (fun h10 => ?_)
   ·replace hm := ifD h10 hm
    refine jt (jb (ji (jp (ji ?_))))
    obtain ⟨o_1, h11, h12⟩ := bindO hm
    refine jR (ι := Nat) (fun l_3 => True) (fun l_3 => [(0, ptr pb 0), (2, .slice qa4 na4 ca4), (5, ptr b 0), (9, sL l_2), (10, ptr l_3 0), (13, .int .i64 t13.r0), (14, .int .i64 s.t14)]) (fun l_3 => [kc pb #[.slice qa0 na0 ca0, .int .i64 o_1.b0_1, .int .u32 o_1.b0_2] 199, kc b #[.int .i64 c1.cells, .int .i64 c1.tides, .slice qa1 na1 ca1, .slice qa2 na2 ca2, .slice qa3 na3 ca3] 26, kc l_3 #[.int .i64 o_1.s10.after, .int .i64 o_1.s10.cell, .bool o_1.s10.upright] 55]) (fun l_3 => [vL 55 l_2 (RSi.enc s.out9)]) ?_ ?_
    ·replace hm := h11
     obtain ⟨t23, h13, hm⟩ := bindO hm
     obtain ⟨t19, h14, hm⟩ := bindO hm
     obtain ⟨t24, h15, hm⟩ := bindO hm
     refine kE none (.free 0 (.free 1 (.hoist 2 (.free 4 (.free 5 (.hoist 6 (.free 7 (.br (.alt 3 (.br (.alt 8 (.free 9 (.one 10 (.one 11 .done))) (.alt 10 (.one 8 (.free 9 (.one 11 .done))) .nil))) (.alt 10 (.one 3 (.one 8 (.free 9 (.one 11 .done)))) .nil)))))))))) (HV _ _ [kc b #[.int .i64 c1.cells, .int .i64 c1.tides, .slice qa1 na1 ca1, .slice qa2 na2 ca2, .slice qa3 na3 ca3] 26] [vL 55 l_2 (RSi.enc s.out9)] _) Y (by decide +kernel) (fun w k hh => hh.draw k) (hsE [1] [0] 0 Y Y Y Y) ?_
     refine zb Y Y Y (Kk 1 runUnderlying26 sizeOf3 Y Y Y Y (KW 0 isAgg3 Y Y Y Y Y (zb Y Y Y (Kk 0 runUnderlying26 sizeOf3 Y Y Y Y (KW 0 isAgg3 Y Y Y Y Y (jl Y Y Y Y (fun _ _ => zu h13 Y Y) (Zx ?_)))))))
     refine q5 Y ?_ ?_
     ·refine jd [_] [] Y Y Y Y Y Y Y call146 (fun w hh => ko b00 s.b0_1 s.b0_2 c1.tides pb qa0 na0 ca0 w (HV.callee (S0 := [_]) (vs0 := []) hh (roR hh 0 Y roN)) hna0 hqa0 hla0 h14) (fun l_4 h16 => ?_)
      refine kQ (S' := [_, _]) (vs' := [_]) [0, 1] [0] 0 Y Y Y Y (jm (hsE [1] [0] 0 Y Y Y Y) (Zx ?_))
      refine q5 Y ?_ ?_
      ·refine jd [_] [] Y Y Y Y Y Y Y call146 (fun w hh => ko b00 t19.h0_1 t19.h0_2 t23 pb qa0 na0 ca0 w (HV.callee (S0 := [_]) (vs0 := []) hh (roR hh 0 Y roN)) hna0 hqa0 hla0 h15) (fun l_5 h17 => ?_)
       refine kQ (S' := [_, _]) (vs' := [_]) [0, 1] [0] 0 Y Y Y Y (jm (hsE [1] [0] 0 Y Y Y Y) (jl Y Y Y Y (fun _ _ => kN (vs := [(0, _), (1, _)]) (cells := [_, _, _]) Y Y) (jF Y ?_)))
       refine jv (fun w => zeroValue55 w) Y (fun b_1 h18 => ?_)
       refine jm (hsE [2] [0] 0 Y Y Y Y) (jF Y (j3 (us := #[_, _, _]) (cs' := [_, _, _]) (S' := [_, _, _]) 0 (fun w => sizeOf55 w) Y Y Y Y Y Y Y (jm (hsE [2] [0] 0 Y Y Y Y) (jS ?_))))
       obtain rfl := sj hm
       exact jj b_1 (trivial) (sE Y) (hsE [1, 2, 0] [0] 0 Y Y Y Y)
      refine q5 Y ?_ ?_
      refine jv (fun w => zeroValue55 w) Y (fun b_2 h19 => ?_)
      refine jm (hsE [2] [0] 0 Y Y Y Y) (jF Y (kQ (S' := [_, _, _]) (vs' := [_]) [1, 0, 2] [0] 0 Y Y Y Y ?_))
      refine jd [_] [] Y Y Y Y Y Y Y call146 (fun w hh => ko b00 t19.h0_1 t19.h0_2 t23 pb qa0 na0 ca0 w (HV.callee (S0 := [_]) (vs0 := []) hh (roR hh 0 Y roN)) hna0 hqa0 hla0 h15) (fun l_6 h20 => ?_)
      refine kQ (S' := [_, _, _]) (vs' := [_]) [0, 1, 2] [0] 0 Y Y Y Y (jm (hsE [2] [0] 0 Y Y Y Y) (jl Y Y Y Y (fun _ _ => kN (vs := [(0, _), (1, _)]) (cells := [_, _, _]) Y Y) (jF Y (j3 (us := #[_, _, _]) (cs' := [_, _, _]) (S' := [_, _, _]) 1 (fun w => sizeOf55 w) Y Y Y Y Y Y Y (jm (hsE [2] [0] 0 Y Y Y Y) (jS ?_))))))
      obtain rfl := sj hm
      exact jj b_2 (trivial) (sE Y) (hsE [0, 2, 1] [0] 0 Y Y Y Y)
      exact KV
     refine q5 Y ?_ ?_
     refine jv (fun w => zeroValue55 w) Y (fun b_3 h21 => ?_)
     refine jm (hsE [2] [0] 0 Y Y Y Y) (jF Y (kQ (S' := [_, _, _]) (vs' := [_]) [1, 0, 2] [0] 0 Y Y Y Y ?_))
     refine jd [_] [] Y Y Y Y Y Y Y call146 (fun w hh => ko b00 s.b0_1 s.b0_2 c1.tides pb qa0 na0 ca0 w (HV.callee (S0 := [_]) (vs0 := []) hh (roR hh 0 Y roN)) hna0 hqa0 hla0 h14) (fun l_7 h22 => ?_)
     refine kQ (S' := [_, _, _]) (vs' := [_]) [0, 1, 2] [0] 0 Y Y Y Y (jm (hsE [2] [0] 0 Y Y Y Y) (jF Y ?_))
     refine jd [_] [] Y Y Y Y Y Y Y call146 (fun w hh => ko b00 t19.h0_1 t19.h0_2 t23 pb qa0 na0 ca0 w (HV.callee (S0 := [_]) (vs0 := []) hh (roR hh 0 Y roN)) hna0 hqa0 hla0 h15) (fun l_8 h23 => ?_)
     refine kQ (S' := [_, _, _]) (vs' := [_]) [0, 1, 2] [0] 0 Y Y Y Y (jm (hsE [2] [0] 0 Y Y Y Y) (jl Y Y Y Y (fun _ _ => kN (vs := [(0, _), (1, _)]) (cells := [_, _, _]) Y Y) (jF Y (j3 (us := #[_, _, _]) (cs' := [_, _, _]) (S' := [_, _, _]) 1 (fun w => sizeOf55 w) Y Y Y Y Y Y Y (jm (hsE [2] [0] 0 Y Y Y Y) (jS ?_))))))
     obtain rfl := sj hm
     exact jj b_3 (trivial) (sE Y) (hsE [0, 2, 1] [0] 0 Y Y Y Y)
     exact KV
    intro l_3 hj
    replace hm := h12
    refine jb (ji ?_)
    obtain ⟨o_2, h24, h25⟩ := bindO hm
    refine jR (ι := Unit) (fun l_9 => True) (fun l_9 => [(0, ptr pb 0), (2, .slice qa4 na4 ca4), (5, ptr b 0), (9, sL l_2), (10, ptr l_3 0), (13, .int .i64 t13.r0), (14, .int .i64 s.t14)]) (fun l_9 => [kc pb #[.slice qa0 na0 ca0, .int .i64 o_2.b0_1, .int .u32 o_2.b0_2] 199, kc b #[.int .i64 c1.cells, .int .i64 c1.tides, .slice qa1 na1 ca1, .slice qa2 na2 ca2, .slice qa3 na3 ca3] 26, kc l_3 #[.int .i64 o_1.s10.after, .int .i64 o_2.s10_cell, .bool o_1.s10.upright] 55]) (fun l_9 => [vL 55 l_2 (RSi.enc s.out9)]) ?_ ?_
    ·replace hm := h24
     refine jr (jg Y Y ?_)
     obtain ⟨t27, h26, hm⟩ := bindO hm
     refine jd [_] [] Y Y Y Y Y Y Y call68 (fun w hh => YD b00 o_1.b0_1 o_1.b0_2 2 pb qa0 na0 ca0 w (HV.callee (S0 := [_]) (vs0 := []) hh (roR hh 0 Y roN)) hna0 hqa0 hla0 h26) (fun l_10 h27 => ?_)
     refine kQ (S' := [_, _, _]) (vs' := [_]) [0, 1, 2] [0] 0 Y Y Y Y (jq ?_)
     refine ju Y (fun h28 => ?_) (fun h28 => ?_)
     ·replace hm := ifT (h28) hm
      refine kE (some 14) (.free 0 (.free 1 (.hoist 2 (.free 3 (.hoist 4 (.free 5 (.free 6 (.hoist 7 (.free 8 (.free 9 (.one 10 (.free 11 (.hoist 12 (.free 13 (.last 14 .done))))))))))))))) (HV _ _ [kc b #[.int .i64 c1.cells, .int .i64 c1.tides, .slice qa1 na1 ca1, .slice qa2 na2 ca2, .slice qa3 na3 ca3] 26, kc l_3 #[.int .i64 o_1.s10.after, .int .i64 o_1.s10.cell, .bool o_1.s10.upright] 55] [vL 55 l_2 (RSi.enc s.out9)] _) Y (by decide +kernel) (fun w k hh => hh.draw k) (hsE [1, 2] [0] 0 Y Y Y Y) ?_
      refine zb Y Y Y (Kk 0 runUnderlying55 sizeOf3 Y Y Y Y (KW 1 isAgg3 Y Y Y Y Y ?_))
      obtain ⟨t31, h29, hm⟩ := bindO hm
      obtain ⟨A, h30, h31, h32, h33⟩ := (hda4).row h29
      refine jl Y Y Y Y (fun w _ => yX h30 (runUnderlying41 w) (sizeOf22 w) Y Y (Eq.trans (hda4).len.symm hna4) hqa4) (jy Y Y Y Y (fun w hh => k7 RwA 0 h30 (isAgg22 w) Y (hh.seg 4 Y) Y (Nat.add_zero _).symm) (zb Y Y Y (Kk 2 runUnderlying26 sizeOf22 Y Y Y Y (KW 0 isAgg22 Y Y Y Y Y (jl Y Y Y Y (fun w _ => kw hna1 (runUnderlying22 w) Y) ?_)))))
      obtain ⟨t37, h34, hm⟩ := bindO hm
      refine jl Y Y Y Y (fun _ _ => zu h34 Y Y) (jF Y ?_)
      obtain ⟨t38, h35, hm⟩ := bindO hm
      refine jd [_] [] Y Y Y Y Y Y Y call146 (fun w hh => ko b00 t27.h0_1 t27.h0_2 t37 pb qa0 na0 ca0 w (HV.callee (S0 := [_]) (vs0 := []) hh (roR hh 0 Y roN)) hna0 hqa0 hla0 h35) (fun l_11 h36 => ?_)
      refine kQ (S' := [_, _, _]) (vs' := [_]) [0, 1, 2] [0] 0 Y Y Y Y (jm (hsE [1, 2] [0] 0 Y Y Y Y) ?_)
      obtain ⟨t39, h37, hm⟩ := bindO hm
      refine jl Y Y Y Y (fun w _ => yX h37 (runUnderlying22 w) (sizeOf3 w) Y Y h31 h32) (jy Y Y Y Y (fun w hh => k7 RI 0 h37 (isAgg3 w) Y (hh.oldseg (hTa4 _ (rsg_ix h29 h30))) Y (Nat.add_zero _).symm) (Kk 1 runUnderlying55 sizeOf3 Y Y Y Y (ZG Y (yn (cs' := #[_, _, _]) (S' := [_, _, _]) 2 (fun w => sizeOf3 w) Y Y Y Y Y Y Y (YR (jS ?_))))))
      obtain rfl := sj hm
      exact jj () (trivial) (sE Y) (fun w hh => hh)
     replace hm := ifN h28 hm
     refine jt ?_
     obtain rfl := sj hm
     exact jj () (trivial) (sE Y) (fun w hh => hh)
    intro l_9 hj
    replace hm := h25
    refine jb (ji ?_)
    refine kE (some 9) (.free 0 (.free 1 (.hoist 2 (.free 3 (.hoist 4 (.free 5 (.hoist 6 (.one 7 (.free 8 (.last 9 .done)))))))))) _ Y (by decide +kernel) (fun w k hh => hh.draw k) (fun w hh => hh) ?_
    refine zb Y Y Y (Kk 0 runUnderlying55 sizeOf3 Y Y Y Y (KW 2 isAgg3 Y Y Y Y Y ?_))
    obtain ⟨t45, h38, hm⟩ := bindO hm
    obtain ⟨A_1, h39, h40, h41, h42⟩ := (hda4).row h38
    refine jl Y Y Y Y (fun w _ => yX h39 (runUnderlying41 w) (sizeOf22 w) Y Y (Eq.trans (hda4).len.symm hna4) hqa4) (jy Y Y Y Y (fun w hh => k7 RwA 0 h39 (isAgg22 w) Y (hh.seg 4 Y) Y (Nat.add_zero _).symm) (Kk 1 runUnderlying55 sizeOf3 Y Y Y Y (KW 2 isAgg3 Y Y Y Y Y (jF Y ?_))))
    obtain ⟨t49, h43, hm⟩ := bindO hm
    refine jd [] [] Y Y Y Y Y Y Y call64 (fun w hh => jY t45 o_2.s10_cell A_1.a A_1.n A_1.cap w (HV.callee (S0 := []) (vs0 := []) hh (roC (hh.oldsep (S0 := []) (vs0 := []) (hTa4 _ (rsg_ix h38 h39))) roN)) h40 h41 h42 h43) (fun l_12 h44 => ?_)
    refine jm (fun w hh => hh) (Kk 2 runUnderlying55 sizeOf4 Y Y Y Y (ZG Y (yn (cs' := #[_, _, _]) (S' := [_, _, _]) 2 (fun w => sizeOf4 w) Y Y Y Y Y Y Y (YR (jS (jb (jh ?_)))))))
    refine jg Y Y (z8 [_, _, _] 2 isAgg55 sizeOf55 Y Y Y Y ?_)
    refine qI RSi [(⟨o_1.s10.after, o_2.s10_cell, t49⟩ : Sight)] (ps := [(0, _)]) (cells := [_, _, _]) (fun w => runUnderlying24 w) (fun w => sizeOf55 w) (fun w => zeroValue55 w) Y Y Y Y Y Y Y Y (fun L h45 => ?_)
    obtain ⟨t54, h46, hm⟩ := bindO hm
    refine Ko RSi 1 h46 underlying24 jaH Y Y Y Y Y h8 Y Y (vlen RSi h45 Y) (AOK.q (vne h45)) (fun w hh => (hh.vsegA 0 Y h45)) Y (fun L_1 h47 h47n => ?_)
    refine kQ (S' := [_, _, _]) (vs' := [_, _]) [0, 1, 2] [0, 1] 0 Y Y Y Y (jo Y Y (js (jw (jb (jh ?_)))))
    obtain ⟨t55, h48, hm⟩ := bindO hm
    refine Ke h48 Y Y Y (jg Y Y (js ?_))
    obtain rfl := sj hm
    refine jb ?_
    exact jG _ L_1 Y (h47) (sE Y) (hsE [0, 1] [1] 0 Y Y Y Y)
   replace hm := ifE h10 hm
   refine j8 (jk (jk (jI ?_)))
   obtain rfl := sj hm
   have hbo := h9 _ Y
   subst hbo
   exact jj l_2 (h8) (sE Y) (fun w hh => hh)
  intro l_1 hj
  have h7 := hj
  replace hm := h6
  refine jb (jr (jg Y Y (jo Y Y (jq (jx ?_)))))
  obtain rfl := sj hm
  refine jn Y (fun w hh => (.tmp Y .nil)) (fun w hh => ⟨l_1, rfl, h7, hh.se [0] [0] 5 Y Y Y rfl⟩)
end Go.Proofs.Wb

