/- What the functions that the law BranchCalmed reaches come to, and why it holds: part 8. -/
import Derived.Test.YtpjnpibgnkgnaaaGreatBranchCalmed7
namespace Go.Proofs.Wb
set_option maxHeartbeats 4000000
set_option maxRecDepth 100000
open Go Go.Fw Go.Gx Go.Sb
open Tryz
set_option linter.unusedVariables false

def Kv (l0 : (List Int)) (a11_cells : Int) (a11_tides : Int) (a11_fords : (List Int)) (a11_sands : (List Sand)) (a11_sights : (List Sight)) : Option Bool :=
 (if (l0.length : Int) = (a11_fords.length : Int) then
 ((zG l0).bind fun t12 =>
 if t12 = true then
 ((yC l0 (⟨a11_cells, a11_tides, a11_fords, a11_sands, a11_sights⟩ : Channel)).bind fun t18 =>
 some t18) else
 (some false)) else
 (some false)).bind fun o =>
 some o
theorem Zv (l0 : (List Int)) (a11_cells : Int) (a11_tides : Int) (a11_fords : (List Int)) (a11_sands : (List Sand)) (a11_sights : (List Sight)) (qa0 : Option Addr) (na0 ca0 : Nat) (rb : Nat) (qa2 : Option Addr) (na2 ca2 : Nat) (qa3 : Option Addr) (na3 ca3 : Nat) (qa4 : Option Addr) (na4 ca4 : Nat) (w : World) (hw : HV w (keys [] []) [] [] [(aB qa0, aO qa0, RI.enc l0), (rb, 0, [.int .i64 a11_cells, .int .i64 a11_tides, .slice qa2 na2 ca2, .slice qa3 na3 ca3, .slice qa4 na4 ca4]), (aB qa2, aO qa2, RI.enc a11_fords), (aB qa3, aO qa3, RSa.enc a11_sands), (aB qa4, aO qa4, RSi.enc a11_sights)] w) (hna0 : l0.length = na0) (hqa0 : AOK na0 qa0) (hla0 : na0 ≤ ca0)  (hna2 : a11_fords.length = na2) (hqa2 : AOK na2 qa2) (hla2 : na2 ≤ ca2) (hna3 : a11_sands.length = na3) (hqa3 : AOK na3 qa3) (hla3 : na3 ≤ ca3) (hna4 : a11_sights.length = na4) (hqa4 : AOK na4 qa4) (hla4 : na4 ≤ ca4) {res : Bool} (hm : Kv l0 a11_cells a11_tides a11_fords a11_sands a11_sights = some res) :
    Calls Tryz.prog 141 #[.slice qa0 na0 ca0, ptr rb 0] w (fun en w' => ∃ l : Unit, en = .returned (.bool res) ∧ (True) ∧ HV w (keys [] []) [] [] [] w') := by
  unfold Kv at hm
  refine yt func141 Y ntmps141 Y (e := [(0, _), (1, _)]) Y hw (jw (jr Y Y (ju (jl ?_))))
  obtain ⟨o, h1, h2⟩ := bindO hm
  refine jW (ι := Unit) (fun l => True) (fun l => [(3, .bool o)]) (fun l => []) (fun l => []) ?_ ?_
  ·replace hm := h1
   refine jg (jk Y Y (jc Y Y Y (fun w _ => kC hna0 (runUnderlying22 w) Y) (yy 2 runUnderlying26 Y sizeOf22 Y Y (jc Y Y Y (fun w hh => jH (isAgg22 w) Y (segCell (hh.seg 1 Y) 2 Y)) (jc Y Y Y (fun w _ => kC hna2 (runUnderlying22 w) Y) (jc Y Y Y (fun _ _ => Je Y Y) (jk Y Y ?_)))))))
   refine jK 10 Y (fun h3 => ?_) (fun h3 => ?_)
   ·replace hm := ifD h3 hm
    refine jb Y Y (jk Y Y (jb Y Y ?_))
    obtain ⟨t12, h4, hm⟩ := bindO hm
    refine jd [] [] Y Y Y Y Y Y Y call138 (fun w hh => Yj l0 qa0 na0 ca0 w (HV.callee (S0 := []) (vs0 := []) hh (roR hh 0 Y roN)) hna0 hqa0 hla0 h4) (fun l_1 h5 => ?_)
    refine y8 Y Y Y (jk Y Y ?_)
    refine jK 14 Y (fun h6 => ?_) (fun h6 => ?_)
    ·replace hm := ifT (h6) hm
     refine jb Y Y (jk Y Y (jb Y Y (jc Y Y Y (fun w hh => jJ (vs := [_, _, _, _, _]) (isAgg26 w) (sizeOf26 w) Y (segCells (hh.seg 1 Y) 0 Y)) (jb Y Y (jc Y Y Y (fun _ _ => kp (u := #[_]) (u' := #[]) Y Y) (jb Y Y ?_))))))
     obtain ⟨t18, h7, hm⟩ := bindO hm
     refine jd [] [] Y Y Y Y Y Y Y call119 (fun w hh => Qs l0 (⟨a11_cells, a11_tides, a11_fords, a11_sands, a11_sights⟩ : Channel) qa0 na0 ca0 qa2 na2 ca2 qa3 na3 ca3 qa4 na4 ca4 w (HV.callee (S0 := []) (vs0 := []) hh (roR hh 0 Y (roR hh 2 Y (roR hh 3 Y (roR hh 4 Y roN))))) hna0 hqa0 hla0 hna2 hqa2 hla2 hna3 hqa3 hla3 hna4 hqa4 hla4 h7) (fun l_2 h8 => ?_)
     refine y8 Y Y Y (jr Y Y (jv ?_))
     obtain rfl := sj hm
     exact jm () (trivial) (sE Y) (fun w hh => hh)
    replace hm := ifN h6 hm
    refine g_k Y Y Y Y (g_k Y Y Y Y (g_k Y Y Y Y (g_k Y Y Y Y (yx Y Y Y (jr Y Y (jv ?_))))))
    obtain rfl := sj hm
    exact jm () (trivial) (sE Y) (fun w hh => hh)
   replace hm := ifE h3 hm
   refine g_k Y Y Y Y (g_k Y Y Y Y (yx Y Y Y (jk Y Y (g_k Y Y Y Y (g_k Y Y Y Y (g_k Y Y Y Y (g_k Y Y Y Y ?_)))))))
   refine yx Y Y Y (jr Y Y (jv ?_))
   obtain rfl := sj hm
   exact jm () (trivial) (sE Y) (fun w hh => hh)
  intro l hj
  replace hm := h2
  refine ja (jB ?_)
  obtain rfl := sj hm
  refine jq Y (fun w hh => (.tmp Y .nil)) (fun w hh => ⟨(), rfl, trivial, hh.se [] [] 5 Y Y Y rfl⟩)
def yc (x0 : (List Int)) (a11_c0_cells : Int) (a11_c0_tides : Int) (a11_c0_fords : (List Int)) (a11_c0_sands : (List Sand)) (a11_c0_sights : (List Sight)) : Option Bool :=
 (Kv x0 a11_c0_cells a11_c0_tides a11_c0_fords a11_c0_sands a11_c0_sights).bind fun t6 =>
 some (!t6)
theorem Q6 (x0 : (List Int)) (a11_c0_cells : Int) (a11_c0_tides : Int) (a11_c0_fords : (List Int)) (a11_c0_sands : (List Sand)) (a11_c0_sights : (List Sight)) (qa0 : Option Addr) (na0 ca0 : Nat) (rb : Nat) (rb_1 : Nat) (qa3 : Option Addr) (na3 ca3 : Nat) (qa4 : Option Addr) (na4 ca4 : Nat) (qa5 : Option Addr) (na5 ca5 : Nat) (w : World) (hw : HV w (keys [] []) [] [] [(aB qa0, aO qa0, RI.enc x0), (rb, 0, [.func (.func 141) #[] #[ptr rb_1 0]]), (rb_1, 0, [.int .i64 a11_c0_cells, .int .i64 a11_c0_tides, .slice qa3 na3 ca3, .slice qa4 na4 ca4, .slice qa5 na5 ca5]), (aB qa3, aO qa3, RI.enc a11_c0_fords), (aB qa4, aO qa4, RSa.enc a11_c0_sands), (aB qa5, aO qa5, RSi.enc a11_c0_sights)] w) (hna0 : x0.length = na0) (hqa0 : AOK na0 qa0) (hla0 : na0 ≤ ca0)   (hna3 : a11_c0_fords.length = na3) (hqa3 : AOK na3 qa3) (hla3 : na3 ≤ ca3) (hna4 : a11_c0_sands.length = na4) (hqa4 : AOK na4 qa4) (hla4 : na4 ≤ ca4) (hna5 : a11_c0_sights.length = na5) (hqa5 : AOK na5 qa5) (hla5 : na5 ≤ ca5) {res : Bool} (hm : yc x0 a11_c0_cells a11_c0_tides a11_c0_fords a11_c0_sands a11_c0_sights = some res) :
    Calls Tryz.prog 179 #[.slice qa0 na0 ca0, ptr rb 0] w (fun en w' => ∃ l : Unit, en = .returned (.bool res) ∧ (True) ∧ HV w (keys [] []) [] [] [] w') := by
  unfold yc at hm
  refine yt func179 Y ntmps179 Y (e := [(0, _), (1, _)]) Y hw (jw (jr Y Y (ql (jc Y Y Y (fun w hh => jH (isAgg186 w) Y (segCell (hh.seg 1 Y) 0 Y)) (jk Y Y ?_)))))
  obtain ⟨t6, h1, hm⟩ := bindO hm
  refine jd [] [] Y Y Y Y Y Y Y call141 (fun w hh => Zv x0 a11_c0_cells a11_c0_tides a11_c0_fords a11_c0_sands a11_c0_sights qa0 na0 ca0 rb_1 qa3 na3 ca3 qa4 na4 ca4 qa5 na5 ca5 w (HV.callee (S0 := []) (vs0 := []) hh (roR hh 0 Y (roR hh 2 Y (roR hh 3 Y (roR hh 4 Y (roR hh 5 Y roN)))))) hna0 hqa0 hla0 hna3 hqa3 hla3 hna4 hqa4 hla4 hna5 hqa5 hla5 h1) (fun l h2 => ?_)
  refine jc Y Y Y (fun _ _ => zr Y) (jr Y Y (ju (jB ?_)))
  obtain rfl := sj hm
  refine jq Y (fun w hh => (.tmp Y .nil)) (fun w hh => ⟨(), rfl, trivial, hh.se [] [] 6 Y Y Y rfl⟩)
def zc (s0 : (List (List Int))) (f1_c0_c0_cells : Int) (f1_c0_c0_tides : Int) (f1_c0_c0_fords : (List Int)) (f1_c0_c0_sands : (List Sand)) (f1_c0_c0_sights : (List Sight)) (s : Int) : Option (Int ⊕ (Unit ⊕ Int)) :=
 if s < (s0.length : Int) then
 ((ix s0 s).bind fun t14 =>
 (yc t14 f1_c0_c0_cells f1_c0_c0_tides f1_c0_c0_fords f1_c0_c0_sands f1_c0_c0_sights).bind fun t16 =>
 if t16 = true then
 (some (.inr (.inr s))) else
 ((addc s 1).bind fun t18 =>
 some (.inl t18))) else
 (some (.inr (.inl ())))
def yR (s0 : (List (List Int))) (f1_c0_c0_cells : Int) (f1_c0_c0_tides : Int) (f1_c0_c0_fords : (List Int)) (f1_c0_c0_sands : (List Sand)) (f1_c0_c0_sights : (List Sight)) : Option Int :=
 (iterM FU (zc s0 f1_c0_c0_cells f1_c0_c0_tides f1_c0_c0_fords f1_c0_c0_sands f1_c0_c0_sights) 0).bind fun o =>
 oc o (fun j => some (-1)) (fun r_1 => some r_1)
theorem QS (s0 : (List (List Int))) (f1_c0_c0_cells : Int) (f1_c0_c0_tides : Int) (f1_c0_c0_fords : (List Int)) (f1_c0_c0_sands : (List Sand)) (f1_c0_c0_sights : (List Sight)) (qa0 : Option Addr) (na0 ca0 : Nat) (ar0 : List AL) (rb : Nat) (rb_1 : Nat) (qa3 : Option Addr) (na3 ca3 : Nat) (qa4 : Option Addr) (na4 ca4 : Nat) (qa5 : Option Addr) (na5 ca5 : Nat) (w : World) (hw : HV w (keys [] []) [] [] [(aB qa0, aO qa0, RwA.enc ar0), (rb, 0, [.func (.func 141) #[] #[ptr rb_1 0]]), (rb_1, 0, [.int .i64 f1_c0_c0_cells, .int .i64 f1_c0_c0_tides, .slice qa3 na3 ca3, .slice qa4 na4 ca4, .slice qa5 na5 ca5]), (aB qa3, aO qa3, RI.enc f1_c0_c0_fords), (aB qa4, aO qa4, RSa.enc f1_c0_c0_sands), (aB qa5, aO qa5, RSi.enc f1_c0_c0_sights)] w) (hna0 : s0.length = na0) (hqa0 : AOK na0 qa0) (hla0 : na0 ≤ ca0) (hda0 : DRO s0 ar0) (hTa0 : ∀ t, t ∈ rsg RI s0 ar0 → segOK w t ∧ (t.2.2 ≠ [] → t.1 ∉ keys [] []))   (hna3 : f1_c0_c0_fords.length = na3) (hqa3 : AOK na3 qa3) (hla3 : na3 ≤ ca3) (hna4 : f1_c0_c0_sands.length = na4) (hqa4 : AOK na4 qa4) (hla4 : na4 ≤ ca4) (hna5 : f1_c0_c0_sights.length = na5) (hqa5 : AOK na5 qa5) (hla5 : na5 ≤ ca5) {res : Int} (hm : yR s0 f1_c0_c0_cells f1_c0_c0_tides f1_c0_c0_fords f1_c0_c0_sands f1_c0_c0_sights = some res) :
    Calls Tryz.prog 203 #[.slice qa0 na0 ca0, .func (.func 179) #[] #[ptr rb 0]] w (fun en w' => ∃ l : Unit, en = .returned (.int .i64 res) ∧ (True) ∧ HV w (keys [] []) [] [] [] w') := by
  unfold yR at hm
  refine yt func203 Y ntmps203 Y (e := [(0, _), (1, _)]) Y hw (jw (jr Y Y (ju (jl (jw (jk Y Y (jc Y Y Y (fun w _ => kC hna0 (runUnderlying41 w) Y) ?_)))))))
  refine jk Y Y (ju ?_)
  obtain ⟨o, h1, h2⟩ := bindO hm
  refine jW (ι := Unit) (fun j => o = .inl j) (fun j => []) (fun j => []) (fun j => []) ?_ ?_
  ·replace hm := h1
   refine js ?_
   refine kb (ι := Unit) hm (fun s l => True) (fun s l => [(0, .slice qa0 na0 ca0), (1, .func (.func 179) #[] #[ptr rb 0]), (7, .int .i64 (s0.length : Int)), (8, .int .i64 s)]) (fun s l => []) (fun s l => []) () (trivial) (sE Y) (fun w hh => hh) (fun s l r hpl hm h3 => ?_)
   unfold zc at hm
   refine jw (KD Y Y Y (ju (jl ?_)))
   refine jz Y (fun h4 => ?_) (fun h4 => ?_)
   ·replace hm := ifD h4 hm
    refine jx (ja (jl (js (jw (jk Y Y (jr Y Y (ql ?_)))))))
    refine jk Y Y (jk Y Y (jk Y Y ?_))
    obtain ⟨t14, h5, hm⟩ := bindO hm
    obtain ⟨A, h6, h7, h8, h9⟩ := (hda0).row h5
    refine jc Y Y Y (fun w _ => yU h6 (runUnderlying41 w) (sizeOf22 w) Y Y (Eq.trans (hda0).len.symm hna0) hqa0) (jc Y Y Y (fun w hh => kK RwA 0 h6 (isAgg22 w) Y (hh.seg 0 Y) Y (Nat.add_zero _).symm) ?_)
    obtain ⟨t16, h10, hm⟩ := bindO hm
    refine jd [] [] Y Y Y Y Y Y Y call179 (fun w hh => Q6 t14 f1_c0_c0_cells f1_c0_c0_tides f1_c0_c0_fords f1_c0_c0_sands f1_c0_c0_sights A.a A.n A.cap rb rb_1 qa3 na3 ca3 qa4 na4 ca4 qa5 na5 ca5 w (HV.callee (S0 := []) (vs0 := []) hh (roC (hh.oldsep (S0 := []) (vs0 := []) (hTa0 _ (rsg_ix h5 h6))) (roR hh 1 Y (roR hh 2 Y (roR hh 3 Y (roR hh 4 Y (roR hh 5 Y roN))))))) h7 h8 h9 hna3 hqa3 hla3 hna4 hqa4 hla4 hna5 hqa5 hla5 h10) (fun l_1 h11 => ?_)
    refine ju ?_
    refine jz Y (fun h12 => ?_) (fun h12 => ?_)
    ·replace hm := ifT (h12) hm
     refine jw (jk Y Y (jr Y Y (ju (jB (jG (ji (ji ?_)))))))
     refine jG ?_
     obtain rfl := sj hm
     have hbo := h3 _ Y
     subst hbo
     refine ji ?_
     replace hm := ocR h2
     refine ji ?_
     obtain rfl := sj hm
     refine jq Y (fun w hh => (.tmp Y .nil)) (fun w hh => ⟨(), rfl, trivial, hh.se [] [] 6 Y Y Y rfl⟩)
    replace hm := ifN h12 hm
    refine jx (jA (ja (jg ?_)))
    obtain ⟨t18, h13, hm⟩ := bindO hm
    refine Kl h13 Y Y Y (jk Y Y (jv ?_))
    obtain rfl := sj hm
    refine ja ?_
    exact jM _ () Y (trivial) (sE Y) (fun w hh => hh)
   replace hm := ifE h4 hm
   refine kz (jp (jp (jP ?_)))
   obtain rfl := sj hm
   have hbo := h3 _ Y
   subst hbo
   exact jm () (Y) (.nil) (fun w hh => hh)
  intro j hj
  have h14 := hj
  subst h14
  replace hm := ocL h2
  refine ja (jw (jr Y Y (ju (jB ?_))))
  obtain rfl := sj hm
  refine jq Y (fun w hh => (.tmp Y .nil)) (fun w hh => ⟨(), rfl, trivial, hh.se [] [] 6 Y Y Y rfl⟩)
def q8 (s0 : (List (List Int))) (f1_c0_c0_cells : Int) (f1_c0_c0_tides : Int) (f1_c0_c0_fords : (List Int)) (f1_c0_c0_sands : (List Sand)) (f1_c0_c0_sights : (List Sight)) : Option Bool :=
 (yR s0 f1_c0_c0_cells f1_c0_c0_tides f1_c0_c0_fords f1_c0_c0_sands f1_c0_c0_sights).bind fun t7 =>
 some (decide (0 ≤ t7))
theorem Qo (s0 : (List (List Int))) (f1_c0_c0_cells : Int) (f1_c0_c0_tides : Int) (f1_c0_c0_fords : (List Int)) (f1_c0_c0_sands : (List Sand)) (f1_c0_c0_sights : (List Sight)) (qa0 : Option Addr) (na0 ca0 : Nat) (ar0 : List AL) (rb : Nat) (rb_1 : Nat) (qa3 : Option Addr) (na3 ca3 : Nat) (qa4 : Option Addr) (na4 ca4 : Nat) (qa5 : Option Addr) (na5 ca5 : Nat) (w : World) (hw : HV w (keys [] []) [] [] [(aB qa0, aO qa0, RwA.enc ar0), (rb, 0, [.func (.func 141) #[] #[ptr rb_1 0]]), (rb_1, 0, [.int .i64 f1_c0_c0_cells, .int .i64 f1_c0_c0_tides, .slice qa3 na3 ca3, .slice qa4 na4 ca4, .slice qa5 na5 ca5]), (aB qa3, aO qa3, RI.enc f1_c0_c0_fords), (aB qa4, aO qa4, RSa.enc f1_c0_c0_sands), (aB qa5, aO qa5, RSi.enc f1_c0_c0_sights)] w) (hna0 : s0.length = na0) (hqa0 : AOK na0 qa0) (hla0 : na0 ≤ ca0) (hda0 : DRO s0 ar0) (hTa0 : ∀ t, t ∈ rsg RI s0 ar0 → segOK w t ∧ (t.2.2 ≠ [] → t.1 ∉ keys [] []))   (hna3 : f1_c0_c0_fords.length = na3) (hqa3 : AOK na3 qa3) (hla3 : na3 ≤ ca3) (hna4 : f1_c0_c0_sands.length = na4) (hqa4 : AOK na4 qa4) (hla4 : na4 ≤ ca4) (hna5 : f1_c0_c0_sights.length = na5) (hqa5 : AOK na5 qa5) (hla5 : na5 ≤ ca5) {res : Bool} (hm : q8 s0 f1_c0_c0_cells f1_c0_c0_tides f1_c0_c0_fords f1_c0_c0_sands f1_c0_c0_sights = some res) :
    Calls Tryz.prog 178 #[.slice qa0 na0 ca0, .func (.func 179) #[] #[ptr rb 0]] w (fun en w' => ∃ l : Unit, en = .returned (.bool res) ∧ (True) ∧ HV w (keys [] []) [] [] [] w') := by
  unfold q8 at hm
  refine yt func178 Y ntmps178 Y (e := [(0, _), (1, _)]) Y hw (jw (jr Y Y (ql (jk Y Y (jk Y Y ?_)))))
  obtain ⟨t7, h1, hm⟩ := bindO hm
  refine jd [] [] Y Y Y Y Y Y Y call203 (fun w hh => QS s0 f1_c0_c0_cells f1_c0_c0_tides f1_c0_c0_fords f1_c0_c0_sands f1_c0_c0_sights qa0 na0 ca0 ar0 rb rb_1 qa3 na3 ca3 qa4 na4 ca4 qa5 na5 ca5 w (HV.callee (S0 := []) (vs0 := []) hh (roR hh 0 Y (roR hh 1 Y (roR hh 2 Y (roR hh 3 Y (roR hh 4 Y (roR hh 5 Y roN))))))) hna0 hqa0 hla0 hda0 (hh.oldT (S0 := []) (vs0 := []) hTa0) hna3 hqa3 hla3 hna4 hqa4 hla4 hna5 hqa5 hla5 h1) (fun l h2 => ?_)
  refine jc Y Y Y (fun _ _ => Ya Y Y) (jr Y Y (ju (jB ?_)))
  obtain rfl := sj hm
  refine jq Y (fun w hh => (.tmp Y .nil)) (fun w hh => ⟨(), rfl, trivial, hh.se [] [] 6 Y Y Y rfl⟩)
def yK (l0 : (List (List Int))) (holds1_c0_cells : Int) (holds1_c0_tides : Int) (holds1_c0_fords : (List Int)) (holds1_c0_sands : (List Sand)) (holds1_c0_sights : (List Sight)) : Option Bool :=
 (q8 l0 holds1_c0_cells holds1_c0_tides holds1_c0_fords holds1_c0_sands holds1_c0_sights).bind fun t7 =>
 some (!t7)
theorem Yw (l0 : (List (List Int))) (holds1_c0_cells : Int) (holds1_c0_tides : Int) (holds1_c0_fords : (List Int)) (holds1_c0_sands : (List Sand)) (holds1_c0_sights : (List Sight)) (qa0 : Option Addr) (na0 ca0 : Nat) (ar0 : List AL) (rb : Nat) (qa2 : Option Addr) (na2 ca2 : Nat) (qa3 : Option Addr) (na3 ca3 : Nat) (qa4 : Option Addr) (na4 ca4 : Nat) (w : World) (hw : HV w (keys [] []) [] [] [(aB qa0, aO qa0, RwA.enc ar0), (rb, 0, [.int .i64 holds1_c0_cells, .int .i64 holds1_c0_tides, .slice qa2 na2 ca2, .slice qa3 na3 ca3, .slice qa4 na4 ca4]), (aB qa2, aO qa2, RI.enc holds1_c0_fords), (aB qa3, aO qa3, RSa.enc holds1_c0_sands), (aB qa4, aO qa4, RSi.enc holds1_c0_sights)] w) (hna0 : l0.length = na0) (hqa0 : AOK na0 qa0) (hla0 : na0 ≤ ca0) (hda0 : DRO l0 ar0) (hTa0 : ∀ t, t ∈ rsg RI l0 ar0 → segOK w t ∧ (t.2.2 ≠ [] → t.1 ∉ keys [] []))  (hna2 : holds1_c0_fords.length = na2) (hqa2 : AOK na2 qa2) (hla2 : na2 ≤ ca2) (hna3 : holds1_c0_sands.length = na3) (hqa3 : AOK na3 qa3) (hla3 : na3 ≤ ca3) (hna4 : holds1_c0_sights.length = na4) (hqa4 : AOK na4 qa4) (hla4 : na4 ≤ ca4) {res : Bool} (hm : yK l0 holds1_c0_cells holds1_c0_tides holds1_c0_fords holds1_c0_sands holds1_c0_sights = some res) :
    Calls Tryz.prog 140 #[.slice qa0 na0 ca0, .func (.func 141) #[] #[ptr rb 0]] w (fun en w' => ∃ l : Unit, en = .returned (.bool res) ∧ (True) ∧ HV w (keys [] []) [] [] [] w') := by
  unfold yK at hm
  refine yt func140 Y ntmps140 Y (e := [(0, _), (1, _)]) Y hw (jw ?_)
  refine jS Y Y (fun b h1 => ?_)
  refine jr Y Y (ql (jk Y Y (jc Y Y Y (fun _ _ => kp (u := #[]) (u' := #[_]) Y Y) ?_)))
  obtain ⟨t7, h2, hm⟩ := bindO hm
  refine jd [] [] Y Y Y Y Y Y Y call178 (fun w hh => Qo l0 holds1_c0_cells holds1_c0_tides holds1_c0_fords holds1_c0_sands holds1_c0_sights qa0 na0 ca0 ar0 b rb qa2 na2 ca2 qa3 na3 ca3 qa4 na4 ca4 w (HV.callee (S0 := []) (vs0 := []) hh (roR hh 0 Y (roC (bsep (hh.bseg 0 Y)) (roR hh 1 Y (roR hh 2 Y (roR hh 3 Y (roR hh 4 Y roN))))))) hna0 hqa0 hla0 hda0 (hh.oldT (S0 := []) (vs0 := []) hTa0) hna2 hqa2 hla2 hna3 hqa3 hla3 hna4 hqa4 hla4 h2) (fun l h3 => ?_)
  refine jc Y Y Y (fun _ _ => zr Y) (jr Y Y (ju (jB ?_)))
  obtain rfl := sj hm
  refine jq Y (fun w hh => (.tmp Y .nil)) (fun w hh => ⟨(), rfl, trivial, hh.se [] [] 5 Y Y Y rfl⟩)
structure yY where
  r0 : Bool
  r1 : Int
structure J8 where
  now8_after : Int
  now8_at__c0 : Int
  now8_at__c1 : Int
  now8_at__c2 : Int
structure m_branch_Fits_S0 where
  t38 : Int
  now8_after : Int
  now8_at__c0 : Int
  now8_at__c1 : Int
  now8_at__c2 : Int
def KX (t45 : Cells) (x : State) (s_1 : Bool) : Option Bool :=
 if s_1 = true then
 (some true) else
 (some (decide (x.at_ = t45)))
def zU (course1 : (List (List Int))) (t16b : zm) (c0 : Channel) (s : m_branch_Fits_S0) : Option (m_branch_Fits_S0 ⊕ (J8 ⊕ yY)) :=
 if s.t38 < (course1.length : Int) then
 ((ix course1 s.t38).bind fun t41 =>
 (Jt t41).bind fun t45 =>
 (if s.t38 = 0 then
 (some (decide ((⟨s.t38, t45⟩ : State) = (⟨s.now8_after, (⟨s.now8_at__c0, s.now8_at__c1, s.now8_at__c2⟩ : Cells)⟩ : State)))) else
 (some false)).bind fun o_2 =>
 (if 0 < s.t38 then
 ((km t16b.t14_0 t16b.t14_1 c0.fords c0.sands c0.sights t16b.t14_5 (⟨s.now8_after, (⟨s.now8_at__c0, s.now8_at__c1, s.now8_at__c2⟩ : Cells)⟩ : State)).bind fun t58 =>
 if nextOK t16b.t14_0 t16b.t14_5 (c0.fords.length : Int) t58 then ((iterL (KX t45) (nextL t16b.t14_0 t16b.t14_5 (c0.fords.length : Int) t58) o_2).bind fun o_4 =>
 some o_4) else none) else
 (some o_2)).bind fun o_3 =>
 (if (!o_3) = true then
 (some true) else
 ((zJ).bind fun t73 =>
 (qt t16b.t14_0 t16b.t14_1 c0.fords c0.sands c0.sights t16b.t14_5 (⟨s.t38, t45⟩ : State)).bind fun t75 =>
 some (!t75))).bind fun o_5 =>
 if o_5 = true then
 (some (.inr (.inr (⟨false, 0⟩ : yY)))) else
 ((addc s.t38 1).bind fun t78 =>
 some (.inl (⟨t78, s.t38, t45.c0, t45.c1, t45.c2⟩ : m_branch_Fits_S0)))) else
 (some (.inr (.inl (⟨s.now8_after, s.now8_at__c0, s.now8_at__c1, s.now8_at__c2⟩ : J8))))
def Kq (c0 : Channel) (course1 : (List (List Int))) : Option yY :=
 (yw c0).bind fun t16 =>
 oc t16 (fun t16a => some (⟨false, t16a⟩ : yY)) (fun t16b => ((addc c0.tides 1).bind fun t26 =>
 if (course1.length : Int) = t26 then
 ((yK course1 c0.cells c0.tides c0.fords c0.sands c0.sights).bind fun t31 =>
 some (!t31)) else
 (some true)).bind fun o =>
 if o = true then
 (some (⟨false, 0⟩ : yY)) else
 ((jQ t16b.t14_0 t16b.t14_1 c0.fords c0.sands c0.sights t16b.t14_5).bind fun t35 =>
 (iterM FU (zU course1 t16b c0) (⟨0, t35.after, t35.at_.c0, t35.at_.c1, t35.at_.c2⟩ : m_branch_Fits_S0)).bind fun o_1 =>
 oc o_1 (fun j_1 => some (⟨true, 0⟩ : yY)) (fun r_2 => some r_2)))
theorem ZZ (c0 : Channel) (course1 : (List (List Int))) (qa0 : Option Addr) (na0 ca0 : Nat) (qa1 : Option Addr) (na1 ca1 : Nat) (qa2 : Option Addr) (na2 ca2 : Nat) (qa3 : Option Addr) (na3 ca3 : Nat) (ar3 : List AL) (w : World) (hw : HV w (keys [] []) [] [] [(aB qa0, aO qa0, RI.enc c0.fords), (aB qa1, aO qa1, RSa.enc c0.sands), (aB qa2, aO qa2, RSi.enc c0.sights), (aB qa3, aO qa3, RwA.enc ar3)] w) (hna0 : c0.fords.length = na0) (hqa0 : AOK na0 qa0) (hla0 : na0 ≤ ca0) (hna1 : c0.sands.length = na1) (hqa1 : AOK na1 qa1) (hla1 : na1 ≤ ca1) (hna2 : c0.sights.length = na2) (hqa2 : AOK na2 qa2) (hla2 : na2 ≤ ca2) (hna3 : course1.length = na3) (hqa3 : AOK na3 qa3) (hla3 : na3 ≤ ca3) (hda3 : DRO course1 ar3) (hTa3 : ∀ t, t ∈ rsg RI course1 ar3 → segOK w t ∧ (t.2.2 ≠ [] → t.1 ∉ keys [] [])) {res : yY} (hm : Kq c0 course1 = some res) :
    Calls Tryz.prog 56 #[.agg #[.int .i64 c0.cells, .int .i64 c0.tides, .slice qa0 na0 ca0, .slice qa1 na1 ca1, .slice qa2 na2 ca2], .slice qa3 na3 ca3] w (fun en w' => ∃ l : Unit, en = .returned (.tuple #[.bool res.r0, .int .i64 res.r1]) ∧ (True) ∧ HV w (keys [] []) [] [] [] w') := by
  unfold Kq at hm
  refine YV (args := [.agg #[.int .i64 c0.cells, .int .i64 c0.tides, .slice qa0 na0 ca0, .slice qa1 na1 ca1, .slice qa2 na2 ca2], .slice qa3 na3 ca3]) func56 Y ntmps56 Y (e := [(0, _), (1, _)]) Y (H := HV w (keys [] []) [] [] [(aB qa0, aO qa0, RI.enc c0.fords), (aB qa1, aO qa1, RSa.enc c0.sands), (aB qa2, aO qa2, RSi.enc c0.sights), (aB qa3, aO qa3, RwA.enc ar3)]) hw ?_
  refine Ys (jw ?_)
  refine jS Y Y (fun b h1 => ?_)
  refine jr Y Y (jr Y Y (ql (Jh [_, _, _, _, _] 0 isAgg26 sizeOf26 Y Y Y Y ?_)))
  obtain ⟨t16, h2, hm⟩ := bindO hm
  rcases t16 with t16a | t16b
  ·replace hm := ocL hm
   refine jd [] [] Y Y Y Y Y Y Y call93 (fun w hh => yq c0 qa0 na0 ca0 qa1 na1 ca1 qa2 na2 ca2 w (HV.callee (S0 := []) (vs0 := []) hh (roR hh 0 Y (roR hh 1 Y (roR hh 2 Y roN)))) hna0 hqa0 hla0 hna1 hqa1 hla1 hna2 hqa2 hla2 h2) (fun l h3 => ?_)
   have h4 := h3
   refine jk Y Y (zx Y Y Y (zx Y Y Y (jr Y Y (jr Y Y (ju (jl (jw ?_)))))))
   refine jk Y Y (jc Y Y Y (fun _ _ => YW h4 Y Y) (ju (Kg Y Y (jw (jk Y Y (jr Y Y (jr Y Y ?_)))))))
   refine ju (jB (ji ?_))
   obtain rfl := sj hm
   refine J9 Y Y Y (fun w hh => (.tmp Y (.tmp Y .nil))) (fun w hh => ⟨(), rfl, trivial, hh.se [] [] 4 Y Y Y rfl⟩)
  replace hm := ocR hm
  refine jd [] [] Y Y Y Y Y Y Y call93 (fun w hh => yq c0 qa0 na0 ca0 qa1 na1 ca1 qa2 na2 ca2 w (HV.callee (S0 := []) (vs0 := []) hh (roR hh 0 Y (roR hh 1 Y (roR hh 2 Y roN)))) hna0 hqa0 hla0 hna1 hqa1 hla1 hna2 hqa2 hla2 h2) (fun l_1 h5 => ?_)
  have h6 := h5
  refine qc (S' := [_, _]) (vs' := [_, _]) [0, 1] [0, 1] 0 Y Y Y Y (jk Y Y (zx Y Y Y (zx Y Y Y (jr Y Y (jr Y Y (ju (jl ?_)))))))
  refine jw (jk Y Y (jc Y Y Y (fun _ _ => JL Y Y) (ju (JQ Y Y (jx (ja (jl ?_)))))))
  refine jl ?_
  obtain ⟨o, h7, h8⟩ := bindO hm
  refine Q2 (ι := Unit) (fun l_2 => mks []) (fun l_2 => True) (fun l_2 => [(1, .slice qa3 na3 ca3), (6, ptr l_1.1 0), (33, .bool o)]) (fun l_2 => [kc l_1.1 #[.int .i64 t16b.t14_0, .int .i64 t16b.t14_1, .slice qa0 na0 ca0, .slice qa1 na1 ca1, .slice qa2 na2 ca2, sL l_1.2] 175, kc b #[.int .i64 c0.cells, .int .i64 c0.tides, .slice qa0 na0 ca0, .slice qa1 na1 ca1, .slice qa2 na2 ca2] 26]) (fun l_2 => [vL 3 l_1.2 (RI.enc t16b.t14_5), mkV []]) ?_ ?_
  ·replace hm := h7
   refine jg (jk Y Y (jc Y Y Y (fun w _ => kC hna3 (runUnderlying41 w) Y) (yy 1 runUnderlying26 Y sizeOf3 Y Y (qN 1 isAgg3 Y Y Y Y ?_))))
   obtain ⟨t26, h9, hm⟩ := bindO hm
   refine Kl h9 Y Y Y (jc Y Y Y (fun _ _ => JL Y Y) (jk Y Y ?_))
   refine jK 28 Y (fun h10 => ?_) (fun h10 => ?_)
   ·replace hm := ifF (of_ndec_true h10) hm
    refine g_k Y Y Y Y (g_k Y Y Y Y (g_k Y Y Y Y (g_k Y Y Y Y (y8 Y Y Y (jv ?_)))))
    obtain rfl := sj hm
    exact zE () Y (trivial) (sE Y) (fun w hh => hh)
   replace hm := ifT (of_ndec_false h10) hm
   refine jb Y Y (jk Y Y (jb Y Y (jc Y Y Y (fun _ _ => kp (u := #[]) (u' := #[_]) Y Y) (jb Y Y ?_))))
   obtain ⟨t31, h11, hm⟩ := bindO hm
   refine jd [] [] Y Y Y Y Y Y Y call140 (fun w hh => Yw course1 c0.cells c0.tides c0.fords c0.sands c0.sights qa3 na3 ca3 ar3 b qa0 na0 ca0 qa1 na1 ca1 qa2 na2 ca2 w (HV.callee (S0 := []) (vs0 := []) hh (roR hh 3 Y (roC (bsep (hh.bseg 1 Y)) (roR hh 0 Y (roR hh 1 Y (roR hh 2 Y roN)))))) hna3 hqa3 hla3 hda3 (hh.oldT (S0 := []) (vs0 := []) hTa3) hna0 hqa0 hla0 hna1 hqa1 hla1 hna2 hqa2 hla2 h11) (fun l_3 h12 => ?_)
   refine jb Y Y (jc Y Y Y (fun _ _ => zr Y) (yx Y Y Y (jv ?_)))
   obtain rfl := sj hm
   exact zE () Y (trivial) (sE Y) (fun w hh => hh)
  intro l_2 hj
  replace hm := h8
  refine ja ?_
  refine jz Y (fun h13 => ?_) (fun h13 => ?_)
  ·replace hm := ifT (h13) hm
   refine jw (jr Y Y (jr Y Y (ju (jB (ji ?_)))))
   obtain rfl := sj hm
   refine J9 Y Y Y (fun w hh => (.tmp Y (.tmp Y .nil))) (fun w hh => ⟨(), rfl, trivial, hh.se [] [] 4 Y Y Y rfl⟩)
  replace hm := ifN h13 hm
  refine jx (ja (jw (jk Y Y ?_)))
  obtain ⟨t35, h14, hm⟩ := bindO hm
  refine jd [] [] Y Y Y Y Y Y Y call99 (fun w hh => kH t16b.t14_0 t16b.t14_1 c0.fords c0.sands c0.sights t16b.t14_5 l_1.1 qa0 na0 ca0 qa1 na1 ca1 qa2 na2 ca2 (qA l_1.2.q) l_1.2.n l_1.2.cap w (HV.callee (S0 := []) (vs0 := []) hh (roC (bsep (hh.bseg 0 Y)) (roR hh 0 Y (roR hh 1 Y (roR hh 2 Y (roC (hh.vsepA 0 Y h6) roN)))))) hna0 hqa0 hla0 hna1 hqa1 hla1 hna2 hqa2 hla2 (vlen RI h6 Y) (AOK.q (vne h6)) (h6).hle h14) (fun l_4 h15 => ?_)
  refine jy (fun w => zeroValue159 w) Y (fun b_1 h16 => ?_)
  refine kd (us := #[_, _, _, _]) (cs' := [_, _, _, _]) (S' := [_, _, _]) 0 (fun w => sizeOf159 w) Y Y Y Y Y Y Y (ju (jl (jw (jk Y Y (jc Y Y Y (fun w _ => kC hna3 (runUnderlying41 w) Y) (jk Y Y (ju ?_)))))))
  obtain ⟨o_1, h17, h18⟩ := bindO hm
  refine Q2 (ι := J8 × List Nat) (fun j => mks j.2) (fun j => o_1 = .inl j.1) (fun j => []) (fun j => [kc b_1 #[.int .i64 j.1.now8_after, .int .i64 j.1.now8_at__c0, .int .i64 j.1.now8_at__c1, .int .i64 j.1.now8_at__c2] 159, kc l_1.1 #[.int .i64 t16b.t14_0, .int .i64 t16b.t14_1, .slice qa0 na0 ca0, .slice qa1 na1 ca1, .slice qa2 na2 ca2, sL l_1.2] 175, kc b #[.int .i64 c0.cells, .int .i64 c0.tides, .slice qa0 na0 ca0, .slice qa1 na1 ca1, .slice qa2 na2 ca2] 26]) (fun j => [vL 3 l_1.2 (RI.enc t16b.t14_5), mkV j.2]) ?_ ?_
  ·replace hm := h17
   refine js ?_
   refine Yv (ι := List Nat) hm (fun s l_5 => mks l_5) (fun s l_5 => True) (fun s l_5 => [(6, ptr l_1.1 0), (8, ptr b_1 0), (36, .slice qa3 na3 ca3), (37, .int .i64 (course1.length : Int)), (38, .int .i64 s.t38)]) (fun s l_5 => [kc b_1 #[.int .i64 s.now8_after, .int .i64 s.now8_at__c0, .int .i64 s.now8_at__c1, .int .i64 s.now8_at__c2] 159, kc l_1.1 #[.int .i64 t16b.t14_0, .int .i64 t16b.t14_1, .slice qa0 na0 ca0, .slice qa1 na1 ca1, .slice qa2 na2 ca2, sL l_1.2] 175, kc b #[.int .i64 c0.cells, .int .i64 c0.tides, .slice qa0 na0 ca0, .slice qa1 na1 ca1, .slice qa2 na2 ca2] 26]) (fun s l_5 => [vL 3 l_1.2 (RI.enc t16b.t14_5), mkV l_5]) [] Y (trivial) (sE Y) (fun w hh => hh) (fun s l_5 r hpl hm h19 => ?_)
   unfold zU at hm
   refine jw (KD Y Y Y (ju (jl ?_)))
   refine jz Y (fun h20 => ?_) (fun h20 => ?_)
   ·replace hm := ifD h20 hm
    refine jx (ja (jl (js (jw (jk Y Y ?_)))))
    obtain ⟨t41, h21, hm⟩ := bindO hm
    obtain ⟨A, h22, h23, h24, h25⟩ := (hda3).row h21
    refine jc Y Y Y (fun w _ => yU h22 (runUnderlying41 w) (sizeOf22 w) Y Y (Eq.trans (hda3).len.symm hna3) hqa3) (jc Y Y Y (fun w hh => kK RwA 0 h22 (isAgg22 w) Y (hh.seg 3 Y) Y (Nat.add_zero _).symm) (jr Y Y (jr Y Y (ql (jk Y Y (jk Y Y ?_))))))
    obtain ⟨t45, h26, hm⟩ := bindO hm
    refine jd [] [] Y Y Y Y Y Y Y call142 (fun w hh => Yk t41 A.a A.n A.cap w (HV.callee (S0 := []) (vs0 := []) hh (roC (hh.oldsep (S0 := []) (vs0 := []) (hTa3 _ (rsg_ix h21 h22))) roN)) h23 h24 h25 h26) (fun l_6 h27 => ?_)
    refine jc Y Y Y (fun _ _ => kQ (vs := [(0, _), (1, _)]) (cells := [_, _, _, _]) Y Y) ?_
    refine jy (fun w => zeroValue159 w) Y (fun b_2 h28 => ?_)
    refine kd (us := #[_, _, _, _]) (cs' := [_, _, _, _]) (S' := [_, _, _, _]) 0 (fun w => sizeOf159 w) Y Y Y Y Y Y Y (ju (jl ?_))
    obtain ⟨o_2, h29, h30⟩ := bindO hm
    refine Q2 (ι := Nat) (fun l_7 => mks l_5) (fun l_7 => True) (fun l_7 => [(6, ptr l_1.1 0), (8, ptr b_1 0), (9, .int .i64 s.t38), (11, ptr b_2 0), (12, ptr l_7 0), (36, .slice qa3 na3 ca3), (37, .int .i64 (course1.length : Int)), (38, .int .i64 s.t38)]) (fun l_7 => [kc b_2 #[.int .i64 s.t38, .int .i64 t45.c0, .int .i64 t45.c1, .int .i64 t45.c2] 159, kc b_1 #[.int .i64 s.now8_after, .int .i64 s.now8_at__c0, .int .i64 s.now8_at__c1, .int .i64 s.now8_at__c2] 159, kc l_1.1 #[.int .i64 t16b.t14_0, .int .i64 t16b.t14_1, .slice qa0 na0 ca0, .slice qa1 na1 ca1, .slice qa2 na2 ca2, sL l_1.2] 175, kc b #[.int .i64 c0.cells, .int .i64 c0.tides, .slice qa0 na0 ca0, .slice qa1 na1 ca1, .slice qa2 na2 ca2] 26, kc l_7 #[.bool o_2] 4]) (fun l_7 => [vL 3 l_1.2 (RI.enc t16b.t14_5), mkV l_5]) ?_ ?_
    ·replace hm := h29
     refine jg (jk Y Y (jc Y Y Y (fun _ _ => Je Y Y) (jk Y Y ?_)))
     refine jK 49 Y (fun h31 => ?_) (fun h31 => ?_)
     ·replace hm := ifD h31 hm
      refine jb Y Y (Jh [_, _, _, _] 0 isAgg159 sizeOf159 Y Y Y Y (jb Y Y (Jh [_, _, _, _] 1 isAgg159 sizeOf159 Y Y Y Y (jb Y Y ?_))))
      refine jc Y Y Y (fun w _ => Zm (jaj (⟨s.t38, t45⟩ : State) (⟨s.now8_after, (⟨s.now8_at__c0, s.now8_at__c1, s.now8_at__c2⟩ : Cells)⟩ : State) w) jav Y Y) ?_
      refine y8 Y Y Y ?_
      refine jy (fun w => zeroValue4 w) Y (fun b_3 h32 => ?_)
      refine yv (cs' := #[_]) (S' := [_, _, _, _, _]) 0 (fun w => sizeOf4 w) Y Y Y Y Y Y Y (jv ?_)
      obtain rfl := sj hm
      exact zE b_3 Y (trivial) (sE Y) (hsE [1, 2, 3, 4, 0] [0, 1] 0 Y Y Y Y)
     replace hm := ifE h31 hm
     refine g_k Y Y Y Y (g_k Y Y Y Y (g_k Y Y Y Y (yx Y Y Y ?_)))
     refine jy (fun w => zeroValue4 w) Y (fun b_4 h33 => ?_)
     refine yv (cs' := #[_]) (S' := [_, _, _, _, _]) 0 (fun w => sizeOf4 w) Y Y Y Y Y Y Y (jv ?_)
     obtain rfl := sj hm
     exact zE b_4 Y (trivial) (sE Y) (hsE [1, 2, 3, 4, 0] [0, 1] 0 Y Y Y Y)
    intro l_7 hj
    replace hm := h30
    refine ja (jl ?_)
    obtain ⟨o_3, h34, h35⟩ := bindO hm
    refine Q2 (ι := List Nat) (fun l_8 => mks l_8) (fun l_8 => True) (fun l_8 => [(6, ptr l_1.1 0), (8, ptr b_1 0), (11, ptr b_2 0), (12, ptr l_7 0), (36, .slice qa3 na3 ca3), (37, .int .i64 (course1.length : Int)), (38, .int .i64 s.t38)]) (fun l_8 => [kc b_2 #[.int .i64 s.t38, .int .i64 t45.c0, .int .i64 t45.c1, .int .i64 t45.c2] 159, kc b_1 #[.int .i64 s.now8_after, .int .i64 s.now8_at__c0, .int .i64 s.now8_at__c1, .int .i64 s.now8_at__c2] 159, kc l_1.1 #[.int .i64 t16b.t14_0, .int .i64 t16b.t14_1, .slice qa0 na0 ca0, .slice qa1 na1 ca1, .slice qa2 na2 ca2, sL l_1.2] 175, kc b #[.int .i64 c0.cells, .int .i64 c0.tides, .slice qa0 na0 ca0, .slice qa1 na1 ca1, .slice qa2 na2 ca2] 26, kc l_7 #[.bool o_3] 4]) (fun l_8 => [vL 3 l_1.2 (RI.enc t16b.t14_5), mkV l_8]) ?_ ?_
    ·replace hm := h34
     refine jw (jk Y Y (jc Y Y Y (fun _ _ => QE Y Y) (ju ?_)))
     refine jz Y (fun h36 => ?_) (fun h36 => ?_)
     ·replace hm := ifD h36 hm
      refine jw (jk Y Y (Jh [_, _, _, _] 1 isAgg159 sizeOf159 Y Y Y Y ?_))
      obtain ⟨t58, h37, hm⟩ := bindO hm
      refine jd [] [] Y Y Y Y Y Y Y call96 (fun w hh => zp t16b.t14_0 t16b.t14_1 c0.fords c0.sands c0.sights t16b.t14_5 (⟨s.now8_after, (⟨s.now8_at__c0, s.now8_at__c1, s.now8_at__c2⟩ : Cells)⟩ : State) l_1.1 qa0 na0 ca0 qa1 na1 ca1 qa2 na2 ca2 (qA l_1.2.q) l_1.2.n l_1.2.cap w (HV.callee (S0 := []) (vs0 := []) hh (roC (bsep (hh.bseg 2 Y)) (roR hh 0 Y (roR hh 1 Y (roR hh 2 Y (roC (hh.vsepA 0 Y h6) roN)))))) hna0 hqa0 hla0 hna1 hqa1 hla1 hna2 hqa2 hla2 (vlen RI h6 Y) (AOK.q (vne h6)) (h6).hle h37) (fun l_9 h38 => ?_)
      refine qc (S' := [_, _, _, _, _, _, _]) (vs' := [_, _]) [0, 1, 2, 3, 4, 5, 6] [0, 1] 0 Y Y Y Y (ju (js ?_))
      obtain ⟨h39, hm⟩ := ifO hm
      refine Z5 (e' := [(6, ptr l_1.1 0), (8, ptr b_1 0), (11, ptr b_2 0), (12, ptr l_7 0), (36, .slice qa3 na3 ca3), (37, .int .i64 (course1.length : Int)), (38, .int .i64 s.t38), (58, .func (.func 161) #[] #[ptr l_9.1 0, ptr l_9.2 0])]) (sE Y) ?_
      obtain ⟨o_4, h40, hm⟩ := bindO hm
      refine QN (ι := Unit) (nextL t16b.t14_0 t16b.t14_5 (c0.fords.length : Int) t58) (fun x => .agg #[.int .i64 x.after, .int .i64 x.at_.c0, .int .i64 x.at_.c1, .int .i64 x.at_.c2]) h40 (fun s_1 l_10 => True) (fun s_1 l_10 => [kc l_9.1 #[.int .i64 t58.after, .int .i64 t58.at_.c0, .int .i64 t58.at_.c1, .int .i64 t58.at_.c2] 159, kc l_9.2 #[ptr l_1.1 0] 146, kc b_2 #[.int .i64 s.t38, .int .i64 t45.c0, .int .i64 t45.c1, .int .i64 t45.c2] 159, kc b_1 #[.int .i64 s.now8_after, .int .i64 s.now8_at__c0, .int .i64 s.now8_at__c1, .int .i64 s.now8_at__c2] 159, kc l_1.1 #[.int .i64 t16b.t14_0, .int .i64 t16b.t14_1, .slice qa0 na0 ca0, .slice qa1 na1 ca1, .slice qa2 na2 ca2, sL l_1.2] 175, kc b #[.int .i64 c0.cells, .int .i64 c0.tides, .slice qa0 na0 ca0, .slice qa1 na1 ca1, .slice qa2 na2 ca2] 26, kc l_7 #[.bool s_1] 4]) (fun s_1 l_10 => [vL 3 l_1.2 (RI.enc t16b.t14_5), mkV l_5]) () (trivial) (fun w hh => hh) (RdN l_9.2 l_1.1 l_9.1 t16b.t14_0 (.int .i64 t16b.t14_1) (.slice qa1 na1 ca1) (.slice qa2 na2 ca2) qa0 (qA l_1.2.q) na0 ca0 l_1.2.n l_1.2.cap t16b.t14_5 t58) (fun s_1 l_10 w h41 hh => ⟨hh.bseg 1 rfl, hh.bseg 4 rfl, hh.bseg 0 rfl, hh.vsegA 0 Y h6⟩) (fun x => (.cells #[.int .i64 x.after, .int .i64 x.at_.c0, .int .i64 x.at_.c1, .int .i64 x.at_.c2] 159 (0, 0))) (it_next _ _ _ l_9.2 l_1.1 l_9.1 t16b.t14_0 (.int .i64 t16b.t14_1) (.slice qa1 na1 ca1) (.slice qa2 na2 ca2) qa0 (qA l_1.2.q) na0 ca0 l_1.2.n l_1.2.cap c0.fords t16b.t14_5 t58 hna0 (vlen RI h6 Y) (AOK.q (vne h6)) h39) Y call161 Y (e1 := fun x bx => (13, ptr bx 0) :: (59, .agg #[.int .i64 x.after, .int .i64 x.at_.c0, .int .i64 x.at_.c1, .int .i64 x.at_.c2]) :: [(6, ptr l_1.1 0), (8, ptr b_1 0), (11, ptr b_2 0), (12, ptr l_7 0), (36, .slice qa3 na3 ca3), (37, .int .i64 (course1.length : Int)), (38, .int .i64 s.t38), (58, .func (.func 161) #[] #[ptr l_9.1 0, ptr l_9.2 0])]) (fun x lr L X hX => ?_) (fun x s_1 r_1 l_10 lr w1 bx h41 hm => ?_) (fun l_10 D h41 => ?_)
      ·refine jg ?_
       refine jy (fun w => zeroValue159 w) Y (fun b_5 h44 => ?_)
       refine kd (us := #[_, _, _, _]) (cs' := [_, _, _, _]) (S' := [_]) 0 (fun w => sizeOf159 w) Y Y Y Y Y Y Y (ju ?_)
       exact hX _
      ·unfold KX at hm
       refine js (jg (qN 7 isAgg4 Y Y Y Y (jk Y Y ?_)))
       refine jK 61 Y (fun h45 => ?_) (fun h45 => ?_)
       ·replace hm := ifT (h45) hm
        refine g_k Y Y Y Y (g_k Y Y Y Y (g_k Y Y Y Y (g_k Y Y Y Y (g_k Y Y Y Y (y8 Y Y Y (yv (cs' := #[_]) (S' := [_, _, _, _, _, _, _, _]) 7 (fun w => sizeOf4 w) Y Y Y Y Y Y Y (jv ?_)))))))
        refine jA ?_
        obtain rfl := sj hm
        exact QZ true () Y (trivial) (hsE [1, 2, 3, 4, 5, 6, 7] [0, 1] 4 Y Y Y Y)
       replace hm := ifN h45 hm
       refine jb Y Y (yy 1 runUnderlying159 Y sizeOf157 Y Y (jb Y Y (Jh [_, _, _] 0 isAgg157 sizeOf157 Y Y Y Y (jb Y Y (yy 1 runUnderlying159 Y sizeOf157 Y Y (jb Y Y (Jh [_, _, _] 3 isAgg157 sizeOf157 Y Y Y Y ?_)))))))
       refine jb Y Y (jc Y Y Y (fun w _ => Zm (jbi x.at_ t45 w) jba Y Y) (yx Y Y Y (yv (cs' := #[_]) (S' := [_, _, _, _, _, _, _, _]) 7 (fun w => sizeOf4 w) Y Y Y Y Y Y Y (jv (jA ?_)))))
       obtain rfl := sj hm
       exact QZ (decide (x.at_ = t45)) () Y (trivial) (hsE [1, 2, 3, 4, 5, 6, 7] [0, 1] 4 Y Y Y Y)
      refine Y2 1 Y Y (jA ?_)
      obtain rfl := sj hm
      exact zE (D :: l_5) Y (trivial) (sE Y) (hsE [2, 3, 4, 5, 6] [0, 1] 0 Y Y Y Y)
     replace hm := ifE h36 hm
     refine jx ?_
     obtain rfl := sj hm
     exact zE l_5 Y (trivial) (sE Y) (fun w hh => hh)
    intro l_8 hj
    replace hm := h35
    refine ja (jw (Jh [_, _, _, _] 0 isAgg159 sizeOf159 Y Y Y Y (kd (us := #[_, _, _, _]) (cs' := [_, _, _, _]) (S' := [_, _, _, _, _]) 1 (fun w => sizeOf159 w) Y Y Y Y Y Y Y (ju (jl ?_)))))
    obtain ⟨o_5, h46, h47⟩ := bindO hm
    refine Q2 (ι := Unit) (fun l_11 => mks l_8) (fun l_11 => True) (fun l_11 => [(6, ptr l_1.1 0), (8, ptr b_1 0), (36, .slice qa3 na3 ca3), (37, .int .i64 (course1.length : Int)), (38, .int .i64 s.t38), (77, .bool o_5)]) (fun l_11 => [kc b_2 #[.int .i64 s.t38, .int .i64 t45.c0, .int .i64 t45.c1, .int .i64 t45.c2] 159, kc b_1 #[.int .i64 s.t38, .int .i64 t45.c0, .int .i64 t45.c1, .int .i64 t45.c2] 159, kc l_1.1 #[.int .i64 t16b.t14_0, .int .i64 t16b.t14_1, .slice qa0 na0 ca0, .slice qa1 na1 ca1, .slice qa2 na2 ca2, sL l_1.2] 175, kc b #[.int .i64 c0.cells, .int .i64 c0.tides, .slice qa0 na0 ca0, .slice qa1 na1 ca1, .slice qa2 na2 ca2] 26, kc l_7 #[.bool o_3] 4]) (fun l_11 => [vL 3 l_1.2 (RI.enc t16b.t14_5), mkV l_8]) ?_ ?_
    ·replace hm := h46
     refine qi none (.hoist 0 (.free 1 (.free 2 (.free 3 (.hoist 5 (.one 4 (.one 6 (.free 7 (.free 8 .done))))))))) _ Y (by decide +kernel) (fun w k hh => hh.draw k) (fun w hh => hh) ?_
     refine QR 4 isAgg4 Y Y Y Y Y (jn Y Y Y Y (fun _ _ => zr Y) (yJ Y Y Y ?_))
     refine jK 71 Y (fun h48 => ?_) (fun h48 => ?_)
     ·replace hm := ifT (h48) hm
      refine jh Y Y Y Y Y Y Y (kU Y Y Y Y Y Y Y (jF Y (g_k Y Y Y Y (jo (fun w hh => hh) (jF Y (g_k Y Y Y Y (jo (fun w hh => hh) ?_)))))))
      refine jh Y Y Y Y Y Y Y (jn Y Y Y Y (fun _ _ => q7 Y Y) (jL ?_))
      obtain rfl := sj hm
      exact zE () Y (trivial) (sE Y) (fun w hh => hh)
     replace hm := ifN h48 hm
     refine jj Y Y Y Y Y Y (fun _ _ => jt Y) (jO Y Y Y Y Y Y (fun w hh => jJ (vs := [_, _, _, _]) (isAgg159 w) (sizeOf159 w) Y (hh.cells 1 Y Y)) (jF Y (jb Y Y ?_)))
     obtain ⟨t73, h49, hm⟩ := bindO hm
     refine jd [] [] Y Y Y Y Y Y Y call126 (fun w hh => Yq  w (HV.callee (S0 := []) (vs0 := []) hh roN)  h49) (fun l_12 h50 => ?_)
     refine jo (fun w hh => hh) (jF Y (jb Y Y ?_))
     obtain ⟨t75, h51, hm⟩ := bindO hm
     refine jd [] [] Y Y Y Y Y Y Y call143 (fun w hh => K3 t16b.t14_0 t16b.t14_1 c0.fords c0.sands c0.sights t16b.t14_5 (⟨s.t38, t45⟩ : State) l_1.1 qa0 na0 ca0 qa1 na1 ca1 qa2 na2 ca2 (qA l_1.2.q) l_1.2.n l_1.2.cap w (HV.callee (S0 := []) (vs0 := []) hh (roC (bsep (hh.bseg 2 Y)) (roR hh 0 Y (roR hh 1 Y (roR hh 2 Y (roC (hh.vsepA 0 Y h6) roN)))))) hna0 hqa0 hla0 hna1 hqa1 hla1 hna2 hqa2 hla2 (vlen RI h6 Y) (AOK.q (vne h6)) (h6).hle h51) (fun l_13 h52 => ?_)
     refine jo (fun w hh => hh) (jj Y Y Y Y Y Y (fun _ _ => zr Y) (jn Y Y Y Y (fun _ _ => qf Y Y) (jL ?_)))
     obtain rfl := sj hm
     exact zE () Y (trivial) (sE Y) (fun w hh => hh)
    intro l_11 hj
    replace hm := h47
    refine ja ?_
    refine jz Y (fun h53 => ?_) (fun h53 => ?_)
    ·replace hm := ifT (h53) hm
     refine jw (jr Y Y (jr Y Y (ju (jB (jG (ji (ji ?_)))))))
     refine jG ?_
     obtain rfl := sj hm
     have hbo := h19 _ Y
     subst hbo
     refine ji ?_
     replace hm := ocR h18
     refine ji ?_
     obtain rfl := sj hm
     refine J9 Y Y Y (fun w hh => (.tmp Y (.tmp Y .nil))) (fun w hh => ⟨(), rfl, trivial, hh.se [] [] 4 Y Y Y rfl⟩)
    replace hm := ifN h53 hm
    refine jx (jA (ja (jg ?_)))
    obtain ⟨t78, h54, hm⟩ := bindO hm
    refine Kl h54 Y Y Y (jk Y Y (jv ?_))
    obtain rfl := sj hm
    refine ja ?_
    exact QQ _ l_8 Y Y (trivial) (sE Y) (hsE [1, 2, 3] [0, 1] 0 Y Y Y Y)
   replace hm := ifE h20 hm
   refine kz (jp (jp (jP ?_)))
   obtain rfl := sj hm
   have hbo := h19 _ Y
   subst hbo
   exact zE ((⟨s.now8_after, s.now8_at__c0, s.now8_at__c1, s.now8_at__c2⟩ : J8), l_5) Y (Y) (.nil) (fun w hh => hh)
  rintro ⟨j_1, l_14⟩ hj
  have h55 := hj
  subst h55
  replace hm := ocL h18
  refine ja (jw (jr Y Y (jr Y Y (ju (jB ?_)))))
  obtain rfl := sj hm
  refine J9 Y Y Y (fun w hh => (.tmp Y (.tmp Y .nil))) (fun w hh => ⟨(), rfl, trivial, hh.se [] [] 4 Y Y Y rfl⟩)
end Go.Proofs.Wb

namespace Go.Gx
open Go
end Go.Gx
namespace Go.Proofs.Wb
open Go Go.Fw Go.Gx Go.Sb
set_option linter.unusedVariables false
def Few (c : Channel) : Prop := c.fords.length ≤ 100 ∧ c.sands.length ≤ 100 ∧ c.sights.length ≤ 100
theorem ZW {l : List Int} (h : l.length ≤ 100000) : Ke l = some l := by
  unfold Ke
  rw [makec_eq (by omega), Option.bind_some, appc_eq (by simp; omega)]
  simp
end Go.Proofs.Wb

namespace Go.Proofs.Wb
open Go Go.Fw Go.Gx Go.Sb
set_option linter.unusedVariables false
def stepR (x : Int) (r : Int) (s : Sand) : Int := if s.span.lo ≤ x ∧ x ≤ s.span.hi then max r s.reach else r
def rchC (l : List Sand) (x : Int) : Int := l.foldl (stepR x) 0
def rchL (c : Channel) : List Int := (List.range c.cells.toNat).map fun t : Nat => rchC c.sands (t : Int)
theorem rchC_snoc {l : List Sand} {s : Sand} {x : Int} : rchC (l ++ [s]) x = stepR x (rchC l x) s := by unfold rchC; rw [List.foldl_append]; rfl
theorem rchC_bounds {l : List Sand} {x : Int} (h : ∀ s ∈ l, 1 ≤ s.reach ∧ s.reach ≤ 2) : 0 ≤ rchC l x ∧ rchC l x ≤ 2 := by
  unfold rchC
  have key : ∀ (l : List Sand) (r : Int), (∀ s ∈ l, 1 ≤ s.reach ∧ s.reach ≤ 2) → 0 ≤ r ∧ r ≤ 2 → 0 ≤ l.foldl (stepR x) r ∧ l.foldl (stepR x) r ≤ 2 := by
    intro l
    induction l with
    | nil => intro r _ h; exact h
    | cons s l ih =>
      intro r h hr
      rw [List.foldl_cons]
      refine ih _ (fun t ht => h t (List.mem_cons_of_mem _ ht)) ?_
      have := h s List.mem_cons_self
      unfold stepR
      split <;> omega
  exact key l 0 h (by omega)
theorem reaches_in {n : Nat} {f : Nat → Int} {s : Sand} (h0 : 0 ≤ s.span.lo) (h1 : s.span.hi < n) (h2 : s.span.lo ≤ s.span.hi) (hn : n ≤ 1000) :
    iterM FU (kA s) ⟨s.span.lo, (List.range n).map f⟩ = some ((List.range n).map fun t : Nat => stepR (t : Int) (f t) s) := by
  have key := iterM_run (f := kA s) (fun j => ⟨s.span.lo + (j : Int), (List.range n).map fun t : Nat => if (s.span.lo ≤ (t : Int) ∧ (t : Int) < s.span.lo + (j : Int)) then max (f t) s.reach else f t⟩) (s.span.hi - s.span.lo + 1).toNat (b := (List.range n).map fun t : Nat => stepR (t : Int) (f t) s) (fun j hj => ?_) ?_ FU (FU_lt (by omega))
  · have e : ((List.range n).map fun t : Nat => if (s.span.lo ≤ (t : Int) ∧ (t : Int) < s.span.lo + ((0 : Nat) : Int)) then max (f t) s.reach else f t) = (List.range n).map f := by
      apply List.map_congr_left
      intro t _
      rw [if_neg (by omega)]
    simp only [e] at key
    simpa using key
  · unfold kA
    simp only
    have ej : s.span.lo + (j : Int) = ((s.span.lo.toNat + j : Nat) : Int) := by omega
    rw [if_pos (by omega), ej, range_ix (by omega), Option.bind_some, Option.bind_some, Int.toNat_natCast, range_set, Option.bind_some, addc_eq (by omega), Option.bind_some]
    congr 3
    · omega
    · apply List.map_congr_left
      intro t ht
      by_cases h : t = s.span.lo.toNat + j
      · rw [if_pos h, if_neg (by omega), if_pos (by omega)]; rw [h]
      · rw [if_neg h]
        by_cases h3 : s.span.lo ≤ (t : Int) ∧ (t : Int) < ((s.span.lo.toNat + j : Nat) : Int)
        · rw [if_pos h3, if_pos (by omega)]
        · rw [if_neg h3, if_neg (by omega)]
  · unfold kA
    simp only
    rw [if_neg (by omega)]
    congr 2
    apply List.map_congr_left
    intro t ht
    unfold stepR
    by_cases h3 : s.span.lo ≤ (t : Int) ∧ (t : Int) ≤ s.span.hi
    · rw [if_pos h3, if_pos (by omega)]
    · rw [if_neg h3, if_neg (by omega)]
theorem jad {c : Channel} (r : Right c) : k9 c = some (rchL c) := by
  have hc := r.cells
  have hs := r.sands
  unfold k9
  rw [makec_eq (by omega), Option.bind_some]
  have key := iterM_run (f := qg c) (fun j => ⟨(j : Int), (List.range c.cells.toNat).map fun t : Nat => rchC (c.sands.take j) (t : Int)⟩) c.sands.length (b := rchL c) (fun j hj => ?_) ?_ FU (FU_lt (by omega))
  · have e : List.replicate c.cells.toNat (0 : Int) = (List.range c.cells.toNat).map fun t : Nat => rchC (c.sands.take 0) (t : Int) := by
      apply List.ext_getElem (by simp)
      intro i h1 h2
      simp [rchC]
    rw [e, show (0 : Int) = ((0 : Nat) : Int) from rfl, key]
    rfl
  · have e : c.sands.take (j + 1) = c.sands.take j ++ [c.sands[j]] := by rw [List.take_append_getElem]
    have hx : c.sands.getD j default = c.sands[j] := by simp [List.getD_eq_getElem?_getD, hj]
    have hsp := r.span c.sands[j] (List.getElem_mem hj)
    unfold qg
    simp only
    rw [if_pos (by omega), ix_nat default hj, Option.bind_some, hx, reaches_in hsp.1 (by omega) hsp.2.2 (by omega), Option.bind_some, addc_eq (by omega), Option.bind_some]
    congr 3
    apply List.map_congr_left
    intro t _
    rw [e, rchC_snoc]
  · unfold qg
    simp only
    rw [if_neg (by omega), List.take_length]
    rfl
theorem rchL_len {c : Channel} : (rchL c).length = c.cells.toNat := by simp [rchL]
theorem rchL_get {c : Channel} {x : Int} (h : 0 ≤ x ∧ x < c.cells) : (rchL c).getD x.toNat 0 = rchC c.sands x := by
  unfold rchL
  rw [List.getD_eq_getElem?_getD, List.getElem?_map, List.getElem?_range (by omega)]
  simp
  congr 1
  omega
theorem ZA {c : Channel} (h : Few c) : yw c = some (if chk c = 0 then .inr ⟨c.cells, c.tides, rchL c⟩ else .inl (chk c)) := by
  unfold yw
  rw [jaE, Option.bind_some]
  by_cases h0 : chk c = 0
  · rw [if_pos h0, if_pos h0, jad (rightOf h0)]; rfl
  · rw [if_neg h0, if_neg h0, if_pos h0]
end Go.Proofs.Wb

namespace Go.Proofs.Wb
open Go Go.Fw Go.Gx Go.Sb
set_option linter.unusedVariables false
set_option maxRecDepth 100000
theorem Zp : ∀ {l : List Int}, l.length ≤ 3 → Jt l = some (mkCells l)
  | [], _ => by decide +kernel
  | [a], _ => rfl
  | [a, b], _ => rfl
  | [a, b, c], _ => rfl
  | a :: b :: c :: d :: l, h => absurd h (by simp)
def clS (nf : Nat) (s : State) : List Int := [s.at_.c0, s.at_.c1, s.at_.c2].take nf
theorem clS_mk {l : List Int} {k : Int} (h : l.length ≤ 3) : clS l.length ⟨k, mkCells l⟩ = l := by
  unfold clS mkCells
  match l, h with
  | [], _ => rfl
  | [a], _ => rfl
  | [a, b], _ => rfl
  | [a, b, c], _ => rfl
  | a :: b :: c :: d :: l, h => exact absurd h (by simp)
theorem Zt {d0 d1 : Int} {f : List Int} {a : List Sand} {b : List Sight} {r : List Int} (h : f.length ≤ 3) (s : State) : qv d0 d1 f a b r s = some (clS f.length s) := by
  unfold qv
  rw [if_pos (by simp; omega), Int.toNat_natCast, ZS (by simp; omega)]
  rfl
theorem Q1 {l : List Int} (hl : l.length < 1000000) (v : Int) : j6 l v = some (decide (v ∈ l)) := by
  unfold j6 JA
  rw [contains_loop (f := yM l v) l 0 (fun x => decide (v = x)) (by omega) (fun k hk => ?_) ?_]
  · congr 1
    rw [Bool.eq_iff_iff, List.any_eq_true, decide_eq_true_eq]
    constructor
    · rintro ⟨x, hx, he⟩
      rw [decide_eq_true_eq] at he
      subst he; exact hx
    · intro h; exact ⟨v, h, by simp⟩
  · unfold yM
    rw [if_neg (by omega)]
  · unfold yM
    rw [if_pos (by omega), ix_nat 0 hk, Option.bind_some, addc_eq (by omega), Option.bind_some]
    by_cases h : v = l.getD k 0
    · rw [if_pos h, if_pos (by simpa using h)]
    · rw [if_neg h, if_neg (by simpa using h)]
def offS (k : Int) (l : List Int) (x : Sight) : Bool := decide (x.after = k) && !(decide (x.cell ∈ l) == x.upright)
def agP (cnt : Nat → Bool) (sg : List Sight) (k : Int) (l : List Int) : Bool := !(List.range sg.length).any fun i => cnt i && offS k l (sg.getD i default)
theorem agP_iff {cnt : Nat → Bool} {sg : List Sight} {k : Int} {l : List Int} : agP cnt sg k l = true ↔ ∀ i, i < sg.length → cnt i = true → (sg.getD i default).after = k → (decide ((sg.getD i default).cell ∈ l) = (sg.getD i default).upright) := by
  unfold agP
  rw [Bool.not_eq_true', List.any_eq_false]
  simp only [List.mem_range, offS, Bool.and_eq_true, decide_eq_true_eq, Bool.not_eq_true', not_and, Bool.not_eq_false, beq_iff_eq]
theorem Zx {d0 d1 : Int} {f : List Int} {a : List Sand} {sg : List Sight} {r : List Int} (h : f.length ≤ 3) (hs : sg.length ≤ 100) (s : State) : qt d0 d1 f a sg r s = some (agP (fun _ => true) sg s.after (clS f.length s)) := by
  unfold qt
  rw [iterM_any0 (f := qY sg s d0 d1 f a r) sg.length (fun k => offS s.after (clS f.length s) (sg.getD k default)) false (fun k hk => ?_) ?_ (FU_lt (by omega)), Option.bind_some]
  · unfold agP
    simp only [Bool.true_and]
    cases (List.range sg.length).any fun k => offS s.after (clS f.length s) (sg.getD k default) <;> rfl
  · unfold qY
    rw [if_neg (by omega)]
  · unfold qY KR
    rw [if_pos (by omega), ix_nat default hk, Option.bind_some, Zt h, Option.bind_some, if_pos rfl, Option.bind_some, Q1 (by unfold clS; simp; omega), Option.bind_some, addc_eq (by omega)]
    unfold offS
    by_cases h1 : (sg.getD k default).after = s.after
    · rw [if_pos h1, Option.bind_some, decide_eq_true h1, Bool.true_and]
      split <;> rfl
    · rw [if_neg h1, Option.bind_some, decide_eq_false h1, Bool.false_and]
      rfl
theorem Yu {d0 d1 : Int} {f : List Int} {a : List Sand} {b : List Sight} {r : List Int} (h : f.length ≤ 3) : jQ d0 d1 f a b r = some ⟨0, mkCells f⟩ := by
  unfold jQ
  rw [Zp h]; rfl
end Go.Proofs.Wb

namespace Go.Proofs.Wb
open Go Go.Fw Go.Gx Go.Sb
set_option linter.unusedVariables false
set_option maxRecDepth 100000
def canB (sa : List Sand) (a b : List Int) : Bool := (List.range a.length).all fun i => inb (b.getD i (-1)) (a.getD i (-1) - rchC sa (a.getD i (-1))) (a.getD i (-1) + rchC sa (a.getD i (-1)))
def rowB (c : Channel) (l : List Int) : Bool := decide (l.length = c.fords.length) && (upB l && l.all fun x => inb x 0 (c.cells - 1))
def okAt (cnt : Nat → Bool) (c : Channel) (course : List (List Int)) (k : Nat) : Bool := rowB c (course.getD k []) && ((decide (k = 0) || canB c.sands (course.getD (k - 1) []) (course.getD k [])) && agP cnt c.sights (k : Int) (course.getD k []))
def fitB (cnt : Nat → Bool) (c : Channel) (course : List (List Int)) : Bool := decide ((course.length : Int) = c.tides + 1) && (decide (course.getD 0 [] = c.fords) && (List.range course.length).all (okAt cnt c course))
theorem rowB_iff {c : Channel} {l : List Int} : rowB c l = true ↔ l.length = c.fords.length ∧ upB l = true ∧ ∀ x ∈ l, 0 ≤ x ∧ x < c.cells := by
  unfold rowB
  simp only [Bool.and_eq_true, decide_eq_true_eq, List.all_eq_true, inb_iff]
  constructor
  · rintro ⟨h1, h2, h3⟩; exact ⟨h1, h2, fun x hx => by have := h3 x hx; omega⟩
  · rintro ⟨h1, h2, h3⟩; exact ⟨h1, h2, fun x hx => by have := h3 x hx; omega⟩
theorem getD_mem {l : List Int} {i : Nat} {d : Int} (h : i < l.length) : l.getD i d ∈ l := by
  rw [List.getD_eq_getElem?_getD, List.getElem?_eq_getElem h]
  exact List.getElem_mem h
end Go.Proofs.Wb

namespace Go.Proofs.Wb
open Go Go.Fw Go.Gx Go.Sb
set_option linter.unusedVariables false
set_option maxRecDepth 100000
theorem cGet_mk {l : List Int} {i : Nat} (h : i < 3) : cGet (mkCells l) i = l.getD i (-1) := by
  have : i = 0 ∨ i = 1 ∨ i = 2 := by omega
  rcases this with rfl | rfl | rfl <;> rfl
theorem rch_eq {c : Channel} {x : Int} (h : 0 ≤ x ∧ x < c.cells) : rch (rchL c) x = rchC c.sands x := rchL_get h
theorem nextOK_of {c : Channel} (r : Right c) {a : List Int} (ha : rowB c a = true) {k : Int} (hk : -1000 ≤ k ∧ k ≤ 1000) : nextOK c.cells (rchL c) (c.fords.length : Int) ⟨k, mkCells a⟩ := by
  obtain ⟨h1, h2, h3⟩ := rowB_iff.1 ha
  have hc := r.cells
  have hf := r.fords
  refine ⟨by omega, by omega, hk.1, hk.2, fun i hi => ?_⟩
  rw [Int.toNat_natCast] at hi
  simp only
  rw [cGet_mk (by omega)]
  have h4 := h3 _ (getD_mem (l := a) (i := i) (d := -1) (by omega))
  have h5 := rchC_bounds (x := a.getD i (-1)) r.reach
  rw [rchL_get h4, rchL_len]
  omega
theorem can_iff {c : Channel} (r : Right c) {a l : List Int} (ha : rowB c a = true) (hl : rowB c l = true) : canB c.sands a l = true ↔ CanS c.cells (rchL c) c.fords.length (mkCells a) l := by
  obtain ⟨a1, a2, a3⟩ := rowB_iff.1 ha
  obtain ⟨l1, l2, l3⟩ := rowB_iff.1 hl
  have hf := r.fords
  unfold canB
  simp only [List.all_eq_true, List.mem_range, inb_iff]
  constructor
  · intro h
    refine ⟨l1, fun i hi => l3 _ (getD_mem (by omega)), fun i hi => ?_, fun i hi => upB_ix.1 l2 i (by omega)⟩
    rw [cGet_mk (by omega), rch_eq (a3 _ (getD_mem (by omega)))]
    exact h i (by omega)
  · intro h i hi
    have := h.near i (by omega)
    rw [cGet_mk (by omega), rch_eq (a3 _ (getD_mem (by omega)))] at this
    exact this
theorem next_any {c : Channel} (r : Right c) {a l : List Int} (ha : rowB c a = true) (hl : rowB c l = true) (k : Int) : ((nextL c.cells (rchL c) (c.fords.length : Int) ⟨k, mkCells a⟩).any fun x => decide (x.at_ = mkCells l)) = canB c.sands a l := by
  have hc := r.cells
  have hf := r.fords
  obtain ⟨l1, l2, l3⟩ := rowB_iff.1 hl
  rw [Bool.eq_iff_iff, List.any_eq_true, can_iff r ha hl]
  constructor
  · rintro ⟨t, ht, he⟩
    rw [decide_eq_true_eq] at he
    obtain ⟨l', h1, rfl⟩ := (mem_nextL (by omega)).1 ht
    rw [Int.toNat_natCast] at h1
    have := mkCells_inj (l := l') (m := l) (by rw [h1.len, l1]) (by rw [h1.len]; omega) he
    rw [← this]
    exact h1
  · intro h
    refine ⟨⟨k + 1, mkCells l⟩, (mem_nextL (by omega)).2 ⟨l, ?_, rfl⟩, by simp⟩
    rw [Int.toNat_natCast]
    exact h
theorem iterL_or {α : Type} (p : α → Bool) {f : α → Bool → Option Bool} (hf : ∀ x s, f x s = if s = true then some true else some (p x)) : ∀ (l : List α) (b : Bool), iterL f l b = some (b || l.any p)
  | [], b => by simp [iterL]
  | x :: l, b => by
    rw [iterL, hf]
    cases b with
    | true => rw [if_pos rfl, Option.bind_some, iterL_or p hf l]; rfl
    | false =>
      rw [if_neg (by decide), Option.bind_some, iterL_or p hf l, List.any_cons]
      rfl
theorem jai {c : Channel} (r : Right c) {course : List (List Int)} (hn : course.length ≤ 100) (hl : ∀ l ∈ course, l.length ≤ 100) : yK course c.cells c.tides c.fords c.sands c.sights = some (course.all (rowB c)) := by
  have hc := r.cells
  have := any_loop course default (fun x => yc x c.cells c.tides c.fords c.sands c.sights) (fun x => !rowB c x) (by omega) (fun x hx => by
    have hx' := hl x hx
    unfold yc Kv rowB
    rw [Zy (by omega), Zw (c := ⟨c.cells, c.tides, c.fords, c.sands, c.sights⟩) (by simp only; omega) (by omega)]
    simp only [Option.bind_some]
    by_cases h : x.length = c.fords.length
    · rw [if_pos (by omega), decide_eq_true h]
      cases upB x <;> rfl
    · rw [if_neg (by omega), decide_eq_false h]
      rfl) (f := zc course c.cells c.tides c.fords c.sands c.sights) (fun s => rfl)
  unfold yK q8 yR
  rw [this, Option.bind_some, not_any_not]
def nowS (c : Channel) (course : List (List Int)) (k : Nat) : State := if k = 0 then ⟨0, mkCells c.fords⟩ else ⟨(k : Int) - 1, mkCells (course.getD (k - 1) [])⟩
theorem jaN {c : Channel} (h0 : Few c) {course : List (List Int)} (hn : course.length ≤ 100) (hl : ∀ l ∈ course, l.length ≤ 100) : Kq c course = some (if chk c = 0 then ⟨fitB (fun _ => true) c course, 0⟩ else ⟨false, chk c⟩) := by
  unfold Kq
  rw [ZA h0, Option.bind_some]
  by_cases hk : chk c = 0
  · rw [if_pos hk, if_pos hk, oc_inr]
    have r := rightOf hk
    have hc := r.cells
    have ht := r.tides
    have hf := r.fords
    have hs := r.sights
    have hsa := r.sands
    rw [addc_eq (by omega), Option.bind_some]
    unfold fitB
    by_cases h1 : (course.length : Int) = c.tides + 1
    · rw [if_pos h1, jai r hn hl, Option.bind_some, Option.bind_some, decide_eq_true h1, Bool.true_and]
      by_cases h2 : course.all (rowB c) = true
      · have hrow : ∀ k, k < course.length → rowB c (course.getD k []) = true := fun k hk => List.all_eq_true.1 h2 _ (by rw [List.getD_eq_getElem?_getD, List.getElem?_eq_getElem hk]; exact List.getElem_mem hk)
        have hlen : ∀ k, k < course.length → (course.getD k []).length = c.fords.length := fun k hk => (rowB_iff.1 (hrow k hk)).1
        rw [h2, if_neg (by decide), Yu (by omega), Option.bind_some]
        have hfr : rowB c c.fords = true := rowB_iff.2 ⟨rfl, r.up, r.fcell⟩
        have key := iterM_find (f := zU course ⟨c.cells, c.tides, rchL c⟩ c) (fun j => ⟨(j : Int), (nowS c course j).after, (nowS c course j).at_.c0, (nowS c course j).at_.c1, (nowS c course j).at_.c2⟩) course.length (fun k => !((if k = 0 then decide (course.getD 0 [] = c.fords) else canB c.sands (course.getD (k - 1) []) (course.getD k [])) && agP (fun _ => true) c.sights (k : Int) (course.getD k []))) (fun _ => .inr ⟨false, 0⟩) (.inl ⟨(nowS c course course.length).after, (nowS c course course.length).at_.c0, (nowS c course course.length).at_.c1, (nowS c course course.length).at_.c2⟩) (fun k hk hb => ?_) ?_ (N := FU) (FU_lt (by omega))
        · rw [show (⟨0, 0, (mkCells c.fords).c0, (mkCells c.fords).c1, (mkCells c.fords).c2⟩ : m_branch_Fits_S0) = ⟨((0 : Nat) : Int), (nowS c course 0).after, (nowS c course 0).at_.c0, (nowS c course 0).at_.c1, (nowS c course 0).at_.c2⟩ from rfl, key, Option.bind_some]
          have e : (decide (course.getD 0 [] = c.fords) && (List.range course.length).all (okAt (fun _ => true) c course)) = !((List.range course.length).any fun k => !((if k = 0 then decide (course.getD 0 [] = c.fords) else canB c.sands (course.getD (k - 1) []) (course.getD k [])) && agP (fun _ => true) c.sights (k : Int) (course.getD k []))) := by
            rw [not_any_not, Bool.eq_iff_iff, Bool.and_eq_true, decide_eq_true_eq, List.all_eq_true, List.all_eq_true]
            constructor
            · rintro ⟨q1, q2⟩ k hk
              have hk' : k < course.length := by simpa using hk
              have q3 := q2 k hk
              unfold okAt at q3
              simp only [Bool.and_eq_true, Bool.or_eq_true, decide_eq_true_eq] at q3
              rw [Bool.and_eq_true]
              refine ⟨?_, q3.2.2⟩
              by_cases h0 : k = 0
              · rw [if_pos h0]; simpa using q1
              · rw [if_neg h0]; exact q3.2.1.resolve_left h0
            · intro q
              have q0 := q 0 (by simp; omega)
              rw [if_pos rfl, Bool.and_eq_true, decide_eq_true_eq] at q0
              refine ⟨q0.1, fun k hk => ?_⟩
              have hk' : k < course.length := by simpa using hk
              have q1 := q k hk
              unfold okAt
              rw [hrow k hk', Bool.true_and]
              by_cases h0 : k = 0
              · rw [if_pos h0, Bool.and_eq_true] at q1
                rw [decide_eq_true h0, Bool.true_or, Bool.true_and]
                exact q1.2
              · rw [if_neg h0] at q1
                rw [decide_eq_false h0, Bool.false_or]
                exact q1
          rw [e]
          cases hq : (List.range course.length).find? (fun k => !((if k = 0 then decide (course.getD 0 [] = c.fords) else canB c.sands (course.getD (k - 1) []) (course.getD k [])) && agP (fun _ => true) c.sights (k : Int) (course.getD k []))) with
          | none =>
            have : (List.range course.length).any (fun k => !((if k = 0 then decide (course.getD 0 [] = c.fords) else canB c.sands (course.getD (k - 1) []) (course.getD k [])) && agP (fun _ => true) c.sights (k : Int) (course.getD k []))) = false := by
              rw [List.any_eq_false]; intro x hx; exact List.find?_eq_none.1 hq x hx
            rw [this]; rfl
          | some k =>
            have h3 := List.find?_some hq
            have : (List.range course.length).any (fun k => !((if k = 0 then decide (course.getD 0 [] = c.fords) else canB c.sands (course.getD (k - 1) []) (course.getD k [])) && agP (fun _ => true) c.sights (k : Int) (course.getD k []))) = true := List.any_eq_true.2 ⟨k, List.mem_of_find?_eq_some hq, h3⟩
            rw [this]; rfl
        · unfold zU
          simp only
          rw [if_pos (by omega), ix_nat [] hk, Option.bind_some, Zp (by rw [hlen k hk]; omega), Option.bind_some]
          have hag : ((zJ).bind fun t73 => (qt c.cells c.tides c.fords c.sands c.sights (rchL c) (⟨(k : Int), mkCells (course.getD k [])⟩ : State)).bind fun t75 => some (!t75)) = some (!agP (fun _ => true) c.sights (k : Int) (course.getD k [])) := by
            unfold zJ
            rw [Option.bind_some, Zx (by omega) (by omega), Option.bind_some]
            simp only
            rw [show clS c.fords.length ⟨(k : Int), mkCells (course.getD k [])⟩ = course.getD k [] by rw [← hlen k hk]; exact clS_mk (by rw [hlen k hk]; omega)]
          rw [hag]
          have hnow : (⟨((k + 1 : Nat) : Int), (nowS c course (k + 1)).after, (nowS c course (k + 1)).at_.c0, (nowS c course (k + 1)).at_.c1, (nowS c course (k + 1)).at_.c2⟩ : m_branch_Fits_S0) = ⟨(k : Int) + 1, (k : Int), (mkCells (course.getD k [])).c0, (mkCells (course.getD k [])).c1, (mkCells (course.getD k [])).c2⟩ := by
            unfold nowS
            rw [if_neg (by omega)]
            simp only [Nat.add_sub_cancel, m_branch_Fits_S0.mk.injEq, and_true]
            push_cast
            omega
          by_cases h0 : k = 0
          · subst h0
            rw [if_pos (by omega), Option.bind_some, if_neg (by omega), Option.bind_some, if_pos rfl]
            have e2 : decide ((⟨((0 : Nat) : Int), mkCells (course.getD 0 [])⟩ : State) = ⟨(nowS c course 0).after, (⟨(nowS c course 0).at_.c0, (nowS c course 0).at_.c1, (nowS c course 0).at_.c2⟩ : Cells)⟩) = decide (course.getD 0 [] = c.fords) := by
              rw [Bool.eq_iff_iff, decide_eq_true_eq, decide_eq_true_eq]
              unfold nowS
              rw [if_pos rfl]
              constructor
              · intro hq
                injection hq with _ hq
                exact mkCells_inj (hlen 0 hk) (by rw [hlen 0 hk]; omega) hq
              · intro hq; rw [hq]; rfl
            rw [e2, addc_eq (by omega), Option.bind_some, not_true_if]
            cases decide (course.getD 0 [] = c.fords) with
            | false => rfl
            | true =>
              rw [if_pos rfl, Option.bind_some, Bool.true_and]
              cases agP (fun _ => true) c.sights ((0 : Nat) : Int) (course.getD 0 []) with
              | false => rfl
              | true =>
                simp only [Bool.not_true, Bool.false_eq_true, if_false]
                rw [hnow]
          · have hpr := hrow (k - 1) (by omega)
            have hnx : (⟨(nowS c course k).after, (⟨(nowS c course k).at_.c0, (nowS c course k).at_.c1, (nowS c course k).at_.c2⟩ : Cells)⟩ : State) = ⟨(k : Int) - 1, mkCells (course.getD (k - 1) [])⟩ := by
              unfold nowS
              rw [if_neg h0]
            rw [if_neg (by omega), Option.bind_some, if_pos (by omega), hnx]
            unfold km
            rw [Option.bind_some, if_pos (nextOK_of r hpr (by omega)), iterL_or (fun x : State => decide (x.at_ = mkCells (course.getD k []))) (f := KX (mkCells (course.getD k []))) (fun x s => rfl), Option.bind_some, Option.bind_some, Bool.false_or, next_any r hpr (hrow k hk), if_neg h0, addc_eq (by omega), Option.bind_some, not_true_if]
            cases canB c.sands (course.getD (k - 1) []) (course.getD k []) with
            | false => rfl
            | true =>
              rw [if_pos rfl, Option.bind_some, Bool.true_and]
              cases agP (fun _ => true) c.sights (k : Int) (course.getD k []) with
              | false => rfl
              | true =>
                simp only [Bool.not_true, Bool.false_eq_true, if_false]
                rw [hnow]
        · unfold zU
          simp only
          rw [if_neg (by omega)]
      · have h3 : course.all (rowB c) = false := by simpa using h2
        rw [h3, if_pos (by decide)]
        congr 2
        symm
        rw [Bool.and_eq_false_iff]
        right
        rw [List.all_eq_false] at h3
        obtain ⟨l, hl', hb⟩ := h3
        obtain ⟨k, hk', rfl⟩ := List.getElem_of_mem hl'
        rw [List.all_eq_false]
        refine ⟨k, by simpa using hk', ?_⟩
        unfold okAt
        have e : course.getD k [] = course[k] := by simp [List.getD_eq_getElem?_getD, hk']
        rw [e]
        simp [hb]
    · rw [if_neg h1, Option.bind_some, if_pos rfl, decide_eq_false h1, Bool.false_and]
  · rw [if_neg hk, if_neg hk, oc_inl]
end Go.Proofs.Wb

namespace Go.Gx
open Go
theorem afind_none {α β : Type} [DecidableEq α] : ∀ {l : List (α × β)} {k : α} {i : Nat}, afind l k i = none ↔ ∀ p, p ∈ l → p.1 ≠ k
  | [], k, i => by simp [afind]
  | (k', v') :: r, k, i => by
    unfold afind
    by_cases h : k = k'
    · rw [if_pos h]
      constructor
      · intro h2; cases h2
      · intro h2; exact absurd h.symm (h2 (k', v') (by simp))
    · rw [if_neg h, afind_none]
      constructor
      · intro h2 p hp
        rcases List.mem_cons.1 hp with rfl | hp
        · exact fun e => h e.symm
        · exact h2 p hp
      · intro h2 p hp; exact h2 p (List.mem_cons_of_mem _ hp)
theorem aget_val {α β : Type} [DecidableEq α] : ∀ {l : List (α × β)} {k : α} {i : Nat}, (afind l k i).map (·.2) = (l.find? fun p => decide (p.1 = k)).map (·.2)
  | [], k, i => rfl
  | (k', v') :: r, k, i => by
    unfold afind
    by_cases h : k = k'
    · rw [if_pos h, List.find?_cons, decide_eq_true h.symm]; rfl
    · rw [if_neg h, aget_val (i := i + 1), List.find?_cons, decide_eq_false (fun e => h e.symm)]
theorem find_modify {α β : Type} [DecidableEq α] (v : β) (k x : α) : ∀ {l : List (α × β)} {i j : Nat} {v0 : β}, afind l k j = some (i, v0) → ((l.modify (i - j) (fun p => (p.1, v))).find? fun p => decide (p.1 = x)).map (·.2) = if x = k then some v else (l.find? fun p => decide (p.1 = x)).map (·.2)
  | [], i, j, v0, h => by cases h
  | (k', v') :: r, i, j, v0, h => by
    unfold afind at h
    by_cases hk : k = k'
    · rw [if_pos hk] at h
      cases h
      rw [Nat.sub_self, List.modify_zero_cons, List.find?_cons, List.find?_cons]
      subst hk
      by_cases hx : k = x
      · rw [decide_eq_true hx, if_pos hx.symm]; rfl
      · rw [decide_eq_false hx, if_neg (fun e => hx e.symm)]
    · rw [if_neg hk] at h
      have hle := (afind_some h).1
      have e : i - j = (i - (j + 1)) + 1 := by omega
      rw [e, List.modify_succ_cons, List.find?_cons, List.find?_cons]
      have ih := find_modify v k x h
      by_cases hx : k' = x
      · rw [decide_eq_true hx, if_neg (fun e => hk (by rw [← e, hx]))]
      · rw [decide_eq_false hx]; exact ih
theorem aget_aset {α β : Type} [DecidableEq α] (l : List (α × β)) (k x : α) (v : β) : aget (aset l k v) x = if x = k then some v else aget l x := by
  unfold aget aset
  rw [aget_val, aget_val]
  cases h : afind l k 0 with
  | none =>
    simp only
    rw [List.find?_append]
    by_cases hx : x = k
    · subst hx
      have : (l.find? fun p => decide (p.1 = x)) = none := by
        rw [List.find?_eq_none]
        intro p hp
        simpa using afind_none.1 h p hp
      rw [this, if_pos rfl]
      simp
    · rw [if_neg hx]
      have : (List.find? (fun p : α × β => decide (p.1 = x)) [(k, v)]) = none := by
        rw [List.find?_cons, decide_eq_false (fun e => hx e.symm)]; rfl
      rw [this, Option.or_none]
  | some p =>
    obtain ⟨i, v0⟩ := p
    exact find_modify v k x h
end Go.Gx
namespace Go.Proofs.Wb
open Go Go.Fw Go.Gx Go.Sb
set_option linter.unusedVariables false
abbrev ML := List (State × Int)
def fR (M : State → ML → Option (Int × ML)) (x : State) (p : Int × ML) : Option (Int × ML) := (M x p.2).bind fun q => (addc p.1 q.1).bind fun t => some (t, q.2)
structure RestEq (M : Nat → State → ML → Option (Int × ML)) (V : State → Prop) (ag : State → Bool) (nx : State → List State) (T : Int) : Prop where
  eq : ∀ fu s ml, V s → M (fu + 1) s ml = if (aget ml s).isSome = true then some ((aget ml s).getD 0, ml) else if ag s = true then (if s.after = T then some (1, aset ml s 1) else (iterL (fR (M fu)) (nx s) (0, ml)).bind fun p => some (p.1, aset p.2 s p.1)) else some (0, aset ml s 0)
  nxV : ∀ s t, V s → s.after < T → t ∈ nx s → V t ∧ t.after = s.after + 1
  le : ∀ s, V s → s.after ≤ T
  len : ∀ s, (nx s).length ≤ 1000
theorem sum_le {α : Type} (f : α → Nat) (B : Nat) : ∀ (l : List α), (∀ x ∈ l, f x ≤ B) → (l.map f).sum ≤ l.length * B
  | [], _ => by simp
  | x :: l, h => by
    rw [List.map_cons, List.sum_cons, List.length_cons, Nat.succ_mul]
    have h1 := h x List.mem_cons_self
    have h2 := sum_le f B l (fun y hy => h y (List.mem_cons_of_mem _ hy))
    omega
theorem R_le {nx : State → List State} {ag : State → Bool} (h : ∀ s, (nx s).length ≤ 1000) : ∀ k s, R nx ag k s ≤ 1000 ^ k
  | 0, s => by rw [R]; split <;> simp
  | k + 1, s => by
    rw [R]
    split
    · have h1 := sum_le (R nx ag k) (1000 ^ k) (nx s) (fun x _ => R_le h k x)
      have h2 := Nat.mul_le_mul_right (1000 ^ k) (h s)
      rw [Nat.pow_succ, Nat.mul_comm]
      omega
    · exact Nat.zero_le _
section
variable {nx : State → List State} {ag : State → Bool} {T : Int}
def valR (nx : State → List State) (ag : State → Bool) (T : Int) (s : State) : Int := (R nx ag (T - s.after).toNat s : Nat)
def Sound (nx : State → List State) (ag : State → Bool) (T : Int) (ml : ML) : Prop := ∀ x v, aget ml x = some v → v = valR nx ag T x
def Closed (nx : State → List State) (ag : State → Bool) (T : Int) (ml : ML) : Prop := ∀ x, (aget ml x).isSome = true → ag x = true → x.after < T → ∀ t ∈ nx x, (aget ml t).isSome = true
def Grows (ml ml' : ML) : Prop := ∀ x, (aget ml x).isSome = true → (aget ml' x).isSome = true
theorem Grows.trans {a b c : ML} (h : Grows a b) (h' : Grows b c) : Grows a c := fun x hx => h' x (h x hx)
theorem Sound.set {ml : ML} (h : Sound nx ag T ml) {s : State} {v : Int} (hv : v = valR nx ag T s) : Sound nx ag T (aset ml s v) := by
  intro x w hx
  rw [aget_aset] at hx
  split at hx
  · rename_i e; subst e; rw [← Option.some.inj hx]; exact hv
  · exact h x w hx
theorem Grows.set (ml : ML) (s : State) (v : Int) : Grows ml (aset ml s v) := by
  intro x hx
  rw [aget_aset]
  split
  · rfl
  · exact hx
theorem Closed.set {ml : ML} (h : Closed nx ag T ml) {s : State} {v : Int} (hs : ag s = true → s.after < T → ∀ t ∈ nx s, (aget ml t).isSome = true) : Closed nx ag T (aset ml s v) := by
  intro x hx ha hl t ht
  by_cases e : x = s
  · subst e; exact Grows.set ml x v t (hs ha hl t ht)
  · rw [aget_aset, if_neg e] at hx
    exact Grows.set ml s v t (h x hx ha hl t ht)
def Good (nx : State → List State) (ag : State → Bool) (T : Int) (ml : ML) (s : State) (r : Option (Int × ML)) : Prop := ∃ ml', r = some (valR nx ag T s, ml') ∧ Sound nx ag T ml' ∧ Closed nx ag T ml' ∧ Grows ml ml' ∧ (aget ml' s).isSome = true
theorem rest_loop {M : State → ML → Option (Int × ML)} : ∀ (l : List State) (n : Int) (ml : ML), (∀ x ∈ l, ∀ ml, Sound nx ag T ml → Closed nx ag T ml → Good nx ag T ml x (M x ml)) → 0 ≤ n → n + ((l.length : Nat) : Int) * 1000000000000 ≤ 1000000000000000 → (∀ x ∈ l, valR nx ag T x ≤ 1000000000000) → Sound nx ag T ml → Closed nx ag T ml →
    ∃ ml', iterL (fR M) l (n, ml) = some (n + ((l.map fun x => R nx ag (T - x.after).toNat x).sum : Nat), ml') ∧ Sound nx ag T ml' ∧ Closed nx ag T ml' ∧ Grows ml ml' ∧ ∀ x ∈ l, (aget ml' x).isSome = true
  | [], n, ml, _, _, _, _, hS, hC => ⟨ml, by simp [iterL], hS, hC, fun _ h => h, fun x hx => by cases hx⟩
  | x :: l, n, ml, hM, h0, hb, hv, hS, hC => by
    obtain ⟨m1, e1, s1, c1, g1, i1⟩ := hM x List.mem_cons_self ml hS hC
    have hx := hv x List.mem_cons_self
    have hx0 : 0 ≤ valR nx ag T x := Int.natCast_nonneg _
    rw [List.length_cons] at hb
    obtain ⟨m2, e2, s2, c2, g2, i2⟩ := rest_loop l (n + valR nx ag T x) m1 (fun y hy => hM y (List.mem_cons_of_mem _ hy)) (by omega) (by push_cast at hb ⊢; omega) (fun y hy => hv y (List.mem_cons_of_mem _ hy)) s1 c1
    refine ⟨m2, ?_, s2, c2, g1.trans g2, fun y hy => ?_⟩
    · rw [iterL]
      unfold fR
      simp only
      rw [e1, Option.bind_some, addc_eq (by push_cast at hb; omega), Option.bind_some, Option.bind_some]
      have := e2
      unfold fR at this
      rw [this, List.map_cons, List.sum_cons]
      unfold valR
      push_cast
      rw [Int.add_assoc]
    · rcases List.mem_cons.1 hy with rfl | hy
      · exact g2 _ i1
      · exact i2 y hy
theorem rest_spec {M : Nat → State → ML → Option (Int × ML)} {V : State → Prop} (h : RestEq M V ag nx T) (hT : 0 ≤ T ∧ T ≤ 4) : ∀ (k : Nat) (fu : Nat) (s : State) (ml : ML), V s → 0 ≤ s.after → (T - s.after).toNat = k → k < fu → Sound nx ag T ml → Closed nx ag T ml → Good nx ag T ml s (M fu s ml) := by
  intro k
  induction k with
  | zero =>
    intro fu s ml hV h0 hk hf hS hC
    obtain ⟨fu, rfl⟩ : ∃ f, fu = f + 1 := ⟨fu - 1, by omega⟩
    have hle := h.le s hV
    have hl : s.after = T := by omega
    rw [h.eq fu s ml hV]
    by_cases h1 : (aget ml s).isSome = true
    · rw [if_pos h1]
      obtain ⟨v, hv⟩ := Option.isSome_iff_exists.1 h1
      refine ⟨ml, ?_, hS, hC, fun _ h => h, h1⟩
      rw [hv, Option.getD_some, hS s v hv]
    · rw [if_neg h1]
      by_cases h2 : ag s = true
      · rw [if_pos h2, if_pos hl]
        have e : (1 : Int) = valR nx ag T s := by unfold valR; rw [hk, R, if_pos h2]; rfl
        refine ⟨_, ?_, hS.set e, hC.set (fun _ hlt => absurd hlt (by omega)), Grows.set _ _ _, by rw [aget_aset, if_pos rfl]; rfl⟩
        rw [← e]
      · rw [if_neg h2]
        have e : (0 : Int) = valR nx ag T s := by unfold valR; rw [hk, R, if_neg h2]; rfl
        refine ⟨_, ?_, hS.set e, hC.set (fun ha => absurd ha h2), Grows.set _ _ _, by rw [aget_aset, if_pos rfl]; rfl⟩
        rw [← e]
  | succ k ih =>
    intro fu s ml hV h0 hk hf hS hC
    obtain ⟨fu, rfl⟩ : ∃ f, fu = f + 1 := ⟨fu - 1, by omega⟩
    have hl : s.after < T := by omega
    rw [h.eq fu s ml hV]
    by_cases h1 : (aget ml s).isSome = true
    · rw [if_pos h1]
      obtain ⟨v, hv⟩ := Option.isSome_iff_exists.1 h1
      refine ⟨ml, ?_, hS, hC, fun _ h => h, h1⟩
      rw [hv, Option.getD_some, hS s v hv]
    · rw [if_neg h1]
      by_cases h2 : ag s = true
      · rw [if_pos h2, if_neg (by omega)]
        have hlen := h.len s
        have hmx : (1000 : Nat) ^ k ≤ 1000 ^ 4 := Nat.pow_le_pow_right (by omega) (by omega)
        obtain ⟨m2, e2, s2, c2, g2, i2⟩ := rest_loop (M := M fu) (nx s) 0 ml (fun x hx ml hS hC => by
            obtain ⟨v1, v2⟩ := h.nxV s x hV hl hx
            exact ih fu x ml v1 (by omega) (by omega) (by omega) hS hC) (by omega) (by omega) (fun x hx => by
            obtain ⟨v1, v2⟩ := h.nxV s x hV hl hx
            have e3 : (T - x.after).toNat = k := by omega
            unfold valR
            rw [e3]
            have := R_le (nx := nx) (ag := ag) h.len k x
            have : R nx ag k x ≤ 1000000000000 := by
              have e4 : (1000 : Nat) ^ 4 = 1000000000000 := by decide
              omega
            omega) hS hC
        have e : ((0 : Int) + (((nx s).map fun x => R nx ag (T - x.after).toNat x).sum : Nat)) = valR nx ag T s := by
          unfold valR
          rw [hk, R, if_pos h2, Int.zero_add]
          congr 2
          apply List.map_congr_left
          intro x hx
          obtain ⟨v1, v2⟩ := h.nxV s x hV hl hx
          rw [show (T - x.after).toNat = k by omega]
        rw [e2, Option.bind_some, e]
        exact ⟨_, rfl, s2.set rfl, c2.set (fun _ _ => i2), g2.trans (Grows.set _ _ _), by rw [aget_aset, if_pos rfl]; rfl⟩
      · rw [if_neg h2]
        have e : (0 : Int) = valR nx ag T s := by unfold valR; rw [hk, R, if_neg h2]; rfl
        refine ⟨_, ?_, hS.set e, hC.set (fun ha => absurd ha h2), Grows.set _ _ _, by rw [aget_aset, if_pos rfl]; rfl⟩
        rw [← e]
end
end Go.Proofs.Wb

namespace Go.Proofs.Wb
open Go Go.Fw Go.Gx Go.Sb
set_option linter.unusedVariables false
set_option maxRecDepth 100000
theorem iterL_pair {α σ τ : Type} (g : σ → τ) {f : α → σ → Option σ} {f' : α → τ → Option τ} (h : ∀ x s, (f x s).map g = f' x (g s)) : ∀ (l : List α) (s : σ), (iterL f l s).map g = iterL f' l (g s)
  | [], s => rfl
  | x :: l, s => by
    rw [iterL, iterL, ← h]
    cases f x s with
    | none => rfl
    | some s' => exact iterL_pair g h l s'
def VS (c : Channel) (s : State) : Prop := (∃ l, rowB c l = true ∧ s.at_ = mkCells l) ∧ 0 ≤ s.after ∧ s.after ≤ c.tides
def agS (cnt : Nat → Bool) (c : Channel) (s : State) : Bool := agP cnt c.sights s.after (clS c.fords.length s)
def nxS (c : Channel) (s : State) : List State := nextL c.cells (rchL c) (c.fords.length : Int) s
theorem putL_len {n : Nat} {reach : List Int} {a : Cells} : ∀ (m : Nat) (pre : List Int), (putL n reach a m pre).length ≤ n ^ m
  | 0, pre => by simp [putL]
  | m + 1, pre => by
    rw [putL, List.length_flatMap]
    have h := sum_le (fun x : Nat => (if okN reach a pre (x : Int) = true then putL n reach a m (pre ++ [(x : Int)]) else []).length) (n ^ m) (List.range n) (fun x _ => by
      split
      · exact putL_len m _
      · exact Nat.zero_le _)
    rw [List.length_range] at h
    rw [Nat.pow_succ, Nat.mul_comm]
    exact h
theorem nxS_len {c : Channel} (r : Right c) (s : State) : (nxS c s).length ≤ 1000 := by
  have hc := r.cells
  have hf := r.fords
  unfold nxS nextL
  rw [List.length_map]
  refine Nat.le_trans (putL_len _ _) ?_
  have h1 : c.cells.toNat ^ (c.fords.length : Int).toNat ≤ 10 ^ (c.fords.length : Int).toNat := Nat.pow_le_pow_left (by omega) _
  have h2 : 10 ^ (c.fords.length : Int).toNat ≤ 10 ^ 3 := Nat.pow_le_pow_right (by omega) (by omega)
  omega
theorem nxS_mem {c : Channel} (r : Right c) {s t : State} : t ∈ nxS c s ↔ ∃ l, CanS c.cells (rchL c) c.fords.length s.at_ l ∧ t = ⟨s.after + 1, mkCells l⟩ := by
  have hc := r.cells
  unfold nxS
  rw [mem_nextL (by omega), Int.toNat_natCast]
theorem row_of_can {c : Channel} {a : Cells} {l : List Int} (h : CanS c.cells (rchL c) c.fords.length a l) : rowB c l = true := by
  rw [rowB_iff]
  refine ⟨h.len, upB_ix.2 fun i hi => h.up i (by rw [← h.len]; exact hi), fun x hx => ?_⟩
  obtain ⟨i, hi, rfl⟩ := List.getElem_of_mem hx
  have := h.inC i (by rw [← h.len]; exact hi)
  simpa [List.getD_eq_getElem?_getD, hi] using this
theorem nxS_V {c : Channel} (r : Right c) {s t : State} (hs : VS c s) (hl : s.after < c.tides) (ht : t ∈ nxS c s) : VS c t ∧ t.after = s.after + 1 := by
  obtain ⟨l, h1, rfl⟩ := (nxS_mem r).1 ht
  obtain ⟨_, h2, h3⟩ := hs
  exact ⟨⟨⟨l, row_of_can h1, rfl⟩, by simp only; omega, by simp only; omega⟩, rfl⟩
theorem nxS_nodup {c : Channel} (r : Right c) (s : State) : (nxS c s).Nodup := nextL_nodup (by have := r.fords; omega)
theorem VS_next {c : Channel} (r : Right c) {s : State} (h : VS c s) : nextOK c.cells (rchL c) (c.fords.length : Int) s := by
  obtain ⟨⟨l, h1, h2⟩, h3, h4⟩ := h
  have ht := r.tides
  obtain ⟨k, a⟩ := s
  simp only at h2 h3 h4
  subst h2
  exact nextOK_of r h1 (by omega)
def MR (c : Channel) (fu : Nat) (s : State) (ml : ML) : Option (Int × ML) := (jI fu s ml c.cells c.tides c.fords c.sands c.sights (rchL c)).map fun q => (q.r0, q.a11)
theorem restEq_all {c : Channel} (r : Right c) : RestEq (MR c) (VS c) (agS (fun _ => true) c) (nxS c) c.tides where
  eq fu s ml hV := by
    have hf := r.fords
    have hs := r.sights
    unfold MR
    rw [jI]
    unfold yp
    by_cases h1 : (aget ml s).isSome = true
    · rw [if_pos h1, if_pos h1]; rfl
    · rw [if_neg h1, if_neg h1, Zx (by omega) (by omega), Option.bind_some, not_true_if]
      show _ = if agS (fun _ => true) c s = true then _ else _
      unfold agS
      by_cases h2 : agP (fun _ => true) c.sights s.after (clS c.fords.length s) = true
      · rw [if_pos h2, if_pos h2]
        by_cases h3 : s.after = c.tides
        · rw [if_pos h3, if_pos h3]; rfl
        · rw [if_neg h3, if_neg h3]
          unfold km
          rw [Option.bind_some, if_pos (VS_next r hV)]
          have hp := iterL_pair (fun q : kG => (q.n9, q.a11)) (f := qq (jI fu) c.cells c.tides c.fords c.sands c.sights (rchL c)) (f' := fR (MR c fu)) (fun x q => by
            unfold qq fR MR
            cases jI fu x q.a11 c.cells c.tides c.fords c.sands c.sights (rchL c) with
            | none => rfl
            | some q' =>
              simp only [Option.bind_some, Option.map_some]
              cases addc q.n9 q'.r0 <;> rfl) (nxS c s) ⟨0, ml⟩
          simp only at hp
          show _ = (iterL (fR (MR c fu)) (nxS c s) (0, ml)).bind _
          rw [← hp]
          unfold nxS
          cases iterL (qq (jI fu) c.cells c.tides c.fords c.sands c.sights (rchL c)) (nextL c.cells (rchL c) (c.fords.length : Int) s) ⟨0, ml⟩ <;> rfl
      · rw [if_neg h2, if_neg h2]; rfl
  nxV s t hs hl ht := nxS_V r hs hl ht
  le s hs := hs.2.2
  len s := nxS_len r s
def first (c : Channel) : State := ⟨0, mkCells c.fords⟩
theorem first_V {c : Channel} (r : Right c) : VS c (first c) := ⟨⟨c.fords, rowB_iff.2 ⟨rfl, r.up, r.fcell⟩, rfl⟩, Int.le_refl _, r.tides.1⟩
theorem jaC {c : Channel} (r : Right c) : ∃ ml, yh c.cells c.tides c.fords c.sands c.sights (rchL c) = some ml ∧ Sound (nxS c) (agS (fun _ => true) c) c.tides ml ∧ Closed (nxS c) (agS (fun _ => true) c) c.tides ml ∧ (aget ml (first c)).isSome = true := by
  have hf := r.fords
  have ht := r.tides
  unfold yh
  rw [Yu (by omega), Option.bind_some]
  obtain ⟨ml, e, s1, c1, _, i1⟩ := rest_spec (restEq_all r) ht (c.tides - (first c).after).toNat FU (first c) [] (first_V r) (Int.le_refl _) rfl (by unfold first FU; simp only; omega) (fun x v hx => by simp [aget, afind] at hx) (fun x hx => by simp [aget, afind] at hx)
  unfold MR at e
  rw [Option.map_eq_some_iff] at e
  obtain ⟨q, e1, e2⟩ := e
  simp only [Prod.mk.injEq] at e2
  refine ⟨ml, ?_, s1, c1, i1⟩
  show (jI FU (first c) [] c.cells c.tides c.fords c.sands c.sights (rchL c)).bind _ = _
  rw [e1, Option.bind_some, e2.2]
def cntS (cnt : Nat → Bool) (c : Channel) : Nat := R (nxS c) (agS cnt c) c.tides.toNat (first c)
end Go.Proofs.Wb

namespace Go.Proofs.Wb
open Go Go.Fw Go.Gx Go.Sb
set_option linter.unusedVariables false
set_option maxRecDepth 100000
def stepP (ml : ML) (p : List (State × Bool) × List State) (x : State) : List (State × Bool) × List State := if 0 < (aget ml x).getD 0 ∧ (aget p.1 x).getD false = false then (aset p.1 x true, p.2 ++ [x]) else p
theorem stepP_len (ml : ML) : ∀ (L : List State) (p : List (State × Bool) × List State), (L.foldl (stepP ml) p).2.length ≤ p.2.length + L.length
  | [], p => by simp
  | x :: L, p => by
    rw [List.foldl_cons, List.length_cons]
    have h := stepP_len ml L (stepP ml p x)
    have h2 : (stepP ml p x).2.length ≤ p.2.length + 1 := by
      unfold stepP
      split
      · simp
      · omega
    omega
theorem fit_F2 (ml : ML) : ∀ (L : List State) (p : List (State × Bool) × List State), p.2.length + L.length ≤ 3000000000000 → iterL (qM ml) L ⟨p.1, p.2⟩ = some ⟨(L.foldl (stepP ml) p).1, (L.foldl (stepP ml) p).2⟩
  | [], p, _ => rfl
  | x :: L, p, h => by
    rw [List.length_cons] at h
    rw [iterL, List.foldl_cons]
    have hs : qM ml x ⟨p.1, p.2⟩ = some ⟨(stepP ml p x).1, (stepP ml p x).2⟩ := by
      unfold qM stepP
      simp only
      by_cases h1 : 0 < (aget ml x).getD 0
      · rw [if_pos h1, Option.bind_some]
        by_cases h2 : (aget p.1 x).getD false = false
        · rw [if_pos (by simp [h2]), if_pos ⟨h1, h2⟩, appc_eq (by simp; omega)]
          rfl
        · rw [if_neg (by simpa using h2), if_neg (fun q => h2 q.2)]
      · rw [if_neg h1, Option.bind_some, if_neg (by decide), if_neg (fun q => h1 q.1)]
    have h2 : (stepP ml p x).2.length ≤ p.2.length + 1 := stepP_len ml [x] p
    rw [hs, Option.bind_some]
    exact fit_F2 ml L (stepP ml p x) (by omega)
def Met (p : List (State × Bool) × List State) : Prop := ∀ x, (aget p.1 x).getD false = decide (x ∈ p.2)
theorem stepP_met {ml : ML} {p : List (State × Bool) × List State} {x : State} (h : Met p) : Met (stepP ml p x) ∧ ∀ y, y ∈ (stepP ml p x).2 ↔ y ∈ p.2 ∨ (y = x ∧ 0 < (aget ml y).getD 0) := by
  unfold stepP
  by_cases h1 : 0 < (aget ml x).getD 0 ∧ (aget p.1 x).getD false = false
  · rw [if_pos h1]
    constructor
    · intro y
      simp only
      rw [aget_aset]
      by_cases e : y = x
      · rw [if_pos e]; simp [e]
      · rw [if_neg e, h y]; simp [e]
    · intro y
      simp only [List.mem_append, List.mem_singleton]
      constructor
      · rintro (h2 | rfl)
        · exact .inl h2
        · exact .inr ⟨rfl, h1.1⟩
      · rintro (h2 | ⟨rfl, _⟩)
        · exact .inl h2
        · exact .inr rfl
  · rw [if_neg h1]
    refine ⟨h, fun y => ⟨.inl, ?_⟩⟩
    rintro (h2 | ⟨rfl, h2⟩)
    · exact h2
    · have h3 : ¬ (aget p.1 y).getD false = false := fun q => h1 ⟨h2, q⟩
      rw [h y] at h3
      simpa using h3
theorem foldP_met {ml : ML} : ∀ (L : List State) (p : List (State × Bool) × List State), Met p → Met (L.foldl (stepP ml) p) ∧ ∀ y, y ∈ (L.foldl (stepP ml) p).2 ↔ y ∈ p.2 ∨ (y ∈ L ∧ 0 < (aget ml y).getD 0)
  | [], p, h => ⟨h, fun y => by simp⟩
  | x :: L, p, h => by
    obtain ⟨h1, h2⟩ := stepP_met (ml := ml) (x := x) h
    obtain ⟨h3, h4⟩ := foldP_met L _ h1
    refine ⟨h3, fun y => ?_⟩
    rw [List.foldl_cons, h4 y, h2 y, List.mem_cons]
    constructor
    · rintro ((h | ⟨h, q⟩) | ⟨h, q⟩)
      · exact .inl h
      · exact .inr ⟨.inl h, q⟩
      · exact .inr ⟨.inr h, q⟩
    · rintro (h | ⟨h | h, q⟩)
      · exact .inl (.inl h)
      · exact .inl (.inr ⟨h, q⟩)
      · exact .inr ⟨h, q⟩
def rowP (ml : ML) (nx : State → List State) (l : List State) : List State := ((l.flatMap nx).foldl (stepP ml) ([], [])).2
theorem mem_rowP {ml : ML} {nx : State → List State} {l : List State} {y : State} : y ∈ rowP ml nx l ↔ (∃ s ∈ l, y ∈ nx s) ∧ 0 < (aget ml y).getD 0 := by
  unfold rowP
  rw [(foldP_met (ml := ml) (l.flatMap nx) ([], []) (fun x => by simp [aget, afind])).2 y, List.mem_flatMap]
  simp
theorem flatMap_len {nx : State → List State} (h : ∀ s, (nx s).length ≤ 1000) (l : List State) : (l.flatMap nx).length ≤ l.length * 1000 := by
  rw [List.length_flatMap]
  exact sum_le (fun s => (nx s).length) 1000 l (fun x _ => h x)
theorem rowP_len {ml : ML} {nx : State → List State} (h : ∀ s, (nx s).length ≤ 1000) (l : List State) : (rowP ml nx l).length ≤ l.length * 1000 := by
  have := stepP_len ml (l.flatMap nx) ([], [])
  have := flatMap_len h l
  unfold rowP
  simp only [List.length_nil, Nat.zero_add] at *
  omega
theorem fit_L1 {c : Channel} (r : Right c) (ml : ML) {l : List State} (hl : l.length ≤ 1000000000) (hV : ∀ s ∈ l, VS c s) :
    ∃ met, iterM FU (k8 l c.cells c.tides c.fords c.sands c.sights (rchL c) ml) ⟨0, [], []⟩ = some ⟨met, rowP ml (nxS c) l⟩ := by
  refine ⟨((l.flatMap (nxS c)).foldl (stepP ml) ([], [])).1, ?_⟩
  have key := iterM_run (f := k8 l c.cells c.tides c.fords c.sands c.sights (rchL c) ml) (fun j => ⟨(j : Int), (((l.take j).flatMap (nxS c)).foldl (stepP ml) ([], [])).1, (((l.take j).flatMap (nxS c)).foldl (stepP ml) ([], [])).2⟩) l.length (b := ⟨((l.flatMap (nxS c)).foldl (stepP ml) ([], [])).1, ((l.flatMap (nxS c)).foldl (stepP ml) ([], [])).2⟩) (fun j hj => ?_) ?_ FU (FU_lt (by omega))
  · exact key
  · have e : l.take (j + 1) = l.take j ++ [l[j]] := by rw [List.take_append_getElem]
    have hx : l.getD j default = l[j] := by simp [List.getD_eq_getElem?_getD, hj]
    unfold k8 km
    simp only
    rw [if_pos (by omega), ix_nat default hj, Option.bind_some, hx, Option.bind_some, if_pos (VS_next r (hV _ (List.getElem_mem hj)))]
    have h1 := stepP_len ml ((l.take j).flatMap (nxS c)) ([], [])
    have h2 := flatMap_len (nxS_len r) (l.take j)
    have h3 := nxS_len r l[j]
    have h4 : (l.take j).length ≤ l.length := by rw [List.length_take]; omega
    have h5 := Nat.mul_le_mul_right 1000 h4
    have hf := fit_F2 ml (nxS c l[j]) (((l.take j).flatMap (nxS c)).foldl (stepP ml) ([], [])) (by simp only [List.length_nil, Nat.zero_add] at h1; omega)
    unfold nxS at hf
    unfold nxS
    rw [hf, Option.bind_some, addc_eq (by omega), Option.bind_some, e, List.flatMap_append, List.foldl_append]
    simp
  · unfold k8
    simp only
    rw [if_neg (by omega), List.take_length]
def lev (c : Channel) (ml : ML) : Nat → List State
  | 0 => [first c]
  | k + 1 => rowP ml (nxS c) (lev c ml k)
theorem lev_len {c : Channel} (r : Right c) (ml : ML) : ∀ k, (lev c ml k).length ≤ 1000 ^ k
  | 0 => by simp [lev]
  | k + 1 => by
    have h := rowP_len (ml := ml) (nxS_len r) (lev c ml k)
    have h2 := Nat.mul_le_mul_right 1000 (lev_len r ml k)
    rw [lev, Nat.pow_succ]
    omega
theorem lev_V {c : Channel} (r : Right c) (ml : ML) : ∀ k : Nat, (k : Int) ≤ c.tides → ∀ s ∈ lev c ml k, VS c s ∧ s.after = (k : Int)
  | 0, _, s, hs => by
    simp only [lev, List.mem_singleton] at hs
    subst hs
    exact ⟨first_V r, rfl⟩
  | k + 1, hk, s, hs => by
    obtain ⟨⟨u, hu, hn⟩, _⟩ := mem_rowP.1 hs
    obtain ⟨h1, h2⟩ := lev_V r ml k (by omega) u hu
    obtain ⟨h3, h4⟩ := nxS_V r h1 (by omega) hn
    exact ⟨h3, by omega⟩
theorem lev_on {c : Channel} (r : Right c) {ml : ML} (hS : Sound (nxS c) (agS (fun _ => true) c) c.tides ml) (hC : Closed (nxS c) (agS (fun _ => true) c) c.tides ml) (hi : (aget ml (first c)).isSome = true) (hp : 0 < cntS (fun _ => true) c) :
    ∀ k : Nat, (k : Int) ≤ c.tides → ∀ t, (t ∈ lev c ml k ↔ On (nxS c) (agS (fun _ => true) c) k c.tides.toNat (first c) t) ∧ (t ∈ lev c ml k → (aget ml t).isSome = true)
  | 0, _, t => by
    constructor
    · rw [lev, List.mem_singleton, on_zero]
      constructor
      · intro h; exact ⟨h, hp⟩
      · exact fun h => h.1
    · intro h
      rw [lev, List.mem_singleton] at h
      rw [h]; exact hi
  | k + 1, hk, t => by
    have ih := lev_on r hS hC hi hp k (by omega)
    have hsome : t ∈ lev c ml (k + 1) → (aget ml t).isSome = true := by
      intro h
      have h2 := (mem_rowP.1 h).2
      cases hq : aget ml t with
      | none => rw [hq] at h2; simp at h2
      | some v => rfl
    refine ⟨?_, hsome⟩
    rw [on_succ (by omega)]
    constructor
    · intro h
      obtain ⟨⟨u, hu, hn⟩, h2⟩ := mem_rowP.1 h
      obtain ⟨v1, v2⟩ := lev_V r ml k (by omega) u hu
      obtain ⟨v3, v4⟩ := nxS_V r v1 (by omega) hn
      refine ⟨u, (ih u).1.1 hu, hn, ?_⟩
      obtain ⟨v, hv⟩ := Option.isSome_iff_exists.1 (hsome h)
      have h3 := hS t v hv
      rw [hv, Option.getD_some, h3] at h2
      unfold valR at h2
      rw [show (c.tides - t.after).toNat = c.tides.toNat - k - 1 by omega] at h2
      omega
    · rintro ⟨u, hu, hn, h2⟩
      have hu' := (ih u).1.2 hu
      obtain ⟨v1, v2⟩ := lev_V r ml k (by omega) u hu'
      obtain ⟨v3, v4⟩ := nxS_V r v1 (by omega) hn
      have hag := R_ag (on_R (by omega) hu)
      have hst := hC u ((ih u).2 hu') hag (by omega) t hn
      obtain ⟨v, hv⟩ := Option.isSome_iff_exists.1 hst
      have h3 := hS t v hv
      refine mem_rowP.2 ⟨⟨u, hu', hn⟩, ?_⟩
      rw [hv, Option.getD_some, h3]
      unfold valR
      rw [show (c.tides - t.after).toNat = c.tides.toNat - k - 1 by omega]
      omega
structure Levs (c : Channel) (L : List (List State)) : Prop where
  len : (L.length : Int) = c.tides + 1
  mem : ∀ k : Nat, (k : Int) ≤ c.tides → ∀ t, t ∈ L.getD k [] ↔ On (nxS c) (agS (fun _ => true) c) k c.tides.toNat (first c) t
  val : ∀ k : Nat, (k : Int) ≤ c.tides → ∀ s ∈ L.getD k [], VS c s ∧ s.after = (k : Int)
  bnd : ∀ k : Nat, (k : Int) ≤ c.tides → (L.getD k []).length ≤ 1000000000000
theorem jah {c : Channel} (r : Right c) : ∃ L, yu c.cells c.tides c.fords c.sands c.sights (rchL c) = some (if cntS (fun _ => true) c = 0 then .inl () else .inr L) ∧ (cntS (fun _ => true) c ≠ 0 → Levs c L) := by
  have hf := r.fords
  have ht := r.tides
  obtain ⟨ml, e, s1, c1, i1⟩ := jaC r
  obtain ⟨v, hv⟩ := Option.isSome_iff_exists.1 i1
  have hv2 := s1 _ _ hv
  have hv3 : v = (cntS (fun _ => true) c : Int) := by
    rw [hv2]
    unfold valR cntS first
    simp
  refine ⟨(List.range (c.tides.toNat + 1)).map (lev c ml), ?_, ?_⟩
  · unfold yu zJ
    rw [Option.bind_some, e, Option.bind_some, Yu (by omega), Option.bind_some]
    show (if (aget ml (first c)).getD 0 = 0 then _ else _) = _
    rw [hv, Option.getD_some, hv3]
    by_cases h0 : cntS (fun _ => true) c = 0
    · rw [if_pos (by omega), if_pos h0]
    · rw [if_neg (by omega), if_neg h0, Option.bind_some]
      have key := iterM_run (f := qb c.tides c.cells c.fords c.sands c.sights (rchL c) ml) (fun j => ⟨(j : Int), (List.range (j + 1)).map (lev c ml)⟩) c.tides.toNat (b := (List.range (c.tides.toNat + 1)).map (lev c ml)) (fun j hj => ?_) ?_ FU (FU_lt (by omega))
      · show (iterM FU (qb c.tides c.cells c.fords c.sands c.sights (rchL c) ml) ⟨((0 : Nat) : Int), (List.range (0 + 1)).map (lev c ml)⟩).bind _ = _
        rw [key]; rfl
      · unfold qb
        simp only
        have hlen := lev_len r ml j
        have hpw : (1000 : Nat) ^ j ≤ 1000 ^ 3 := Nat.pow_le_pow_right (by omega) (by omega)
        have e3 : (1000 : Nat) ^ 3 = 1000000000 := by decide
        obtain ⟨met, hm⟩ := fit_L1 r ml (l := lev c ml j) (by omega) (fun s hs => (lev_V r ml j (by omega) s hs).1)
        rw [if_pos (by omega), range_ix (by omega), Option.bind_some, hm, Option.bind_some, appc_eq (by simp; omega), Option.bind_some, addc_eq (by omega), Option.bind_some, List.range_succ (n := j + 1), List.map_append]
        rfl
      · unfold qb
        simp only
        rw [if_neg (by omega)]
  · intro h0
    have hg : ∀ k : Nat, (k : Int) ≤ c.tides → ((List.range (c.tides.toNat + 1)).map (lev c ml)).getD k [] = lev c ml k := by
      intro k hk
      rw [List.getD_eq_getElem?_getD, List.getElem?_map, List.getElem?_range (by omega)]
      rfl
    refine ⟨by simp; omega, fun k hk t => ?_, fun k hk s hs => ?_, fun k hk => ?_⟩
    · rw [hg k hk]; exact (lev_on r s1 c1 i1 (by omega) k hk t).1
    · rw [hg k hk] at hs; exact lev_V r ml k hk s hs
    · rw [hg k hk]
      have := lev_len r ml k
      have hpw : (1000 : Nat) ^ k ≤ 1000 ^ 4 := Nat.pow_le_pow_right (by omega) (by omega)
      have e4 : (1000 : Nat) ^ 4 = 1000000000000 := by decide
      omega
theorem ZD {c : Channel} (h : Few c) : ∃ L, qX c = some (if chk c = 0 then (if cntS (fun _ => true) c = 0 then .inl 7 else .inr ⟨c.cells, c.tides, L, rchL c⟩) else .inl (chk c)) ∧ (chk c = 0 → cntS (fun _ => true) c ≠ 0 → Levs c L) := by
  unfold qX
  rw [ZA h, Option.bind_some]
  by_cases h0 : chk c = 0
  · have r := rightOf h0
    obtain ⟨L, e, hL⟩ := jah r
    refine ⟨L, ?_, fun _ h1 => hL h1⟩
    rw [if_pos h0, if_pos h0, oc_inr, e, Option.bind_some]
    by_cases h1 : cntS (fun _ => true) c = 0
    · rw [if_pos h1, if_pos h1, oc_inl]
    · rw [if_neg h1, if_neg h1, oc_inr, if_pos (by have := (hL h1).len; have := r.tides; omega)]
  · exact ⟨[], by rw [if_neg h0, if_neg h0, oc_inl], fun h => absurd h h0⟩
end Go.Proofs.Wb

namespace Go.Proofs.Wb
open Go Go.Fw Go.Gx Go.Sb
set_option linter.unusedVariables false
set_option maxRecDepth 100000
def sumN {α : Type} (l : List α) (f : α → Nat) : Nat := (l.map f).sum
theorem sumN_nil {α : Type} (f : α → Nat) : sumN [] f = 0 := rfl
theorem sumN_cons {α : Type} (x : α) (l : List α) (f : α → Nat) : sumN (x :: l) f = f x + sumN l f := by unfold sumN; rw [List.map_cons, List.sum_cons]
theorem sumN_congr {α : Type} {l : List α} {f g : α → Nat} (h : ∀ x ∈ l, f x = g x) : sumN l f = sumN l g := by unfold sumN; rw [List.map_congr_left h]
theorem sumN_zero {α : Type} {l : List α} {f : α → Nat} (h : ∀ x ∈ l, f x = 0) : sumN l f = 0 := by
  induction l with
  | nil => rfl
  | cons x l ih => rw [sumN_cons, h x List.mem_cons_self, ih (fun y hy => h y (List.mem_cons_of_mem _ hy))]
theorem sumN_add {α : Type} (l : List α) (f g : α → Nat) : sumN l (fun x => f x + g x) = sumN l f + sumN l g := by
  induction l with
  | nil => rfl
  | cons x l ih => rw [sumN_cons, sumN_cons, sumN_cons, ih]; omega
theorem sumN_mul {α : Type} (l : List α) (f : α → Nat) (k : Nat) : sumN l (fun x => f x * k) = sumN l f * k := by
  induction l with
  | nil => simp [sumN]
  | cons x l ih => rw [sumN_cons, sumN_cons, ih, Nat.add_mul]
theorem sumN_mul' {α : Type} (l : List α) (f : α → Nat) (k : Nat) : sumN l (fun x => k * f x) = k * sumN l f := by
  induction l with
  | nil => simp [sumN]
  | cons x l ih => rw [sumN_cons, sumN_cons, ih, Nat.mul_add]
theorem sumN_comm {α β : Type} (l : List α) (m : List β) (f : α → β → Nat) : sumN l (fun x => sumN m fun y => f x y) = sumN m fun y => sumN l fun x => f x y := by
  induction l with
  | nil => rw [sumN_nil, sumN_zero (fun y _ => sumN_nil _)]
  | cons x l ih =>
    rw [sumN_cons, ih, ← sumN_add]
    refine sumN_congr fun y _ => ?_
    rw [sumN_cons]
theorem sumN_pos {α : Type} {l : List α} {f : α → Nat} : 0 < sumN l f ↔ ∃ x ∈ l, 0 < f x := by
  induction l with
  | nil => simp [sumN]
  | cons x l ih =>
    rw [sumN_cons]
    constructor
    · intro h
      by_cases hx : 0 < f x
      · exact ⟨x, List.mem_cons_self, hx⟩
      · obtain ⟨y, hy, h2⟩ := ih.1 (by omega)
        exact ⟨y, List.mem_cons_of_mem _ hy, h2⟩
    · rintro ⟨y, hy, h⟩
      rcases List.mem_cons.1 hy with rfl | hy
      · omega
      · have := ih.2 ⟨y, hy, h⟩; omega
theorem sumN_perm {α : Type} {l m : List α} (h : l.Perm m) (f : α → Nat) : sumN l f = sumN m f := by
  unfold sumN
  exact (h.map f).sum_nat
theorem sumN_map {α β : Type} (l : List α) (g : α → β) (f : β → Nat) : sumN (l.map g) f = sumN l fun x => f (g x) := by unfold sumN; rw [List.map_map]; rfl
theorem sumN_filter {α : Type} (l : List α) (p : α → Bool) (f : α → Nat) : sumN (l.filter p) f = sumN l fun x => if p x = true then f x else 0 := by
  induction l with
  | nil => rfl
  | cons x l ih =>
    rw [List.filter_cons, sumN_cons, ← ih]
    split
    · rw [sumN_cons]
    · rw [Nat.zero_add]
theorem sumN_one {α : Type} [DecidableEq α] {l : List α} (hn : l.Nodup) {a : α} (ha : a ∈ l) (k : Nat) : sumN l (fun x => if x = a then k else 0) = k := by
  induction l with
  | nil => cases ha
  | cons x l ih =>
    obtain ⟨h1, h2⟩ := List.nodup_cons.1 hn
    rw [sumN_cons]
    by_cases hx : x = a
    · subst hx
      rw [if_pos rfl, sumN_zero (fun y hy => if_neg (fun e : y = x => h1 (e ▸ hy)))]
      rfl
    · rw [if_neg hx, ih h2 ((List.mem_cons.1 ha).resolve_left (fun e => hx e.symm)), Nat.zero_add]
def incL (below : Nat) : Nat → Nat → List (List Int)
  | 0, _ => [[]]
  | m + 1, fr => (List.range (below - fr)).flatMap fun d => (incL below m (fr + d + 1)).map (((fr + d : Nat) : Int) :: ·)
theorem mem_incL {below : Nat} : ∀ (m fr : Nat) (l : List Int), l ∈ incL below m fr ↔ l.length = m ∧ upB l = true ∧ ∀ x ∈ l, (fr : Int) ≤ x ∧ x < (below : Int)
  | 0, fr, l => by
    rw [incL, List.mem_singleton]
    constructor
    · rintro rfl; exact ⟨rfl, rfl, fun x hx => by cases hx⟩
    · rintro ⟨h, _⟩; exact List.length_eq_zero_iff.1 h
  | m + 1, fr, l => by
    rw [incL]
    simp only [List.mem_flatMap, List.mem_range, List.mem_map]
    constructor
    · rintro ⟨d, hd, v, hv, rfl⟩
      obtain ⟨h1, h2, h3⟩ := (mem_incL m _ v).1 hv
      refine ⟨by simp [h1], ?_, fun x hx => ?_⟩
      · rw [upB_iff, List.pairwise_cons]
        exact ⟨fun y hy => by have := h3 y hy; push_cast at this ⊢; omega, upB_iff.1 h2⟩
      · rcases List.mem_cons.1 hx with rfl | hx
        · push_cast; omega
        · have := h3 x hx; push_cast at this; omega
    · rintro ⟨h1, h2, h3⟩
      cases l with
      | nil => simp at h1
      | cons y v =>
        have hy := h3 y List.mem_cons_self
        obtain ⟨q1, q2⟩ := List.pairwise_cons.1 (upB_iff.1 h2)
        refine ⟨y.toNat - fr, by omega, v, (mem_incL m _ v).2 ⟨by simpa using h1, upB_iff.2 q2, fun x hx => ?_⟩, ?_⟩
        · have a := q1 x hx
          have b := h3 x (List.mem_cons_of_mem _ hx)
          push_cast
          omega
        · congr 1
          omega
theorem incL_nodup {below : Nat} : ∀ (m fr : Nat), (incL below m fr).Nodup
  | 0, fr => by simp [incL]
  | m + 1, fr => by
    rw [incL]
    refine nodup_flatMap' List.nodup_range (fun d _ => nodup_map' (incL_nodup m _) (fun a _ b _ h => by simpa using h)) ?_
    intro d _ e _ w h1 h2
    obtain ⟨v, _, rfl⟩ := List.mem_map.1 h1
    obtain ⟨v', _, he⟩ := List.mem_map.1 h2
    injection he with he _
    omega
def LL (c : Channel) : List (List Int) := incL c.cells.toNat c.fords.length 0
theorem mem_LL {c : Channel} (hc : 0 ≤ c.cells) {l : List Int} : l ∈ LL c ↔ rowB c l = true := by
  unfold LL
  rw [mem_incL, rowB_iff]
  constructor
  · rintro ⟨h1, h2, h3⟩; exact ⟨h1, h2, fun x hx => by have := h3 x hx; push_cast at this; omega⟩
  · rintro ⟨h1, h2, h3⟩; exact ⟨h1, h2, fun x hx => by have := h3 x hx; push_cast; omega⟩
theorem LL_nodup (c : Channel) : (LL c).Nodup := incL_nodup _ _
def stL (k : Nat) (l : List Int) : State := ⟨(k : Int), mkCells l⟩
theorem nxS_perm {c : Channel} (r : Right c) {k : Nat} {a : List Int} (ha : rowB c a = true) : (nxS c (stL k a)).Perm (((LL c).filter fun l => canB c.sands a l).map (stL (k + 1))) := by
  have hc := r.cells
  have hf := r.fords
  refine (List.perm_ext_iff_of_nodup (nxS_nodup r _) (nodup_map' ((LL_nodup c).filter _) (fun x hx y hy h => ?_))).2 (fun t => ?_)
  · have hx' := (rowB_iff.1 ((mem_LL (by omega)).1 (List.mem_filter.1 hx).1)).1
    have hy' := (rowB_iff.1 ((mem_LL (by omega)).1 (List.mem_filter.1 hy).1)).1
    simp only [stL, State.mk.injEq, true_and] at h
    exact mkCells_inj (by omega) (by omega) h
  · rw [nxS_mem r, List.mem_map]
    constructor
    · rintro ⟨l, h, rfl⟩
      have hr := row_of_can h
      exact ⟨l, List.mem_filter.2 ⟨(mem_LL (by omega)).2 hr, (can_iff r ha hr).2 h⟩, by simp [stL]⟩
    · rintro ⟨l, h, rfl⟩
      obtain ⟨h1, h2⟩ := List.mem_filter.1 h
      exact ⟨l, (can_iff r ha ((mem_LL (by omega)).1 h1)).1 h2, by simp [stL]⟩
def FcL (cnt : Nat → Bool) (c : Channel) : Nat → List Int → Nat
  | 0, l => if agP cnt c.sights 0 l = true ∧ l = c.fords then 1 else 0
  | k + 1, l => if agP cnt c.sights ((k + 1 : Nat) : Int) l = true then sumN (LL c) fun a => if canB c.sands a l = true then FcL cnt c k a else 0 else 0
theorem agS_stL {cnt : Nat → Bool} {c : Channel} (r : Right c) {k : Nat} {l : List Int} (h : rowB c l = true) : agS cnt c (stL k l) = agP cnt c.sights (k : Int) l := by
  have hf := r.fords
  have h1 := (rowB_iff.1 h).1
  unfold agS stL
  simp only
  rw [← h1, clS_mk (by omega)]
theorem R_stL {cnt : Nat → Bool} {c : Channel} (r : Right c) {j k : Nat} {a : List Int} (ha : rowB c a = true) : R (nxS c) (agS cnt c) (j + 1) (stL k a) = if agP cnt c.sights (k : Int) a = true then sumN (LL c) fun l => if canB c.sands a l = true then R (nxS c) (agS cnt c) j (stL (k + 1) l) else 0 else 0 := by
  rw [R, agS_stL r ha]
  by_cases h : agP cnt c.sights (k : Int) a = true
  · rw [if_pos h, if_pos h]
    show sumN (nxS c (stL k a)) _ = _
    rw [sumN_perm (nxS_perm r ha), sumN_map, sumN_filter]
  · rw [if_neg h, if_neg h]
theorem FcL_ag {cnt : Nat → Bool} {c : Channel} {k : Nat} {l : List Int} (h : ¬ agP cnt c.sights (k : Int) l = true) : FcL cnt c k l = 0 := by
  cases k with
  | zero => rw [FcL, if_neg (fun q => h q.1)]
  | succ k => rw [FcL, if_neg h]
theorem FcL_sum {cnt : Nat → Bool} {c : Channel} (r : Right c) : ∀ (k j : Nat), sumN (LL c) (fun l => FcL cnt c k l * R (nxS c) (agS cnt c) j (stL k l)) = R (nxS c) (agS cnt c) (k + j) (first c)
  | 0, j => by
    have hc := r.cells
    have hfr : rowB c c.fords = true := rowB_iff.2 ⟨rfl, r.up, r.fcell⟩
    have e : sumN (LL c) (fun l => FcL cnt c 0 l * R (nxS c) (agS cnt c) j (stL 0 l)) = sumN (LL c) (fun l => if l = c.fords then R (nxS c) (agS cnt c) j (first c) else 0) := by
      refine sumN_congr fun l hl => ?_
      by_cases h : l = c.fords
      · subst h
        rw [if_pos rfl, FcL]
        by_cases h2 : agP cnt c.sights 0 c.fords = true
        · rw [if_pos ⟨h2, rfl⟩, Nat.one_mul]; rfl
        · rw [if_neg (fun q => h2 q.1), Nat.zero_mul]
          have h3 : ¬ 0 < R (nxS c) (agS cnt c) j (first c) := fun q => by
            have := R_ag q
            rw [show first c = stL 0 c.fords from rfl, agS_stL r hfr] at this
            exact h2 this
          omega
      · rw [if_neg h, FcL, if_neg (fun q => h q.2), Nat.zero_mul]
    rw [e, sumN_one (LL_nodup c) ((mem_LL (by omega)).2 hfr), Nat.zero_add]
  | k + 1, j => by
    have hc := r.cells
    have ih := FcL_sum (cnt := cnt) r k (j + 1)
    rw [show k + 1 + j = k + (j + 1) by omega, ← ih]
    have e1 : sumN (LL c) (fun l => FcL cnt c (k + 1) l * R (nxS c) (agS cnt c) j (stL (k + 1) l)) = sumN (LL c) (fun l => sumN (LL c) fun a => (if canB c.sands a l = true then FcL cnt c k a else 0) * R (nxS c) (agS cnt c) j (stL (k + 1) l)) := by
      refine sumN_congr fun l hl => ?_
      rw [sumN_mul, FcL]
      by_cases h : agP cnt c.sights ((k + 1 : Nat) : Int) l = true
      · rw [if_pos h]
      · rw [if_neg h, Nat.zero_mul]
        have h3 : ¬ 0 < R (nxS c) (agS cnt c) j (stL (k + 1) l) := fun q => by
          have := R_ag q
          rw [agS_stL r ((mem_LL (by omega)).1 hl)] at this
          exact h this
        rw [Nat.eq_zero_of_not_pos h3, Nat.mul_zero]
    rw [e1, sumN_comm]
    refine sumN_congr fun a ha => ?_
    rw [R_stL r ((mem_LL (by omega)).1 ha)]
    by_cases h : agP cnt c.sights (k : Int) a = true
    · rw [if_pos h, ← sumN_mul']
      refine sumN_congr fun l _ => ?_
      split
      · rfl
      · rw [Nat.zero_mul, Nat.mul_zero]
    · rw [if_neg h, Nat.mul_zero]
      refine sumN_zero fun l _ => ?_
      rw [FcL_ag h]
      split <;> rw [Nat.zero_mul]
end Go.Proofs.Wb

namespace Go.Proofs.Wb
open Go Go.Fw Go.Gx Go.Sb
set_option linter.unusedVariables false
set_option maxRecDepth 100000
def li (c : Channel) (i : Nat) : List Int := (LL c).getD i []
theorem li_row {c : Channel} (r : Right c) {i : Nat} (h : i < (LL c).length) : rowB c (li c i) = true := by
  have hc := r.cells
  refine (mem_LL (by omega)).1 ?_
  unfold li
  rw [List.getD_eq_getElem?_getD, List.getElem?_eq_getElem h]
  exact List.getElem_mem h
end Go.Proofs.Wb

namespace Go.Proofs.Wb
open Go Go.Fw Go.Gx Go.Sb
set_option linter.unusedVariables false
set_option maxRecDepth 100000
abbrev tt : Nat → Bool := fun _ => true
def onB (c : Channel) (k : Nat) (l : List Int) : Bool := decide (0 < FcL tt c k l) && decide (0 < R (nxS c) (agS tt c) (c.tides.toNat - k) (stL k l))
theorem FcL_succ_pos {c : Channel} {k : Nat} {l : List Int} : 0 < FcL tt c (k + 1) l ↔ agP tt c.sights ((k + 1 : Nat) : Int) l = true ∧ ∃ a ∈ LL c, canB c.sands a l = true ∧ 0 < FcL tt c k a := by
  rw [FcL]
  by_cases h : agP tt c.sights ((k + 1 : Nat) : Int) l = true
  · rw [if_pos h, sumN_pos]
    constructor
    · rintro ⟨a, ha, h2⟩
      split at h2
      · rename_i hc; exact ⟨h, a, ha, hc, h2⟩
      · omega
    · rintro ⟨_, a, ha, hc, h2⟩
      exact ⟨a, ha, by rw [if_pos hc]; exact h2⟩
  · rw [if_neg h]
    constructor
    · intro q; omega
    · rintro ⟨q, _⟩; exact absurd q h
theorem FcL_pos_ag {c : Channel} {k : Nat} {l : List Int} (h : 0 < FcL tt c k l) : agP tt c.sights (k : Int) l = true := by
  cases hq : agP tt c.sights (k : Int) l with
  | true => rfl
  | false => rw [FcL_ag (by rw [hq]; decide)] at h; omega
theorem R_stL_pos {c : Channel} (r : Right c) {j k : Nat} {a : List Int} (ha : rowB c a = true) : 0 < R (nxS c) (agS tt c) (j + 1) (stL k a) ↔ agP tt c.sights (k : Int) a = true ∧ ∃ l ∈ LL c, canB c.sands a l = true ∧ 0 < R (nxS c) (agS tt c) j (stL (k + 1) l) := by
  rw [R_stL r ha]
  by_cases h : agP tt c.sights (k : Int) a = true
  · rw [if_pos h, sumN_pos]
    constructor
    · rintro ⟨l, hl, h2⟩
      split at h2
      · rename_i hc; exact ⟨h, l, hl, hc, h2⟩
      · omega
    · rintro ⟨_, l, hl, hc, h2⟩
      exact ⟨l, hl, by rw [if_pos hc]; exact h2⟩
  · rw [if_neg h]
    constructor
    · intro q; omega
    · rintro ⟨q, _⟩; exact absurd q h
theorem stL_of {c : Channel} (r : Right c) {s : State} {k : Nat} (h : VS c s) (hk : s.after = (k : Int)) : ∃ a ∈ LL c, s = stL k a := by
  have hc := r.cells
  obtain ⟨⟨l, h1, h2⟩, _⟩ := h
  obtain ⟨x, y⟩ := s
  simp only at hk h2
  exact ⟨l, (mem_LL (by omega)).2 h1, by rw [hk, h2]; rfl⟩
theorem mem_nx_stL {c : Channel} (r : Right c) {k : Nat} {a l : List Int} (ha : rowB c a = true) (hl : rowB c l = true) : stL (k + 1) l ∈ nxS c (stL k a) ↔ canB c.sands a l = true := by
  have hf := r.fords
  rw [nxS_mem r, can_iff r ha hl]
  constructor
  · rintro ⟨l', h, e⟩
    simp only [stL, State.mk.injEq] at e
    have := mkCells_inj (l := l) (m := l') (by rw [h.len]; exact (rowB_iff.1 hl).1) (by have := (rowB_iff.1 hl).1; omega) e.2
    rw [this]; exact h
  · intro h
    exact ⟨l, h, by simp [stL]⟩
theorem on_V {c : Channel} (r : Right c) : ∀ (k : Nat), (k : Int) ≤ c.tides → ∀ t, On (nxS c) (agS tt c) k c.tides.toNat (first c) t → VS c t ∧ t.after = (k : Int)
  | 0, _, t, h => by
    obtain ⟨rfl, _⟩ := on_zero.1 h
    exact ⟨first_V r, rfl⟩
  | k + 1, hk, t, h => by
    obtain ⟨u, h1, h2, _⟩ := (on_succ (by omega)).1 h
    obtain ⟨v1, v2⟩ := on_V r k (by omega) u h1
    obtain ⟨v3, v4⟩ := nxS_V r v1 (by omega) h2
    exact ⟨v3, by omega⟩
theorem on_iff {c : Channel} (r : Right c) : ∀ (k : Nat), (k : Int) ≤ c.tides → ∀ l, rowB c l = true → (On (nxS c) (agS tt c) k c.tides.toNat (first c) (stL k l) ↔ onB c k l = true)
  | 0, _, l, hl => by
    have hf := r.fords
    have h1 := (rowB_iff.1 hl).1
    unfold onB
    rw [on_zero, Bool.and_eq_true, decide_eq_true_eq, decide_eq_true_eq, FcL, Nat.sub_zero]
    constructor
    · rintro ⟨e, h2⟩
      have e2 : l = c.fords := by
        simp only [stL, first, State.mk.injEq] at e
        exact mkCells_inj (by omega) (by omega) e.2
      subst e2
      have hag := R_ag h2
      rw [show first c = stL 0 c.fords from rfl, agS_stL r hl] at hag
      exact ⟨by rw [if_pos ⟨hag, rfl⟩]; omega, h2⟩
    · rintro ⟨h2, h3⟩
      split at h2
      · rename_i q
        obtain ⟨_, q⟩ := q
        subst q
        exact ⟨rfl, h3⟩
      · omega
  | k + 1, hk, l, hl => by
    have hc := r.cells
    unfold onB
    rw [on_succ (by omega), Bool.and_eq_true, decide_eq_true_eq, decide_eq_true_eq, FcL_succ_pos, show c.tides.toNat - (k + 1) = c.tides.toNat - k - 1 by omega]
    constructor
    · rintro ⟨u, h1, h2, h3⟩
      obtain ⟨v1, v2⟩ := on_V r k (by omega) u h1
      obtain ⟨a, ha, rfl⟩ := stL_of r v1 v2
      have ha' := (mem_LL (by omega)).1 ha
      have h4 := (on_iff r k (by omega) a ha').1 h1
      unfold onB at h4
      rw [Bool.and_eq_true, decide_eq_true_eq] at h4
      have hag := R_ag h3
      rw [agS_stL r hl] at hag
      exact ⟨⟨hag, a, ha, (mem_nx_stL r ha' hl).1 h2, h4.1⟩, h3⟩
    · rintro ⟨⟨hag, a, ha, h1, h2⟩, h3⟩
      have ha' := (mem_LL (by omega)).1 ha
      refine ⟨stL k a, (on_iff r k (by omega) a ha').2 ?_, (mem_nx_stL r ha' hl).2 h1, h3⟩
      unfold onB
      rw [Bool.and_eq_true, decide_eq_true_eq, decide_eq_true_eq, show c.tides.toNat - k = (c.tides.toNat - k - 1) + 1 by omega, R_stL_pos r ha']
      exact ⟨h2, FcL_pos_ag h2, l, (mem_LL (by omega)).2 hl, h1, h3⟩
theorem onB_step {c : Channel} (r : Right c) {k : Nat} (hk : (k : Int) < c.tides) {a : List Int} (ha : rowB c a = true) (hp : 0 < FcL tt c k a) : onB c k a = (List.range (LL c).length).any fun b => onB c (k + 1) (li c b) && canB c.sands a (li c b) := by
  have hc := r.cells
  have hag := FcL_pos_ag hp
  rw [Bool.eq_iff_iff]
  unfold onB
  rw [Bool.and_eq_true, decide_eq_true_eq, decide_eq_true_eq, show c.tides.toNat - k = (c.tides.toNat - (k + 1)) + 1 by omega, R_stL_pos r ha, List.any_eq_true]
  constructor
  · rintro ⟨_, _, l, hl, h1, h2⟩
    obtain ⟨b, hb, e⟩ := List.getElem_of_mem hl
    have e2 : li c b = l := by unfold li; rw [← e]; simp [List.getD_eq_getElem?_getD, hb]
    refine ⟨b, by simpa using hb, ?_⟩
    rw [e2, Bool.and_eq_true, Bool.and_eq_true, decide_eq_true_eq, decide_eq_true_eq, FcL_succ_pos]
    have hag2 := R_ag h2
    rw [agS_stL r ((mem_LL (by omega)).1 hl)] at hag2
    exact ⟨⟨⟨hag2, a, (mem_LL (by omega)).2 ha, h1, hp⟩, h2⟩, h1⟩
  · rintro ⟨b, hb, h⟩
    have hb' : b < (LL c).length := by simpa using hb
    rw [Bool.and_eq_true, Bool.and_eq_true, decide_eq_true_eq, decide_eq_true_eq] at h
    exact ⟨hp, hag, li c b, (mem_LL (by omega)).2 (li_row r hb'), h.2, h.1.2⟩
end Go.Proofs.Wb

namespace Go.Proofs.Wb
open Go Go.Fw Go.Gx Go.Sb
set_option linter.unusedVariables false
set_option maxRecDepth 100000
theorem lev_iff {c : Channel} (r : Right c) {L : List (List State)} (hL : Levs c L) {k : Nat} (hk : (k : Int) ≤ c.tides) {s : State} : s ∈ L.getD k [] ↔ ∃ l ∈ LL c, s = stL k l ∧ onB c k l = true := by
  have hc := r.cells
  rw [hL.mem k hk]
  constructor
  · intro h
    obtain ⟨v1, v2⟩ := on_V r k hk s h
    obtain ⟨l, hl, rfl⟩ := stL_of r v1 v2
    exact ⟨l, hl, rfl, (on_iff r k hk l ((mem_LL (by omega)).1 hl)).1 h⟩
  · rintro ⟨l, hl, rfl, h⟩
    exact (on_iff r k hk l ((mem_LL (by omega)).1 hl)).2 h
theorem levs_ix {c : Channel} (r : Right c) {L : List (List State)} (hL : Levs c L) {k : Int} (h0 : 0 ≤ k) (hk : k ≤ c.tides) : ix L k = some (L.getD k.toNat []) := ix_eq [] h0 (by have := hL.len; omega)
end Go.Proofs.Wb

namespace Go.Proofs.Wb
open Go Go.Fw Go.Gx Go.Sb
set_option maxRecDepth 100000
theorem awake_true : y5 = some true := by decide +kernel
end Go.Proofs.Wb

namespace Go.Proofs.Wb
open Go Go.Fw Go.Gx Go.Sb
set_option linter.unusedVariables false
set_option maxRecDepth 100000
def WideP (c : Channel) : Prop := (10 < c.fords.length ∨ 10 < c.sands.length ∨ 14 < c.sights.length) ∨ c.fords.length = 3 ∨ (8 < c.cells ∧ c.cells ≤ 10)
instance (c : Channel) : Decidable (WideP c) := by unfold WideP; infer_instance
end Go.Proofs.Wb

namespace Go.Proofs.Wb
open Go Go.Fw Go.Gx Go.Sb
set_option linter.unusedVariables false
set_option maxRecDepth 100000
theorem cntS_sum {cnt : Nat → Bool} {c : Channel} (r : Right c) : cntS cnt c = sumN (LL c) (FcL cnt c c.tides.toNat) := by
  have hc := r.cells
  have h := FcL_sum (cnt := cnt) r c.tides.toNat 0
  unfold cntS
  rw [Nat.add_zero] at h
  rw [← h]
  refine sumN_congr fun l hl => ?_
  rw [R, agS_stL r ((mem_LL (by omega)).1 hl)]
  by_cases hag : agP cnt c.sights ((c.tides.toNat : Nat) : Int) l = true
  · rw [if_pos hag, Nat.mul_one]
  · rw [if_neg hag, Nat.mul_zero, FcL_ag hag]
end Go.Proofs.Wb

namespace Go.Proofs.Wb
open Go Go.Fw Go.Gx Go.Sb
set_option linter.unusedVariables false
set_option maxRecDepth 100000
theorem last_on {c : Channel} (r : Right c) (h : cntS tt c ≠ 0) : ∃ l ∈ LL c, onB c c.tides.toNat l = true := by
  have hc := r.cells
  rw [cntS_sum r] at h
  obtain ⟨l, hl, h2⟩ := sumN_pos.1 (Nat.pos_of_ne_zero h)
  refine ⟨l, hl, ?_⟩
  unfold onB
  rw [decide_eq_true h2, Nat.sub_self, R, agS_stL r ((mem_LL (by omega)).1 hl), if_pos (FcL_pos_ag h2)]
  rfl
theorem lev_ne {c : Channel} (r : Right c) {L : List (List State)} (hL : Levs c L) (h : cntS tt c ≠ 0) : L.getD c.tides.toNat [] ≠ [] := by
  have ht := r.tides
  obtain ⟨l, hl, ho⟩ := last_on r h
  have := (lev_iff r hL (show ((c.tides.toNat : Nat) : Int) ≤ c.tides by omega)).2 ⟨l, hl, rfl, ho⟩
  intro q
  rw [q] at this
  exact absurd this (by simp)
def foMin (d : Int) (l : List Int) : Int := l.foldl min d
def foMax (d : Int) (l : List Int) : Int := l.foldl max d
theorem foMin_spec (d : Int) : ∀ l : List Int, foMin d l ≤ d ∧ (∀ x ∈ l, foMin d l ≤ x) ∧ (foMin d l = d ∨ foMin d l ∈ l) := by
  intro l
  induction l generalizing d with
  | nil => exact ⟨Int.le_refl _, by simp, .inl rfl⟩
  | cons a l ih =>
    obtain ⟨h1, h2, h3⟩ := ih (min d a)
    have e : foMin d (a :: l) = foMin (min d a) l := rfl
    rw [e]
    refine ⟨by omega, fun x hx => ?_, ?_⟩
    · rcases List.mem_cons.1 hx with rfl | hx
      · omega
      · exact h2 x hx
    · rcases h3 with h3 | h3
      · rcases Int.le_total d a with h4 | h4
        · left; rw [h3, Int.min_eq_left h4]
        · right; rw [h3, Int.min_eq_right h4]; simp
      · right; exact List.mem_cons_of_mem _ h3
theorem foMax_spec (d : Int) : ∀ l : List Int, d ≤ foMax d l ∧ (∀ x ∈ l, x ≤ foMax d l) ∧ (foMax d l = d ∨ foMax d l ∈ l) := by
  intro l
  induction l generalizing d with
  | nil => exact ⟨Int.le_refl _, by simp, .inl rfl⟩
  | cons a l ih =>
    obtain ⟨h1, h2, h3⟩ := ih (max d a)
    have e : foMax d (a :: l) = foMax (max d a) l := rfl
    rw [e]
    refine ⟨by omega, fun x hx => ?_, ?_⟩
    · rcases List.mem_cons.1 hx with rfl | hx
      · omega
      · exact h2 x hx
    · rcases h3 with h3 | h3
      · rcases Int.le_total d a with h4 | h4
        · right; rw [h3, Int.max_eq_right h4]; simp
        · left; rw [h3, Int.max_eq_left h4]
      · right; exact List.mem_cons_of_mem _ h3
def loL (l : List Int) : Int := foMin (l.headD 0) l
def hiL (l : List Int) : Int := foMax (l.headD 0) l
theorem loL_spec {l : List Int} (h : l ≠ []) : (∀ x ∈ l, loL l ≤ x) ∧ loL l ∈ l := by
  obtain ⟨h1, h2, h3⟩ := foMin_spec (l.headD 0) l
  refine ⟨h2, ?_⟩
  rcases h3 with h3 | h3
  · unfold loL; rw [h3]
    cases l with
    | nil => exact absurd rfl h
    | cons a l => simp
  · exact h3
theorem hiL_spec {l : List Int} (h : l ≠ []) : (∀ x ∈ l, x ≤ hiL l) ∧ hiL l ∈ l := by
  obtain ⟨h1, h2, h3⟩ := foMax_spec (l.headD 0) l
  refine ⟨h2, ?_⟩
  rcases h3 with h3 | h3
  · unfold hiL; rw [h3]
    cases l with
    | nil => exact absurd rfl h
    | cons a l => simp
  · exact h3
theorem ja0 (n x : Int) : zX n [x] = some (min n x) := by
  unfold zX
  have key := iterM_run (f := Jv [x]) (fun j => ⟨if j = 0 then n else min n x, (j : Int)⟩) 1 (b := min n x) (fun j hj => ?_) ?_ FU (FU_lt (by omega))
  · show (iterM FU (Jv [x]) ⟨if (0 : Nat) = 0 then n else min n x, ((0 : Nat) : Int)⟩).bind _ = _
    rw [key]; rfl
  · obtain rfl : j = 0 := by omega
    rfl
  · rfl
end Go.Proofs.Wb

namespace Go.Proofs.Wb
open Go Go.Fw Go.Gx Go.Sb
set_option linter.unusedVariables false
set_option maxRecDepth 100000
def anL (c : Channel) (l : List Int) : Nat := ((List.range c.fords.length).filter fun i => decide (l.getD i (-1) ≠ c.fords.getD i 0)).length
def anS (c : Channel) (s : State) : Nat := ((List.range c.fords.length).filter fun i => decide (cGet s.at_ i ≠ c.fords.getD i 0)).length
theorem anS_stL {c : Channel} (hf : c.fords.length ≤ 3) (k : Nat) (l : List Int) : anS c (stL k l) = anL c l := by
  unfold anS anL
  congr 1
  refine List.filter_congr fun i hi => ?_
  have : i < c.fords.length := by simpa using hi
  rw [show cGet (stL k l).at_ i = l.getD i (-1) from cGet_mk (by omega)]
theorem filt_succ (p : Nat → Bool) (j : Nat) : ((List.range (j + 1)).filter p).length = ((List.range j).filter p).length + if p j = true then 1 else 0 := by
  rw [List.range_succ, List.filter_append, List.length_append]
  by_cases h : p j = true
  · rw [if_pos h]; simp [h]
  · rw [if_neg h]; simp [h]
theorem filt_le (p : Nat → Bool) (j : Nat) : ((List.range j).filter p).length ≤ j := by
  have := List.length_filter_le p (List.range j)
  rwa [List.length_range] at this
theorem ZR {c : Channel} (hf : c.fords.length ≤ 3) (s : State) : qz s c.cells c.tides c.fords c.sands c.sights = some (anS c s : Int) := by
  unfold qz
  have key := iterM_run (f := yA c.fords s) (fun i => ⟨((((List.range i).filter fun i => decide (cGet s.at_ i ≠ c.fords.getD i 0)).length : Nat) : Int), (i : Int)⟩) c.fords.length (b := (anS c s : Int)) (fun i hi => ?_) ?_ FU (FU_lt (by omega))
  · show (iterM FU (yA c.fords s) ⟨((((List.range 0).filter fun i => decide (cGet s.at_ i ≠ c.fords.getD i 0)).length : Nat) : Int), ((0 : Nat) : Int)⟩).bind _ = _
    rw [key]; rfl
  · have hb := filt_le (fun i => decide (cGet s.at_ i ≠ c.fords.getD i 0)) i
    unfold yA
    simp only
    rw [if_pos (by omega), ix_nat 0 hi, Option.bind_some, ix3 (by omega), Option.bind_some, filt_succ]
    by_cases hq : cGet s.at_ i = c.fords.getD i 0
    · rw [if_pos hq, if_neg (by simp only [decide_eq_true_eq]; exact fun q => q hq), Option.bind_some, addc_eq (by omega), Option.bind_some]; rfl
    · rw [if_neg hq, if_pos (by simp only [decide_eq_true_eq]; exact hq), addc_eq (by omega), Option.bind_some, Option.bind_some, addc_eq (by omega), Option.bind_some]; rfl
  · unfold yA
    simp only
    rw [if_neg (by omega)]
    rfl
def anewV (c : Channel) (l : List State) : List Int := l.map fun s => (anS c s : Int)
theorem anew_fold {c : Channel} (hf : c.fords.length ≤ 3) {l : List State} (hl : l.length ≤ 1000000000000) (hn : l ≠ []) : zC l c.cells c.tides c.fords c.sands c.sights = some ⟨loL (anewV c l), hiL (anewV c l)⟩ := by
  have hlen : 0 < l.length := List.length_pos_iff.2 hn
  have hx : ∀ j (hj : j < l.length), l.getD j default = l[j] := by intro j hj; simp [List.getD_eq_getElem?_getD, hj]
  have h0 := ZR hf l[0]
  have hd : (anewV c l).headD 0 = (anS c l[0] : Int) := by
    cases l with
    | nil => exact absurd rfl hn
    | cons a l => rfl
  unfold zC
  rw [ix_eq default (Int.le_refl 0) (by omega), Option.bind_some, Option.bind_some, show (0 : Int).toNat = 0 from rfl, hx 0 hlen]
  have h0' : qz (⟨l[0].after, (⟨l[0].at_.c0, l[0].at_.c1, l[0].at_.c2⟩ : Cells)⟩ : State) c.cells c.tides c.fords c.sands c.sights = _ := h0
  rw [h0', Option.bind_some, Option.bind_some, Option.bind_some]
  simp only
  have key := iterM_run (f := q5 l c.cells c.tides c.fords c.sands c.sights) (fun j => ⟨(j : Int), foMin (anS c l[0] : Int) (anewV c (l.take j)), foMax (anS c l[0] : Int) (anewV c (l.take j))⟩) l.length (b := ⟨loL (anewV c l), hiL (anewV c l)⟩) (fun j hj => ?_) ?_ FU (FU_lt2 (by omega))
  · show (iterM FU (q5 l c.cells c.tides c.fords c.sands c.sights) ⟨((0 : Nat) : Int), foMin (anS c l[0] : Int) (anewV c (l.take 0)), foMax (anS c l[0] : Int) (anewV c (l.take 0))⟩).bind _ = _
    rw [key]; rfl
  · have e : l.take (j + 1) = l.take j ++ [l[j]] := by rw [List.take_append_getElem]
    have hj' : qz (⟨l[j].after, (⟨l[j].at_.c0, l[j].at_.c1, l[j].at_.c2⟩ : Cells)⟩ : State) c.cells c.tides c.fords c.sands c.sights = _ := ZR hf l[j]
    unfold q5
    simp only
    rw [if_pos (by omega), ix_nat default hj, Option.bind_some, hx j hj, hj', Option.bind_some, ja0, Option.bind_some, Option.bind_some, Option.bind_some, addc_eq (by omega), Option.bind_some, e]
    have ea : anewV c (l.take j ++ [l[j]]) = anewV c (l.take j) ++ [(anS c l[j] : Int)] := by unfold anewV; rw [List.map_append]; rfl
    rw [ea]
    unfold foMin foMax
    rw [List.foldl_append, List.foldl_append]
    rfl
  · unfold q5
    simp only
    rw [if_neg (by omega), List.take_length]
    unfold loL hiL
    rw [hd]
def anewQ (c : Channel) : List Int := ((LL c).filter fun l => onB c c.tides.toNat l).map fun l => (anL c l : Int)
def anewC (c : Channel) : Span := ⟨foMin 9 (anewQ c), foMax (-1) (anewQ c)⟩
theorem anew_prog {c : Channel} (r : Right c) {L : List (List State)} (hL : Levs c L) (h : cntS tt c ≠ 0) : (⟨loL (anewV c (L.getD c.tides.toNat [])), hiL (anewV c (L.getD c.tides.toNat []))⟩ : Span) = anewC c := by
  have ht := r.tides
  have hf := r.fords
  have hn := lev_ne r hL h
  have hne : anewV c (L.getD c.tides.toNat []) ≠ [] := by unfold anewV; simpa using hn
  have hm : ∀ x, x ∈ anewV c (L.getD c.tides.toNat []) ↔ x ∈ anewQ c := by
    intro x
    unfold anewV anewQ
    rw [List.mem_map, List.mem_map]
    constructor
    · rintro ⟨s, hs, rfl⟩
      obtain ⟨l, hl, rfl, ho⟩ := (lev_iff r hL (by omega)).1 hs
      exact ⟨l, List.mem_filter.2 ⟨hl, ho⟩, by rw [anS_stL hf.2]⟩
    · rintro ⟨l, hl, rfl⟩
      obtain ⟨hl, ho⟩ := List.mem_filter.1 hl
      exact ⟨stL c.tides.toNat l, (lev_iff r hL (by omega)).2 ⟨l, hl, rfl, ho⟩, by rw [anS_stL hf.2]⟩
  have hb : ∀ x ∈ anewQ c, 0 ≤ x ∧ x ≤ 3 := by
    intro x hx
    unfold anewQ at hx
    obtain ⟨l, _, rfl⟩ := List.mem_map.1 hx
    have := filt_le (fun i => decide (l.getD i (-1) ≠ c.fords.getD i 0)) c.fords.length
    unfold anL
    omega
  obtain ⟨a1, a2⟩ := loL_spec hne
  obtain ⟨b1, b2⟩ := hiL_spec hne
  obtain ⟨c1, c2, c3⟩ := foMin_spec 9 (anewQ c)
  obtain ⟨d1, d2, d3⟩ := foMax_spec (-1) (anewQ c)
  have a3 := (hm _).1 a2
  have b3 := (hm _).1 b2
  have a4 := hb _ a3
  have b4 := hb _ b3
  have c4 := c2 _ a3
  have d4 := d2 _ b3
  have c5 : foMin 9 (anewQ c) ∈ anewQ c := by
    rcases c3 with h | h
    · omega
    · exact h
  have d5 : foMax (-1) (anewQ c) ∈ anewQ c := by
    rcases d3 with h | h
    · omega
    · exact h
  have a6 := a1 _ ((hm _).2 c5)
  have b6 := b1 _ ((hm _).2 d5)
  unfold anewC
  congr 1 <;> omega
theorem jaI {c : Channel} (h : Few c) : Kt c = some (if chk c = 0 then (if cntS tt c = 0 then ⟨⟨0, 0⟩, 7⟩ else ⟨anewC c, 0⟩) else ⟨⟨0, 0⟩, chk c⟩) := by
  unfold Kt
  obtain ⟨L, e, hL⟩ := ZD h
  rw [e, Option.bind_some]
  by_cases h0 : chk c = 0
  · have r := rightOf h0
    have hf := r.fords
    have ht := r.tides
    rw [if_pos h0, if_pos h0]
    by_cases h3 : cntS tt c = 0
    · rw [if_pos h3, if_pos h3, oc_inl]
    · rw [if_neg h3, if_neg h3, oc_inr]
      have hL' := hL h0 h3
      rw [levs_ix r hL' ht.1 (Int.le_refl _), Option.bind_some, anew_fold hf.2 (hL'.bnd _ (by omega)) (lev_ne r hL' h3), Option.bind_some, anew_prog r hL' h3]
  · rw [if_neg h0, if_neg h0, oc_inl]
end Go.Proofs.Wb

namespace Go.Proofs.Wb
open Go Go.Fw Go.Gx Go.Sb
set_option linter.unusedVariables false
set_option maxRecDepth 100000
theorem contains_loop2 {α : Type} {f : Int → Option (Int ⊕ (Unit ⊕ Int))} (l : List α) (d : α) (bad : α → Bool) (hl : l.length ≤ 1000000000000)
    (h : ∀ k : Nat, k < l.length → f (k : Int) = some (if bad (l.getD k d) = true then .inr (.inr (k : Int)) else .inl ((k : Int) + 1))) (he : f (l.length : Int) = some (.inr (.inl ()))) :
    (((iterM FU f 0).bind fun o => oc o (fun _ => (some (-1) : Option Int)) (fun r => some r)).bind fun t => some (decide (0 ≤ t))) = some (l.any bad) := by
  have key := iterM_any (f := f) 0 l.length (fun k => bad (l.getD k d)) (fun k => (k : Int)) (fun k hk => by
    have := h k hk
    rw [Int.zero_add]
    exact this) (by rw [Int.zero_add]; exact he) (N := FU) (FU_lt2 (by omega))
  rw [key]
  cases hf : (List.range l.length).find? (fun k => bad (l.getD k d)) with
  | none =>
    have : l.any bad = false := by
      rw [List.any_eq_false]
      intro x hx
      obtain ⟨i, hi, rfl⟩ := List.getElem_of_mem hx
      have h2 := List.find?_eq_none.1 hf i (by simpa using hi)
      simpa [List.getD_eq_getElem?_getD, hi] using h2
    rw [this]
    rfl
  | some k =>
    have h1 := List.find?_some hf
    have h2 : k < l.length := by simpa using List.mem_of_find?_eq_some hf
    have : l.any bad = true := by
      rw [List.any_eq_true]
      refine ⟨l[k], List.getElem_mem h2, ?_⟩
      simpa [List.getD_eq_getElem?_getD, h2] using h1
    rw [this, Option.bind_some, oc_inr, Option.bind_some, decide_eq_true (show (0 : Int) ≤ (k : Int) by omega)]
theorem ZI {l : List State} (hl : l.length ≤ 1000000000000) (v : State) : jV l v = some (decide (v ∈ l)) := by
  unfold jV kY
  rw [contains_loop2 (f := jX l v) l default (fun x => decide (v = x)) hl (fun k hk => ?_) ?_]
  · congr 1
    rw [Bool.eq_iff_iff, List.any_eq_true, decide_eq_true_eq]
    constructor
    · rintro ⟨x, hx, he⟩
      rw [decide_eq_true_eq] at he
      subst he; exact hx
    · intro h
      exact ⟨v, h, by simp⟩
  · unfold jX
    rw [if_neg (by omega)]
  · unfold jX
    rw [if_pos (by omega), ix_nat default hk, Option.bind_some]
    show (if v = l.getD k default then _ else _) = _
    by_cases h : v = l.getD k default
    · rw [if_pos h, if_pos (by simpa using h)]
    · rw [if_neg h, if_neg (by simpa using h), addc_eq (by omega), Option.bind_some]
def mvI (x y : Int) : Int := max (x - y) (y - x)
def sumI (f : Nat → Int) : Nat → Int
  | 0 => 0
  | n + 1 => sumI f n + f n
theorem sumI_bnd {f : Nat → Int} {B : Int} : ∀ n, (∀ i, i < n → 0 ≤ f i ∧ f i ≤ B) → 0 ≤ sumI f n ∧ sumI f n ≤ n * B
  | 0, _ => by simp [sumI]
  | n + 1, h => by
    have h1 := sumI_bnd n (fun i hi => h i (by omega))
    have h2 := h n (by omega)
    rw [sumI, show ((n + 1 : Nat) : Int) * B = n * B + B by rw [Int.natCast_add, Int.add_mul]; simp]
    omega
theorem sumI_congr {f g : Nat → Int} : ∀ n, (∀ i, i < n → f i = g i) → sumI f n = sumI g n
  | 0, _ => rfl
  | n + 1, h => by rw [sumI, sumI, sumI_congr n (fun i hi => h i (by omega)), h n (by omega)]
def movS (s t : State) : Int := sumI (fun i => mvI (cGet s.at_ i) (cGet t.at_ i)) 3
def movL (a b : List Int) : Int := sumI (fun i => mvI (a.getD i (-1)) (b.getD i (-1))) a.length
theorem movS_stL {a b : List Int} (h : a.length = b.length) (h3 : a.length ≤ 3) (j k : Nat) : movS (stL j a) (stL k b) = movL a b := by
  have e : ∀ i, i < 3 → (fun i => mvI (cGet (stL j a).at_ i) (cGet (stL k b).at_ i)) i = (fun i => mvI (a.getD i (-1)) (b.getD i (-1))) i := by
    intro i hi
    show mvI (cGet (mkCells a) i) (cGet (mkCells b) i) = _
    rw [cGet_mk hi, cGet_mk hi]
  unfold movS movL
  rw [sumI_congr 3 e]
  have z : ∀ i, a.length ≤ i → mvI (a.getD i (-1)) (b.getD i (-1)) = 0 := by
    intro i hi
    rw [List.getD_eq_getElem?_getD, List.getD_eq_getElem?_getD, List.getElem?_eq_none hi, List.getElem?_eq_none (by omega)]
    rfl
  have : a.length = 0 ∨ a.length = 1 ∨ a.length = 2 ∨ a.length = 3 := by omega
  rcases this with h | h | h | h <;> rw [h]
  · simp only [sumI, z 0 (by omega), z 1 (by omega), z 2 (by omega)]; rfl
  · simp only [sumI, z 1 (by omega), z 2 (by omega)]; omega
  · simp only [sumI, z 2 (by omega)]; omega
theorem VS_cell {c : Channel} (r : Right c) {s : State} (h : VS c s) {i : Nat} (hi : i < 3) : -1 ≤ cGet s.at_ i ∧ cGet s.at_ i ≤ 10 := by
  obtain ⟨⟨l, h1, h2⟩, _⟩ := h
  have hc := r.cells
  rw [h2, cGet_mk hi]
  by_cases hl : i < l.length
  · have := (rowB_iff.1 h1).2.2 _ (getD_mem (d := -1) hl)
    omega
  · rw [List.getD_eq_getElem?_getD, List.getElem?_eq_none (by omega)]
    simp
theorem movS_bnd {c : Channel} (r : Right c) {s t : State} (hs : VS c s) (ht : VS c t) : 0 ≤ movS s t ∧ movS s t ≤ 33 := by
  have := sumI_bnd (f := fun i => mvI (cGet s.at_ i) (cGet t.at_ i)) (B := 11) 3 (fun i hi => by
    have h1 := VS_cell r hs hi
    have h2 := VS_cell r ht hi
    unfold mvI
    omega)
  unfold movS
  omega
theorem jaF {c : Channel} (r : Right c) {s t : State} (hs : VS c s) (ht : VS c t) : J0 s t = some (movS s t) := by
  unfold J0
  have key := iterM_run (f := yW s t) (fun i => ⟨sumI (fun i => mvI (cGet s.at_ i) (cGet t.at_ i)) i, (i : Int)⟩) 3 (b := movS s t) (fun i hi => ?_) ?_ FU (FU_lt (by omega))
  · show (iterM FU (yW s t) ⟨sumI (fun i => mvI (cGet s.at_ i) (cGet t.at_ i)) 0, ((0 : Nat) : Int)⟩).bind _ = _
    rw [key]; rfl
  · have h1 := VS_cell r hs hi
    have h2 := VS_cell r ht hi
    have h3 := sumI_bnd (f := fun i => mvI (cGet s.at_ i) (cGet t.at_ i)) (B := 11) i (fun j hj => by
      have h1 := VS_cell r hs (show j < 3 by omega)
      have h2 := VS_cell r ht (show j < 3 by omega)
      unfold mvI
      omega)
    unfold yW
    simp only
    rw [if_pos (by omega), ix3 hi, Option.bind_some, ix3 hi, Option.bind_some, subc_eq (by omega), Option.bind_some, Option.bind_some, subc_eq (by omega), Option.bind_some, addc_eq (by omega), Option.bind_some, addc_eq (by omega), Option.bind_some]
    rfl
  · unfold yW
    simp only
    rw [if_neg (by omega)]
    rfl
def FV (few : List (State × Int)) (x : State) : Int := (aget few x).getD 0
def stepC (X : List State) (few : List (State × Int)) (s : State) (p : Int × List (State × State)) (x : State) : Int × List (State × State) := if x ∈ X then (if p.1 < 0 ∨ movS s x + FV few x < p.1 then (movS s x + FV few x, aset p.2 s x) else p) else p
theorem calm_F2 {c : Channel} (r : Right c) {L : List (List State)} {k : Nat} (X : List State) (hX : ix L ((k : Int) + 1) = some X) (hXl : X.length ≤ 1000000000000) (hk : k < 100) {s : State} (hs : VS c s) (S : q6) (hSk : S.k10 = (k : Int)) (S1 : zl) (hB : ∀ x ∈ X, VS c x ∧ 0 ≤ FV S1.t27 x ∧ FV S1.t27 x ≤ 1000) : ∀ (xs : List State) (p : Int × List (State × State)),
    iterL (zS S ⟨c.cells, c.tides, L, rchL c⟩ s S1) xs ⟨p.1, p.2⟩ = some ⟨(xs.foldl (stepC X S1.t27 s) p).1, (xs.foldl (stepC X S1.t27 s) p).2⟩
  | [], p => rfl
  | x :: xs, p => by
    rw [iterL, List.foldl_cons]
    have h1 : zS S ⟨c.cells, c.tides, L, rchL c⟩ s S1 x ⟨p.1, p.2⟩ = some ⟨(stepC X S1.t27 s p x).1, (stepC X S1.t27 s p x).2⟩ := by
      unfold zS stepC
      simp only
      rw [hSk, addc_eq (by omega), Option.bind_some, hX, Option.bind_some, ZI hXl, Option.bind_some, not_true_if]
      by_cases hx : x ∈ X
      · obtain ⟨b1, b2, b3⟩ := hB x hx
        have hm := movS_bnd r hs b1
        rw [if_pos (by simpa using hx), if_pos hx, jaF r hs b1, Option.bind_some]
        have e : (aget S1.t27 x).getD 0 = FV S1.t27 x := rfl
        rw [e, addc_eq (by omega), Option.bind_some]
        by_cases h0 : p.1 < 0
        · rw [if_pos h0, Option.bind_some, if_pos rfl, if_pos (.inl h0)]; rfl
        · rw [if_neg h0, Option.bind_some]
          by_cases h2 : movS s x + FV S1.t27 x < p.1
          · rw [if_pos (by simpa using h2), if_pos (.inr h2)]; rfl
          · rw [if_neg (by simpa using h2), if_neg (by rintro (q | q); exact h0 q; exact h2 q)]
      · rw [if_neg (by simpa using hx), if_neg hx]
    rw [h1, Option.bind_some]
    exact calm_F2 r X hX hXl hk hs S hSk S1 hB xs _
structure InvC (X : List State) (few : List (State × Int)) (s : State) (to0 : List (State × State)) (P : List State) (p : Int × List (State × State)) : Prop where
  same : ∀ t, t ≠ s → aget p.2 t = aget to0 t
  best : (p.1 = -1 ∧ ∀ y ∈ P, y ∉ X) ∨ (0 ≤ p.1 ∧ (∃ x ∈ P, x ∈ X ∧ aget p.2 s = some x ∧ p.1 = movS s x + FV few x) ∧ ∀ y ∈ P, y ∈ X → p.1 ≤ movS s y + FV few y)
theorem invC_step {X : List State} {few : List (State × Int)} {s : State} {to0 : List (State × State)} (hB : ∀ x ∈ X, 0 ≤ movS s x ∧ 0 ≤ FV few x) {P : List State} {p : Int × List (State × State)} (h : InvC X few s to0 P p) (x : State) : InvC X few s to0 (P ++ [x]) (stepC X few s p x) := by
  obtain ⟨h1, h2⟩ := h
  unfold stepC
  by_cases hx : x ∈ X
  · have hb := hB x hx
    rw [if_pos hx]
    by_cases h3 : p.1 < 0 ∨ movS s x + FV few x < p.1
    · rw [if_pos h3]
      refine ⟨fun t ht => ?_, .inr ⟨by simp only; omega, ⟨x, by simp, hx, ?_, rfl⟩, fun y hy hyX => ?_⟩⟩
      · simp only
        rw [aget_aset, if_neg ht]
        exact h1 t ht
      · simp only
        rw [aget_aset, if_pos rfl]
      · simp only
        rcases List.mem_append.1 hy with hy | hy
        · rcases h2 with ⟨_, h2⟩ | ⟨h4, _, h2⟩
          · exact absurd hyX (h2 y hy)
          · have := h2 y hy hyX
            rcases h3 with h3 | h3 <;> omega
        · rw [List.mem_singleton] at hy
          subst hy
          exact Int.le_refl _
    · rw [if_neg h3]
      refine ⟨h1, ?_⟩
      rcases h2 with ⟨h2, _⟩ | ⟨h4, ⟨z, hz, hzX, h5, h6⟩, h2⟩
      · exact absurd (.inl (by omega)) h3
      · refine .inr ⟨h4, ⟨z, List.mem_append_left _ hz, hzX, h5, h6⟩, fun y hy hyX => ?_⟩
        rcases List.mem_append.1 hy with hy | hy
        · exact h2 y hy hyX
        · rw [List.mem_singleton] at hy
          subst hy
          have : ¬ movS s y + FV few y < p.1 := fun q => h3 (.inr q)
          omega
  · rw [if_neg hx]
    refine ⟨h1, ?_⟩
    have hno : ∀ y ∈ P ++ [x], y ∈ X → y ∈ P := by
      intro y hy hyX
      rcases List.mem_append.1 hy with hy | hy
      · exact hy
      · rw [List.mem_singleton] at hy
        subst hy
        exact absurd hyX hx
    rcases h2 with ⟨h2, h3⟩ | ⟨h4, ⟨z, hz, hzX, h5, h6⟩, h2⟩
    · exact .inl ⟨h2, fun y hy hyX => h3 y (hno y hy hyX) hyX⟩
    · exact .inr ⟨h4, ⟨z, List.mem_append_left _ hz, hzX, h5, h6⟩, fun y hy hyX => h2 y (hno y hy hyX) hyX⟩
theorem invC_fold {X : List State} {few : List (State × Int)} {s : State} {to0 : List (State × State)} (hB : ∀ x ∈ X, 0 ≤ movS s x ∧ 0 ≤ FV few x) : ∀ (xs P : List State) (p : Int × List (State × State)), InvC X few s to0 P p → InvC X few s to0 (P ++ xs) (xs.foldl (stepC X few s) p)
  | [], P, p, h => by rw [List.append_nil]; exact h
  | x :: xs, P, p, h => by
    have := invC_fold hB xs (P ++ [x]) _ (invC_step hB h x)
    rw [List.append_assoc] at this
    exact this
def GoodC (c : Channel) (X : List State) (few : List (State × Int)) (to : List (State × State)) (s : State) : Prop := ∃ x, aget to s = some x ∧ x ∈ nxS c s ∧ x ∈ X ∧ aget few s = some (movS s x + FV few x) ∧ ∀ y ∈ nxS c s, y ∈ X → movS s x + FV few x ≤ movS s y + FV few y
def BndC (c : Channel) (few : List (State × Int)) : Prop := ∀ x, VS c x → 0 ≤ FV few x ∧ FV few x ≤ 33 * (c.tides - x.after)
def stepV (c : Channel) (X : List State) (q : List (State × State) × List (State × Int)) (s : State) : List (State × State) × List (State × Int) := (((nxS c s).foldl (stepC X q.2 s) (-1, q.1)).2, aset q.2 s ((nxS c s).foldl (stepC X q.2 s) (-1, q.1)).1)
structure LvlC (c : Channel) (k : Nat) (X : List State) (q0 : List (State × State) × List (State × Int)) (P : List State) (q : List (State × State) × List (State × Int)) : Prop where
  same : ∀ t : State, t.after ≠ (k : Int) → aget q.1 t = aget q0.1 t ∧ aget q.2 t = aget q0.2 t
  good : ∀ s ∈ P, GoodC c X q.2 q.1 s
  bnd : BndC c q.2
theorem FV_same {few few' : List (State × Int)} {x : State} (h : aget few x = aget few' x) : FV few x = FV few' x := by unfold FV; rw [h]
theorem lvl_step {c : Channel} (r : Right c) {k : Nat} (hk : (k : Int) < c.tides) {X : List State} (hX : ∀ x ∈ X, VS c x ∧ x.after = (k : Int) + 1) {q0 q : List (State × State) × List (State × Int)} {P : List State} (h : LvlC c k X q0 P q) {s : State} (hs : VS c s ∧ s.after = (k : Int)) (hex : ∃ x ∈ nxS c s, x ∈ X) (hP : ∀ t ∈ P, t.after = (k : Int)) : LvlC c k X q0 (P ++ [s]) (stepV c X q s) := by
  obtain ⟨h1, h2, h3⟩ := h
  have hB : ∀ x ∈ X, 0 ≤ movS s x ∧ 0 ≤ FV q.2 x := fun x hx => ⟨(movS_bnd r hs.1 (hX x hx).1).1, (h3 x (hX x hx).1).1⟩
  have inv := invC_fold (to0 := q.1) hB (nxS c s) [] (-1, q.1) ⟨fun _ _ => rfl, .inl ⟨rfl, by simp⟩⟩
  rw [List.nil_append] at inv
  obtain ⟨i1, i2⟩ := inv
  unfold stepV
  generalize (nxS c s).foldl (stepC X q.2 s) (-1, q.1) = p at i1 i2 ⊢
  obtain ⟨x0, hx0, hx0X⟩ := hex
  rcases i2 with ⟨_, i2⟩ | ⟨i3, ⟨x, hx, hxX, i4, i5⟩, i6⟩
  · exact absurd hx0X (i2 x0 hx0)
  have hsX : s ∉ X := fun hq => by have := (hX s hq).2; omega
  have eF : ∀ y : State, y ≠ s → aget (aset q.2 s p.1) y = aget q.2 y := fun y hy => by rw [aget_aset, if_neg hy]
  have eFX : ∀ y ∈ X, FV (aset q.2 s p.1) y = FV q.2 y := fun y hy => FV_same (eF y (fun e => hsX (e ▸ hy)))
  have gs : GoodC c X (aset q.2 s p.1) p.2 s := by
    refine ⟨x, i4, hx, hxX, ?_, fun y hy hyX => ?_⟩
    · rw [aget_aset, if_pos rfl, eFX x hxX, i5]
    · rw [eFX x hxX, eFX y hyX, ← i5]
      exact i6 y hy hyX
  refine ⟨fun t ht => ?_, fun t ht => ?_, fun y hy => ?_⟩
  · have hts : t ≠ s := fun e => ht (e ▸ hs.2)
    simp only
    rw [eF t hts, i1 t hts]
    exact h1 t ht
  · by_cases hts : t = s
    · rw [hts]; exact gs
    · have htP : t ∈ P := by
        rcases List.mem_append.1 ht with ht | ht
        · exact ht
        · exact absurd (List.mem_singleton.1 ht) hts
      obtain ⟨z, z1, z2, z3, z4, z5⟩ := h2 t htP
      refine ⟨z, ?_, z2, z3, ?_, fun y hy hyX => ?_⟩
      · simp only; rw [i1 t hts]; exact z1
      · simp only; rw [eF t hts, eFX z z3]; exact z4
      · simp only; rw [eFX z z3, eFX y hyX]; exact z5 y hy hyX
  · simp only
    by_cases hys : y = s
    · subst hys
      have e : FV (aset q.2 y p.1) y = p.1 := by unfold FV; rw [aget_aset, if_pos rfl]; rfl
      have m := movS_bnd r hs.1 (hX x hxX).1
      have b := h3 x (hX x hxX).1
      have a := (hX x hxX).2
      rw [e]
      omega
    · rw [FV_same (eF y hys)]
      exact h3 y hy
theorem lvl_fold {c : Channel} (r : Right c) {k : Nat} (hk : (k : Int) < c.tides) {X : List State} (hX : ∀ x ∈ X, VS c x ∧ x.after = (k : Int) + 1) {q0 : List (State × State) × List (State × Int)} : ∀ (l P : List State) (q : List (State × State) × List (State × Int)), LvlC c k X q0 P q → (∀ s ∈ l, (VS c s ∧ s.after = (k : Int)) ∧ ∃ x ∈ nxS c s, x ∈ X) → (∀ t ∈ P, t.after = (k : Int)) → LvlC c k X q0 (P ++ l) (l.foldl (stepV c X) q)
  | [], P, q, h, _, _ => by rw [List.append_nil]; exact h
  | s :: l, P, q, h, hl, hP => by
    have h1 := hl s (by simp)
    have := lvl_fold r hk hX l (P ++ [s]) _ (lvl_step r hk hX h h1.1 h1.2 hP) (fun t ht => hl t (List.mem_cons_of_mem _ ht)) (fun t ht => by
      rcases List.mem_append.1 ht with ht | ht
      · exact hP t ht
      · rw [List.mem_singleton] at ht; rw [ht]; exact h1.1.2)
    rw [List.append_assoc] at this
    exact this
theorem lev_next {c : Channel} (r : Right c) {L : List (List State)} (hL : Levs c L) {k : Nat} (hk : (k : Int) < c.tides) {s : State} (hs : s ∈ L.getD k []) : ∃ x ∈ nxS c s, x ∈ L.getD (k + 1) [] := by
  have ht := r.tides
  have h1 := (hL.mem k (by omega) s).1 hs
  have h2 := on_R (by omega) h1
  rw [show c.tides.toNat - k = (c.tides.toNat - k - 1) + 1 by omega, R_succ_pos] at h2
  obtain ⟨_, t, ht1, ht2⟩ := h2
  exact ⟨t, ht1, (hL.mem (k + 1) (by omega) t).2 ((on_succ (by omega)).2 ⟨s, h1, ht1, ht2⟩)⟩
theorem calm_L1 {c : Channel} (r : Right c) {L : List (List State)} (hL : Levs c L) {k : Nat} (hk : (k : Int) < c.tides) (S : q6) (hSk : S.k10 = (k : Int)) (q0 : List (State × State) × List (State × Int)) (hB : BndC c q0.2) :
    iterM FU (zj (L.getD k []) ⟨c.cells, c.tides, L, rchL c⟩ c S) ⟨0, q0.1, q0.2⟩ = some ⟨((L.getD k []).foldl (stepV c (L.getD (k + 1) [])) q0).1, ((L.getD k []).foldl (stepV c (L.getD (k + 1) [])) q0).2⟩ ∧ LvlC c k (L.getD (k + 1) []) q0 (L.getD k []) ((L.getD k []).foldl (stepV c (L.getD (k + 1) [])) q0) := by
  have ht := r.tides
  have hX : ∀ x ∈ L.getD (k + 1) [], VS c x ∧ x.after = (k : Int) + 1 := fun x hx => by
    have := hL.val (k + 1) (by omega) x hx
    exact ⟨this.1, by omega⟩
  have hl : ∀ s ∈ L.getD k [], (VS c s ∧ s.after = (k : Int)) ∧ ∃ x ∈ nxS c s, x ∈ L.getD (k + 1) [] := fun s hs => ⟨hL.val k (by omega) s hs, lev_next r hL hk hs⟩
  have h0 : LvlC c k (L.getD (k + 1) []) q0 [] q0 := ⟨fun _ _ => ⟨rfl, rfl⟩, by simp, hB⟩
  have fin := lvl_fold r hk hX (L.getD k []) [] q0 h0 hl (by simp)
  rw [List.nil_append] at fin
  refine ⟨?_, fin⟩
  have hixX : ix L ((k : Int) + 1) = some (L.getD (k + 1) []) := by
    have := levs_ix r hL (k := (k : Int) + 1) (by omega) (by omega)
    rw [this, show ((k : Int) + 1).toNat = k + 1 by omega]
  have hXl := hL.bnd (k + 1) (by omega)
  have hll := hL.bnd k (by omega)
  generalize L.getD k [] = l at *
  generalize L.getD (k + 1) [] = X at *
  have key := iterM_run (f := zj l ⟨c.cells, c.tides, L, rchL c⟩ c S) (fun j => ⟨(j : Int), ((l.take j).foldl (stepV c X) q0).1, ((l.take j).foldl (stepV c X) q0).2⟩) l.length (b := ⟨(l.foldl (stepV c X) q0).1, (l.foldl (stepV c X) q0).2⟩) (fun j hj => ?_) ?_ FU (FU_lt2 (by omega))
  · exact key
  · have e : l.take (j + 1) = l.take j ++ [l[j]] := by rw [List.take_append_getElem]
    have hx : l.getD j default = l[j] := by simp [List.getD_eq_getElem?_getD, hj]
    have hv := (hl l[j] (List.getElem_mem hj)).1
    have mid := lvl_fold r hk hX (l.take j) [] q0 h0 (fun s hs => hl s (List.mem_of_mem_take hs)) (by simp)
    have hb := mid.bnd
    unfold zj km
    simp only
    rw [if_pos (by omega), ix_nat default hj, Option.bind_some, hx, Option.bind_some, if_pos (VS_next r hv.1)]
    have hf := calm_F2 r (L := L) X hixX hXl (by omega) hv.1 S hSk ⟨(j : Int), ((l.take j).foldl (stepV c X) q0).1, ((l.take j).foldl (stepV c X) q0).2⟩ (fun x hx => ⟨(hX x hx).1, (hb x (hX x hx).1).1, by have := (hb x (hX x hx).1).2; have := (hX x hx).2; simp only; omega⟩) (nxS c l[j]) (-1, ((l.take j).foldl (stepV c X) q0).1)
    unfold nxS at hf
    simp only at hf
    rw [hf, Option.bind_some, Option.bind_some, addc_eq (by omega), Option.bind_some, e, List.foldl_append]
    rfl
  · unfold zj
    simp only
    rw [if_neg (by omega), List.take_length]
end Go.Proofs.Wb

namespace Go.Proofs.Wb
open Go Go.Fw Go.Gx Go.Sb
set_option linter.unusedVariables false
set_option maxRecDepth 100000
def calmC (c : Channel) (L : List (List State)) : Nat → List (State × State) × List (State × Int)
  | 0 => ([], [])
  | m + 1 => (L.getD (c.tides.toNat - 1 - m) []).foldl (stepV c (L.getD (c.tides.toNat - 1 - m + 1) [])) (calmC c L m)
structure CalmI (c : Channel) (L : List (List State)) (m : Nat) (q : List (State × State) × List (State × Int)) : Prop where
  bnd : BndC c q.2
  good : ∀ k : Nat, c.tides.toNat - m ≤ k → k < c.tides.toNat → ∀ s ∈ L.getD k [], GoodC c (L.getD (k + 1) []) q.2 q.1 s
  last : ∀ s : State, s.after = c.tides → aget q.2 s = none
theorem GoodC.same {c : Channel} {X : List State} {few few' : List (State × Int)} {to to' : List (State × State)} {s : State} (h : GoodC c X few to s) (h1 : aget to' s = aget to s) (h2 : aget few' s = aget few s) (h3 : ∀ x ∈ X, aget few' x = aget few x) : GoodC c X few' to' s := by
  obtain ⟨z, z1, z2, z3, z4, z5⟩ := h
  have e : ∀ x ∈ X, FV few' x = FV few x := fun x hx => FV_same (h3 x hx)
  refine ⟨z, by rw [h1]; exact z1, z2, z3, by rw [h2, e z z3]; exact z4, fun y hy hyX => ?_⟩
  rw [e z z3, e y hyX]
  exact z5 y hy hyX
theorem calmI {c : Channel} (r : Right c) {L : List (List State)} (hL : Levs c L) : ∀ m : Nat, m ≤ c.tides.toNat → CalmI c L m (calmC c L m)
  | 0, _ => ⟨fun x hx => by
      have : FV [] x = 0 := rfl
      obtain ⟨_, _, h⟩ := hx
      show 0 ≤ FV [] x ∧ FV [] x ≤ _
      rw [this]
      omega, fun k h1 h2 => by omega, fun s _ => rfl⟩
  | m + 1, hm => by
    have ih := calmI r hL m (by omega)
    have ht := r.tides
    have hk : ((c.tides.toNat - 1 - m : Nat) : Int) < c.tides := by omega
    obtain ⟨_, lv⟩ := calm_L1 r hL hk ⟨((c.tides.toNat - 1 - m : Nat) : Int), [], []⟩ rfl (calmC c L m) ih.bnd
    have e : calmC c L (m + 1) = (L.getD (c.tides.toNat - 1 - m) []).foldl (stepV c (L.getD (c.tides.toNat - 1 - m + 1) [])) (calmC c L m) := rfl
    rw [e]
    refine ⟨lv.bnd, fun k h1 h2 s hs => ?_, fun s hs => ?_⟩
    · by_cases h3 : k = c.tides.toNat - 1 - m
      · subst h3; exact lv.good s hs
      · have hv := hL.val k (by omega) s hs
        have s1 := lv.same s (by omega)
        refine (ih.good k (by omega) h2 s hs).same s1.1 s1.2 (fun x hx => ?_)
        have hv2 := hL.val (k + 1) (by omega) x hx
        exact (lv.same x (by omega)).2
    · rw [(lv.same s (by omega)).2]
      exact ih.last s hs
def fewC (c : Channel) (L : List (List State)) (s : State) : Int := FV (calmC c L c.tides.toNat).2 s
def pth (c : Channel) (L : List (List State)) : Nat → State
  | 0 => first c
  | j + 1 => (aget (calmC c L c.tides.toNat).1 (pth c L j)).getD ⟨0, ⟨0, 0, 0⟩⟩
theorem first_lev {c : Channel} (r : Right c) {L : List (List State)} (hL : Levs c L) (h : cntS tt c ≠ 0) : first c ∈ L.getD 0 [] := by
  have ht := r.tides
  refine (hL.mem 0 (by omega) _).2 (on_zero.2 ⟨rfl, ?_⟩)
  exact Nat.pos_of_ne_zero h
theorem pth_spec {c : Channel} (r : Right c) {L : List (List State)} (hL : Levs c L) (h : cntS tt c ≠ 0) : ∀ j : Nat, j ≤ c.tides.toNat → pth c L j ∈ L.getD j [] ∧ (j < c.tides.toNat → pth c L (j + 1) ∈ nxS c (pth c L j) ∧ fewC c L (pth c L j) = movS (pth c L j) (pth c L (j + 1)) + fewC c L (pth c L (j + 1))) := by
  have step : ∀ j : Nat, j < c.tides.toNat → pth c L j ∈ L.getD j [] → pth c L (j + 1) ∈ L.getD (j + 1) [] ∧ pth c L (j + 1) ∈ nxS c (pth c L j) ∧ fewC c L (pth c L j) = movS (pth c L j) (pth c L (j + 1)) + fewC c L (pth c L (j + 1)) := by
    intro j hj hin
    obtain ⟨x, x1, x2, x3, x4, _⟩ := (calmI r hL c.tides.toNat (Nat.le_refl _)).good j (by omega) hj _ hin
    have e : pth c L (j + 1) = x := by rw [pth, x1]; rfl
    rw [e]
    refine ⟨x3, x2, ?_⟩
    show (aget _ _).getD 0 = _
    rw [x4]
    rfl
  intro j
  induction j with
  | zero => intro hj; exact ⟨first_lev r hL h, fun h1 => (step 0 h1 (first_lev r hL h)).2⟩
  | succ j ih =>
    intro hj
    have h1 := step j (by omega) (ih (by omega)).1
    exact ⟨h1.1, fun h2 => (step (j + 1) h2 h1.1).2⟩
def crsC (c : Channel) (L : List (List State)) : List (List Int) := (List.range (c.tides.toNat + 1)).map fun j => clS c.fords.length (pth c L j)
theorem jaJ {c : Channel} (h : Few c) : ∃ L, Jx c = some (if chk c = 0 then (if cntS tt c = 0 then ⟨0, 7, []⟩ else ⟨fewC c L (first c), 0, crsC c L⟩) else ⟨0, chk c, []⟩) ∧ (chk c = 0 → cntS tt c ≠ 0 → Levs c L) := by
  unfold Jx
  obtain ⟨L, e, hL⟩ := ZD h
  refine ⟨L, ?_, hL⟩
  rw [e, Option.bind_some]
  by_cases h0 : chk c = 0
  · have r := rightOf h0
    have hf := r.fords
    have ht := r.tides
    rw [if_pos h0, if_pos h0]
    by_cases h3 : cntS tt c = 0
    · rw [if_pos h3, if_pos h3, oc_inl]
    · rw [if_neg h3, if_neg h3, oc_inr]
      have hL' := hL h0 h3
      have key := iterM_run (f := zk ⟨c.cells, c.tides, L, rchL c⟩ c) (fun m => ⟨c.tides - 1 - (m : Int), (calmC c L m).1, (calmC c L m).2⟩) c.tides.toNat (b := ⟨(calmC c L c.tides.toNat).1, (calmC c L c.tides.toNat).2⟩) (fun m hm => ?_) ?_ FU (FU_lt (by omega))
      · rw [subc_eq (by omega), Option.bind_some]
        have k0 : iterM FU (zk ⟨c.cells, c.tides, L, rchL c⟩ c) ⟨c.tides - 1, [], []⟩ = some ⟨(calmC c L c.tides.toNat).1, (calmC c L c.tides.toNat).2⟩ := by
          have : c.tides - 1 - ((0 : Nat) : Int) = c.tides - 1 := by omega
          rw [← key, this]
          rfl
        rw [k0, Option.bind_some, Yu hf.2, Option.bind_some, Zt hf.2, Option.bind_some]
        have key2 := iterM_run (f := yG c ⟨c.cells, c.tides, L, rchL c⟩ ⟨(calmC c L c.tides.toNat).1, (calmC c L c.tides.toNat).2⟩) (fun j => ⟨(j : Int), (pth c L j).after, (pth c L j).at_.c0, (pth c L j).at_.c1, (pth c L j).at_.c2, (List.range (j + 1)).map fun j => clS c.fords.length (pth c L j)⟩) c.tides.toNat (b := ⟨(pth c L c.tides.toNat).after, (pth c L c.tides.toNat).at_.c0, (pth c L c.tides.toNat).at_.c1, (pth c L c.tides.toNat).at_.c2, crsC c L⟩) (fun j hj => ?_) ?_ FU (FU_lt (by omega))
        · have k1 : iterM FU (yG c ⟨c.cells, c.tides, L, rchL c⟩ ⟨(calmC c L c.tides.toNat).1, (calmC c L c.tides.toNat).2⟩) ⟨0, (first c).after, (first c).at_.c0, (first c).at_.c1, (first c).at_.c2, [clS c.fords.length (first c)]⟩ = _ := key2
          show ((iterM FU (yG c ⟨c.cells, c.tides, L, rchL c⟩ ⟨(calmC c L c.tides.toNat).1, (calmC c L c.tides.toNat).2⟩) ⟨0, (first c).after, (first c).at_.c0, (first c).at_.c1, (first c).at_.c2, [clS c.fords.length (first c)]⟩).bind _) = _
          rw [k1, Option.bind_some, Option.bind_some]
          rfl
        · unfold yG
          simp only
          rw [if_pos (by omega), Zt hf.2, Option.bind_some, appc_eq (by simp; omega), Option.bind_some, addc_eq (by omega), Option.bind_some, List.range_succ (n := j + 1), List.map_append]
          rfl
        · unfold yG
          simp only
          rw [if_neg (by omega)]
          rfl
      · have hI := calmI r hL' m (by omega)
        have ek : c.tides - 1 - (m : Int) = ((c.tides.toNat - 1 - m : Nat) : Int) := by omega
        obtain ⟨run, _⟩ := calm_L1 r hL' (k := c.tides.toNat - 1 - m) (by omega) ⟨((c.tides.toNat - 1 - m : Nat) : Int), (calmC c L m).1, (calmC c L m).2⟩ rfl (calmC c L m) hI.bnd
        unfold zk
        simp only
        rw [ek, if_pos (by omega), levs_ix r hL' (by omega) (by omega), Option.bind_some, Int.toNat_natCast, run, Option.bind_some, subc_eq (by omega), Option.bind_some, show ((c.tides.toNat - 1 - m : Nat) : Int) - 1 = c.tides - 1 - ((m + 1 : Nat) : Int) by omega]
        rfl
      · unfold zk
        simp only
        rw [if_neg (by omega)]
  · rw [if_neg h0, if_neg h0, oc_inl]
theorem lev_row {c : Channel} (r : Right c) {L : List (List State)} (hL : Levs c L) {k : Nat} (hk : (k : Int) ≤ c.tides) {s : State} (hs : s ∈ L.getD k []) : ∃ l ∈ LL c, s = stL k l ∧ onB c k l = true ∧ clS c.fords.length s = l ∧ rowB c l = true := by
  have hc := r.cells
  have hf := r.fords
  obtain ⟨l, hl, rfl, ho⟩ := (lev_iff r hL hk).1 hs
  have hr := (mem_LL (by omega)).1 hl
  have h1 := (rowB_iff.1 hr).1
  refine ⟨l, hl, rfl, ho, ?_, hr⟩
  unfold stL
  rw [← h1, clS_mk (by omega)]
theorem onB_ag {c : Channel} {k : Nat} {l : List Int} (h : onB c k l = true) : agP tt c.sights (k : Int) l = true := by
  unfold onB at h
  rw [Bool.and_eq_true, decide_eq_true_eq] at h
  exact FcL_pos_ag h.1
theorem crs_get {c : Channel} {L : List (List State)} {j : Nat} (h : j ≤ c.tides.toNat) : (crsC c L).getD j [] = clS c.fords.length (pth c L j) := by
  unfold crsC
  rw [List.getD_eq_getElem?_getD, List.getElem?_map, List.getElem?_range (by omega)]
  rfl
theorem crs_len {c : Channel} {L : List (List State)} : (crsC c L).length = c.tides.toNat + 1 := by unfold crsC; simp
theorem crs_fit {c : Channel} (r : Right c) {L : List (List State)} (hL : Levs c L) (h : cntS tt c ≠ 0) : fitB tt c (crsC c L) = true := by
  have ht := r.tides
  have hf := r.fords
  unfold fitB
  rw [crs_len, Bool.and_eq_true, Bool.and_eq_true, decide_eq_true_eq, decide_eq_true_eq, List.all_eq_true, crs_get (by omega)]
  refine ⟨by omega, clS_mk hf.2, fun k hk => ?_⟩
  have hk' : k ≤ c.tides.toNat := by have : k < c.tides.toNat + 1 := by simpa using hk
                                     omega
  obtain ⟨p1, p2⟩ := pth_spec r hL h k hk'
  obtain ⟨l, hl, e, ho, ec, hr⟩ := lev_row r hL (by omega) p1
  unfold okAt
  rw [crs_get hk', ec, hr, onB_ag ho, Bool.true_and, Bool.and_true, Bool.or_eq_true, decide_eq_true_eq]
  cases k with
  | zero => exact .inl rfl
  | succ k =>
    right
    obtain ⟨q1, q2⟩ := pth_spec r hL h k (by omega)
    obtain ⟨l', hl', e', ho', ec', hr'⟩ := lev_row r hL (by omega) q1
    have := (q2 (by omega)).1
    rw [e, e'] at this
    rw [show k + 1 - 1 = k by omega, crs_get (by omega), ec']
    exact (mem_nx_stL r hr' hr).1 this
theorem pth_V {c : Channel} (r : Right c) {L : List (List State)} (hL : Levs c L) (h : cntS tt c ≠ 0) {j : Nat} (hj : j ≤ c.tides.toNat) : VS c (pth c L j) ∧ (pth c L j).after = (j : Int) := hL.val j (by have := r.tides; omega) _ (pth_spec r hL h j hj).1
theorem few_last {c : Channel} (r : Right c) {L : List (List State)} (hL : Levs c L) {s : State} (hs : s.after = c.tides) : fewC c L s = 0 := by
  unfold fewC FV
  rw [(calmI r hL c.tides.toNat (Nat.le_refl _)).last s hs]
  rfl
theorem few_bnd {c : Channel} (r : Right c) {L : List (List State)} (hL : Levs c L) {s : State} (hs : VS c s) : 0 ≤ fewC c L s ∧ fewC c L s ≤ 200 := by
  have h := (calmI r hL c.tides.toNat (Nat.le_refl _)).bnd s hs
  have ht := r.tides
  obtain ⟨_, h1, h2⟩ := hs
  unfold fewC
  omega
theorem pth_sum {c : Channel} (r : Right c) {L : List (List State)} (hL : Levs c L) (h : cntS tt c ≠ 0) : ∀ j : Nat, j ≤ c.tides.toNat → fewC c L (first c) = sumI (fun i => movS (pth c L i) (pth c L (i + 1))) j + fewC c L (pth c L j)
  | 0, _ => by rw [sumI, Int.zero_add]; rfl
  | j + 1, hj => by
    rw [pth_sum r hL h j (by omega), (((pth_spec r hL h j (by omega)).2 (by omega)).2), sumI]
    omega
theorem ZY {a b : List Int} (h : a.length = b.length) (h3 : a.length ≤ 3) (ha : ∀ x ∈ a, 0 ≤ x ∧ x < 10) (hb : ∀ x ∈ b, 0 ≤ x ∧ x < 10) : zM a b = some (movL a b) := by
  unfold zM
  have hB : ∀ i, i < a.length → 0 ≤ mvI (a.getD i (-1)) (b.getD i (-1)) ∧ mvI (a.getD i (-1)) (b.getD i (-1)) ≤ 11 := by
    intro i hi
    have h1 := ha _ (getD_mem (d := -1) hi)
    have h2 := hb _ (getD_mem (d := -1) (show i < b.length by omega))
    unfold mvI
    omega
  have key := iterM_run (f := ye a b) (fun i => ⟨sumI (fun i => mvI (a.getD i (-1)) (b.getD i (-1))) i, (i : Int)⟩) a.length (b := movL a b) (fun i hi => ?_) ?_ FU (FU_lt (by omega))
  · show (iterM FU (ye a b) ⟨sumI (fun i => mvI (a.getD i (-1)) (b.getD i (-1))) 0, ((0 : Nat) : Int)⟩).bind _ = _
    rw [key]; rfl
  · have h1 := ha _ (getD_mem (d := -1) hi)
    have h2 := hb _ (getD_mem (d := -1) (show i < b.length by omega))
    have h4 := sumI_bnd (f := fun i => mvI (a.getD i (-1)) (b.getD i (-1))) (B := 11) i (fun j hj => hB j (by omega))
    unfold ye
    simp only
    rw [if_pos (by omega), ix_nat (-1) hi, Option.bind_some, ix_nat (-1) (by omega), Option.bind_some, subc_eq (by omega), Option.bind_some, Option.bind_some, Option.bind_some, subc_eq (by omega), Option.bind_some, addc_eq (by omega), Option.bind_some, addc_eq (by omega), Option.bind_some]
    rfl
  · unfold ye
    simp only
    rw [if_neg (by omega)]
    rfl
theorem row_moves {c : Channel} (r : Right c) {a b : List Int} (ha : rowB c a = true) (hb : rowB c b = true) : zM a b = some (movL a b) := by
  have hc := r.cells
  have hf := r.fords
  have h1 := rowB_iff.1 ha
  have h2 := rowB_iff.1 hb
  exact ZY (by omega) (by omega) (fun x hx => by have := h1.2.2 x hx; omega) (fun x hx => by have := h2.2.2 x hx; omega)
theorem movL_bnd {c : Channel} (r : Right c) {a b : List Int} (ha : rowB c a = true) (hb : rowB c b = true) : 0 ≤ movL a b ∧ movL a b ≤ 33 := by
  have hf := r.fords
  have ht := r.tides
  have h1 := rowB_iff.1 ha
  have h2 := rowB_iff.1 hb
  rw [← movS_stL (by omega) (by omega) 0 0]
  exact movS_bnd r ⟨⟨a, ha, rfl⟩, Int.le_refl _, ht.1⟩ ⟨⟨b, hb, rfl⟩, Int.le_refl _, ht.1⟩
theorem crs_moves {c : Channel} (r : Right c) {L : List (List State)} (hL : Levs c L) (h : cntS tt c ≠ 0) {j : Nat} (hj : j < c.tides.toNat) : zM ((crsC c L).getD j []) ((crsC c L).getD (j + 1) []) = some (movS (pth c L j) (pth c L (j + 1))) := by
  have hf := r.fords
  obtain ⟨l, hl, e, ho, ec, hr⟩ := lev_row r hL (by omega) (pth_spec r hL h j (by omega)).1
  obtain ⟨l', hl', e', ho', ec', hr'⟩ := lev_row r hL (by omega) (pth_spec r hL h (j + 1) (by omega)).1
  have h1 := rowB_iff.1 hr
  have h2 := rowB_iff.1 hr'
  rw [crs_get (by omega), crs_get (by omega), ec, ec', row_moves r hr hr', e, e', movS_stL (by omega) (by omega)]
end Go.Proofs.Wb

namespace Go.Proofs.Wb
open Go Go.Fw Go.Gx Go.Sb
set_option linter.unusedVariables false
set_option maxRecDepth 100000
def stMin (ok : Nat → Bool) (val : Nat → Int) (t : Int) (a : Nat) : Int := if ok a = true then (if t < 0 ∨ val a < t then val a else t) else t
def minF (ok : Nat → Bool) (val : Nat → Int) (n : Nat) : Int := (List.range n).foldl (stMin ok val) (-1)
theorem minF_succ (ok : Nat → Bool) (val : Nat → Int) (n : Nat) : minF ok val (n + 1) = stMin ok val (minF ok val n) n := by
  unfold minF
  rw [List.range_succ, List.foldl_append]
  rfl
theorem minF_spec {ok : Nat → Bool} {val : Nat → Int} (hv : ∀ a, ok a = true → 0 ≤ val a) : ∀ n, (minF ok val n = -1 ∧ ∀ a, a < n → ok a = false) ∨ (0 ≤ minF ok val n ∧ (∃ a, a < n ∧ ok a = true ∧ minF ok val n = val a) ∧ ∀ a, a < n → ok a = true → minF ok val n ≤ val a)
  | 0 => .inl ⟨rfl, fun a h => absurd h (by omega)⟩
  | n + 1 => by
    have ih := minF_spec hv n
    rw [minF_succ]
    unfold stMin
    by_cases h : ok n = true
    · have h0 := hv n h
      rw [if_pos h]
      by_cases h2 : minF ok val n < 0 ∨ val n < minF ok val n
      · rw [if_pos h2]
        refine .inr ⟨h0, ⟨n, by omega, h, rfl⟩, fun a ha hok => ?_⟩
        by_cases e : a = n
        · subst e; exact Int.le_refl _
        · rcases ih with ⟨_, i2⟩ | ⟨i1, _, i3⟩
          · rw [i2 a (by omega)] at hok; exact absurd hok (by decide)
          · have := i3 a (by omega) hok
            omega
      · rw [if_neg h2]
        rcases ih with ⟨i1, _⟩ | ⟨i1, ⟨a, a1, a2, a3⟩, i3⟩
        · exact absurd (.inl (by omega)) h2
        · refine .inr ⟨i1, ⟨a, by omega, a2, a3⟩, fun a ha hok => ?_⟩
          by_cases e : a = n
          · subst e
            have : ¬ val a < minF ok val a := fun q => h2 (.inr q)
            omega
          · exact i3 a (by omega) hok
    · rw [if_neg h]
      have hf : ok n = false := by simpa using h
      rcases ih with ⟨i1, i2⟩ | ⟨i1, ⟨a, a1, a2, a3⟩, i3⟩
      · refine .inl ⟨i1, fun a ha => ?_⟩
        by_cases e : a = n
        · rw [e]; exact hf
        · exact i2 a (by omega)
      · refine .inr ⟨i1, ⟨a, by omega, a2, a3⟩, fun a ha hok => ?_⟩
        by_cases e : a = n
        · rw [e, hf] at hok; exact absurd hok (by decide)
        · exact i3 a (by omega) hok
def gC (c : Channel) : Nat → List Int → Int
  | 0, l => if onB c 0 l = true then 0 else -1
  | k + 1, b => if onB c (k + 1) b = true then minF (fun a => decide (0 ≤ gC c k (li c a)) && canB c.sands (li c a) b) (fun a => gC c k (li c a) + movL (li c a) b) (LL c).length else -1
theorem li_of {c : Channel} {l : List Int} (h : l ∈ LL c) : ∃ a, a < (LL c).length ∧ li c a = l := by
  obtain ⟨a, ha, e⟩ := List.getElem_of_mem h
  exact ⟨a, ha, by unfold li; rw [← e]; simp [List.getD_eq_getElem?_getD, ha]⟩
theorem li_mem {c : Channel} {a : Nat} (h : a < (LL c).length) : li c a ∈ LL c := by
  unfold li
  rw [List.getD_eq_getElem?_getD, List.getElem?_eq_getElem h]
  exact List.getElem_mem h
theorem movL_nonneg (a b : List Int) : 0 ≤ movL a b := by
  unfold movL
  have : ∀ n, 0 ≤ sumI (fun i => mvI (a.getD i (-1)) (b.getD i (-1))) n := by
    intro n
    induction n with
    | zero => exact Int.le_refl _
    | succ n ih => rw [sumI]; unfold mvI at *; omega
  exact this _
theorem gC_vals {c : Channel} {k : Nat} {b : List Int} : ∀ a, (decide (0 ≤ gC c k (li c a)) && canB c.sands (li c a) b) = true → 0 ≤ gC c k (li c a) + movL (li c a) b := by
  intro a h
  rw [Bool.and_eq_true, decide_eq_true_eq] at h
  have := movL_nonneg (li c a) b
  omega
theorem gC_off {c : Channel} {k : Nat} {l : List Int} (h : ¬ onB c k l = true) : gC c k l = -1 := by
  cases k with
  | zero => rw [gC, if_neg h]
  | succ k => rw [gC, if_neg h]
theorem onB_from {c : Channel} (r : Right c) {k : Nat} (hk : (k : Int) < c.tides) {b : List Int} (hb : b ∈ LL c) (h : onB c (k + 1) b = true) : ∃ a ∈ LL c, onB c k a = true ∧ canB c.sands a b = true := by
  have hc := r.cells
  have h' := h
  unfold onB at h'
  rw [Bool.and_eq_true, decide_eq_true_eq] at h'
  obtain ⟨_, a, ha, h1, h2⟩ := FcL_succ_pos.1 h'.1
  refine ⟨a, ha, ?_, h1⟩
  rw [onB_step r hk ((mem_LL (by omega)).1 ha) h2, List.any_eq_true]
  obtain ⟨i, hi, e⟩ := li_of hb
  exact ⟨i, by simpa using hi, by rw [e, h, h1]; rfl⟩
theorem gC_on {c : Channel} (r : Right c) : ∀ k : Nat, (k : Int) ≤ c.tides → ∀ l ∈ LL c, onB c k l = true → 0 ≤ gC c k l
  | 0, _, l, _, h => by rw [gC, if_pos h]; exact Int.le_refl _
  | k + 1, hk, l, hl, h => by
    rw [gC, if_pos h]
    obtain ⟨a, ha, h1, h2⟩ := onB_from r (by omega) hl h
    have h3 := gC_on r k (by omega) a ha h1
    obtain ⟨i, hi, e⟩ := li_of ha
    rcases minF_spec (gC_vals (c := c) (k := k) (b := l)) (LL c).length with ⟨_, q⟩ | ⟨q, _⟩
    · have := q i hi
      rw [e, decide_eq_true h3, h2] at this
      exact absurd this (by decide)
    · exact q
theorem gC_step {c : Channel} (r : Right c) {k : Nat} (hk : (k : Int) < c.tides) {b : List Int} (hb : b ∈ LL c) (h : onB c (k + 1) b = true) : (∃ a ∈ LL c, onB c k a = true ∧ canB c.sands a b = true ∧ gC c (k + 1) b = gC c k a + movL a b) ∧ ∀ a ∈ LL c, onB c k a = true → canB c.sands a b = true → gC c (k + 1) b ≤ gC c k a + movL a b := by
  have h0 := gC_on r (k + 1) (by omega) b hb h
  rw [gC, if_pos h] at h0 ⊢
  rcases minF_spec (gC_vals (c := c) (k := k) (b := b)) (LL c).length with ⟨q, _⟩ | ⟨_, ⟨i, i1, i2, i3⟩, q⟩
  · omega
  · constructor
    · rw [Bool.and_eq_true, decide_eq_true_eq] at i2
      refine ⟨li c i, li_mem i1, ?_, i2.2, i3⟩
      cases ho : onB c k (li c i) with
      | true => rfl
      | false =>
        have := gC_off (c := c) (k := k) (l := li c i) (by rw [ho]; decide)
        omega
    · intro a ha h1 h2
      obtain ⟨j, hj, e⟩ := li_of ha
      have h3 := gC_on r k (by omega) a ha h1
      have := q j hj (by rw [e, decide_eq_true h3, h2]; rfl)
      rw [e] at this
      exact this
theorem gC_few {c : Channel} (r : Right c) {L : List (List State)} (hL : Levs c L) (h : cntS tt c ≠ 0) : ∀ k : Nat, (k : Int) ≤ c.tides → (∀ a ∈ LL c, onB c k a = true → fewC c L (first c) ≤ gC c k a + fewC c L (stL k a)) ∧ ∃ a ∈ LL c, onB c k a = true ∧ fewC c L (first c) = gC c k a + fewC c L (stL k a)
  | 0, _ => by
    have ht := r.tides
    obtain ⟨l, hl, e, ho, ec, hr⟩ := lev_row r hL (by omega) (first_lev r hL h)
    have only : ∀ a, onB c 0 a = true → a = c.fords := by
      intro a ha
      unfold onB at ha
      rw [Bool.and_eq_true, decide_eq_true_eq, FcL] at ha
      by_cases q : agP tt c.sights 0 a = true ∧ a = c.fords
      · exact q.2
      · rw [if_neg q] at ha; omega
    have el := only l ho
    constructor
    · intro a ha h1
      have := only a h1
      subst this
      rw [gC, if_pos h1, Int.zero_add]
      exact Int.le_refl _
    · refine ⟨l, hl, ho, ?_⟩
      rw [gC, if_pos ho, Int.zero_add, e]
  | k + 1, hk => by
    have hf := r.fords
    have hc := r.cells
    have ht := r.tides
    obtain ⟨ih1, a, ha, ho, ih2⟩ := gC_few r hL h k (by omega)
    have lo : ∀ x ∈ LL c, onB c (k + 1) x = true → fewC c L (first c) ≤ gC c (k + 1) x + fewC c L (stL (k + 1) x) := by
      intro x hx hox
      obtain ⟨⟨y, hy, hoy, hcy, e⟩, _⟩ := gC_step r (by omega) hx hox
      have h1 := ih1 y hy hoy
      have hyr := (mem_LL (by omega)).1 hy
      have hxr := (mem_LL (by omega)).1 hx
      have hyL := (lev_iff r hL (k := k) (by omega)).2 ⟨y, hy, rfl, hoy⟩
      have hxL := (lev_iff r hL (k := k + 1) (by omega)).2 ⟨x, hx, rfl, hox⟩
      obtain ⟨z, z1, z2, z3, z4, z5⟩ := (calmI r hL c.tides.toNat (Nat.le_refl _)).good k (by omega) (by omega) _ hyL
      have h2 := z5 _ ((mem_nx_stL r hyr hxr).2 hcy) hxL
      have h3 : fewC c L (stL k y) = movS (stL k y) z + FV (calmC c L c.tides.toNat).2 z := by unfold fewC; unfold FV; rw [z4]; rfl
      rw [movS_stL (by rw [(rowB_iff.1 hyr).1, (rowB_iff.1 hxr).1]) (by rw [(rowB_iff.1 hyr).1]; omega)] at h2
      unfold fewC at *
      omega
    refine ⟨lo, ?_⟩
    have har := (mem_LL (by omega)).1 ha
    have haL := (lev_iff r hL (k := k) (by omega)).2 ⟨a, ha, rfl, ho⟩
    obtain ⟨z, z1, z2, z3, z4, z5⟩ := (calmI r hL c.tides.toNat (Nat.le_refl _)).good k (by omega) (by omega) _ haL
    obtain ⟨x, hx, e, hox, _, hxr⟩ := lev_row r hL (by omega) z3
    have h3 : fewC c L (stL k a) = movS (stL k a) z + FV (calmC c L c.tides.toNat).2 z := by unfold fewC; unfold FV; rw [z4]; rfl
    rw [e] at z2 h3
    have hcan := (mem_nx_stL r har hxr).1 z2
    have h4 := (gC_step r (by omega) hx hox).2 a ha ho hcan
    have h5 := lo x hx hox
    rw [movS_stL (by rw [(rowB_iff.1 har).1, (rowB_iff.1 hxr).1]) (by rw [(rowB_iff.1 har).1]; omega)] at h3
    refine ⟨x, hx, hox, ?_⟩
    unfold fewC at *
    omega
def bestC (c : Channel) : Int := minF (fun a => decide (0 ≤ gC c c.tides.toNat (li c a))) (fun a => gC c c.tides.toNat (li c a)) (LL c).length
theorem best_few {c : Channel} (r : Right c) {L : List (List State)} (hL : Levs c L) (h : cntS tt c ≠ 0) : bestC c = fewC c L (first c) := by
  have ht := r.tides
  obtain ⟨h1, a, ha, ho, h2⟩ := gC_few r hL h c.tides.toNat (by omega)
  have hz : ∀ x, fewC c L (stL c.tides.toNat x) = 0 := fun x => few_last r hL (by show ((c.tides.toNat : Nat) : Int) = _; omega)
  have hg := gC_on r c.tides.toNat (by omega) a ha ho
  obtain ⟨i, hi, e⟩ := li_of ha
  rw [hz] at h2
  unfold bestC
  rcases minF_spec (ok := fun a => decide (0 ≤ gC c c.tides.toNat (li c a))) (val := fun a => gC c c.tides.toNat (li c a)) (fun a h => by simpa using h) (LL c).length with ⟨_, q⟩ | ⟨_, ⟨j, j1, j2, j3⟩, q⟩
  · have := q i hi
    rw [e, decide_eq_true hg] at this
    exact absurd this (by decide)
  · have q1 := q i hi (by rw [e, decide_eq_true hg])
    rw [e] at q1
    rw [decide_eq_true_eq] at j2
    have hoj : onB c c.tides.toNat (li c j) = true := by
      cases hq : onB c c.tides.toNat (li c j) with
      | true => rfl
      | false =>
        have := gC_off (c := c) (k := c.tides.toNat) (l := li c j) (by rw [hq]; decide)
        omega
    have h3 := h1 _ (li_mem j1) hoj
    rw [hz] at h3
    omega
end Go.Proofs.Wb

namespace Go.Proofs.Wb
set_option maxHeartbeats 4000000
set_option maxRecDepth 100000
open Go Go.Fw Go.Gx Go.Sb
open Tryz
set_option linter.unusedVariables false

structure Zd where
  t5_1 : Int
  t5_2 : Int
def Y1 (shells0 : (List Int)) : Option Zd :=
 some (⟨0, 0⟩ : Zd)
theorem jat (shells0 : (List Int)) (qa0 : Option Addr) (na0 ca0 : Nat) (w : World) (hw : HV w (keys [] []) [] [] [(aB qa0, aO qa0, RU8.enc shells0)] w) (hna0 : shells0.length = na0) (hqa0 : AOK na0 qa0) (hla0 : na0 ≤ ca0) {res : Zd} (hm : Y1 shells0 = some res) :
    Calls Tryz.prog 62 #[.slice qa0 na0 ca0] w (fun en w' => ∃ l : Nat, en = .returned (ptr l 0) ∧ (True) ∧ HV w (keys [] []) [kc l #[.slice qa0 na0 ca0, .int .i64 res.t5_1, .int .u32 res.t5_2] 199] [] [] w') := by
  unfold Y1 at hm
  refine yt func62 Y ntmps62 Y (e := [(0, _)]) Y hw (jw (jr Y Y (ql (jk Y Y (jc Y Y Y (fun _ _ => kQ (vs := [(0, _)]) (cells := [_, _, _]) Y Y) ?_)))))
  refine jS Y Y (fun b h1 => ?_)
  refine jr Y Y (ju (jB ?_))
  obtain rfl := sj hm
  refine jq Y (fun w hh => (.tmp Y .nil)) (fun w hh => ⟨b, rfl, trivial, hh.se [0] [] 1 Y Y Y rfl⟩)
structure KP where
  r0 : Int
  h0_1 : Int
  h0_2 : Int
structure Qy where
  h0_1 : Int
  h0_2 : Int
def Jk (h00 : (List Int)) (h01 : Int) (h02 : Int) : Option KP :=
 (if h01 < (h00.length : Int) then
 ((ix h00 h01).bind fun t29 =>
 some (IntKind.u32.wrap ((IntKind.u32.wrap (40503 * (IntKind.u32.wrap (h02 + 1)))) + (IntKind.u32.wrap (331 * (IntKind.u32.wrap t29)))))) else
 (some (IntKind.u32.wrap (40503 * (IntKind.u32.wrap (h02 + 1)))))).bind fun o =>
 ((addc h01 1).bind fun t38 =>
 if (h00.length : Int) ≤ t38 then
 (some (⟨0, (IntKind.u32.wrap (h02 + 1))⟩ : Qy)) else
 (some (⟨t38, h02⟩ : Qy))).bind fun o_1 =>
 some (⟨(IntKind.i64.wrap (IntKind.u32.wrap (BitVec.ofInt IntKind.u32.bits (IntKind.u32.wrap (BitVec.ofInt IntKind.u32.bits o ^^^ BitVec.ofInt IntKind.u32.bits (Int.fdiv o (2 ^ min (Int.toNat 9) IntKind.u32.bits))).toNat) &&& BitVec.ofInt IntKind.u32.bits 32767).toNat)), o_1.h0_1, o_1.h0_2⟩ : KP)
theorem Zu (h00 : (List Int)) (h01 : Int) (h02 : Int) (pb : Nat) (qa0 : Option Addr) (na0 ca0 : Nat) (w : World) (hw : HV w (keys [kc pb #[.slice qa0 na0 ca0, .int .i64 h01, .int .u32 h02] 199] []) [kc pb #[.slice qa0 na0 ca0, .int .i64 h01, .int .u32 h02] 199] [] [(aB qa0, aO qa0, RU8.enc h00)] w) (hna0 : h00.length = na0) (hqa0 : AOK na0 qa0) (hla0 : na0 ≤ ca0) {res : KP} (hm : Jk h00 h01 h02 = some res) :
    Calls Tryz.prog 180 #[ptr pb 0] w (fun en w' => ∃ l : Unit, en = .returned (.int .i64 res.r0) ∧ (True) ∧ HV w (keys [kc pb #[.slice qa0 na0 ca0, .int .i64 h01, .int .u32 h02] 199] []) [kc pb #[.slice qa0 na0 ca0, .int .i64 res.h0_1, .int .u32 res.h0_2] 199] [] [] w') := by
  unfold Jk at hm
  refine yt func180 Y ntmps180 Y (e := [(0, _)]) Y hw (jw (jr Y Y (ql (jk Y Y (jc Y Y Y (fun _ _ => kf Y) (yy 2 runUnderlying199 Y sizeOf197 Y Y (qN 0 isAgg197 Y Y Y Y ?_)))))))
  refine jc Y Y Y (fun _ _ => ZB Y Y) (jc Y Y Y (fun _ _ => Zz Y Y) (jr Y Y (ju (jl ?_))))
  obtain ⟨o, h1, h2⟩ := bindO hm
  refine jW (ι := Unit) (fun l => True) (fun l => [(0, ptr pb 0), (3, .int .u32 o)]) (fun l => [kc pb #[.slice qa0 na0 ca0, .int .i64 h01, .int .u32 h02] 199]) (fun l => []) ?_ ?_
  ·replace hm := h1
   refine jl ?_
   refine qi none (.free 0 (.free 1 (.free 2 (.hoist 3 (.free 4 (.free 5 (.free 6 (.hoist 7 (.free 8 (.free 9 .done)))))))))) _ Y (by decide +kernel) (fun w k hh => hh.draw k) (fun w hh => hh) ?_
   refine yJ Y Y Y (jn Y Y Y Y (fun _ _ => kf Y) (K8 1 runUnderlying199 sizeOf3 Y Y Y Y (QR 0 isAgg3 Y Y Y Y Y (yJ Y Y Y (jn Y Y Y Y (fun _ _ => kf Y) (K8 0 runUnderlying199 sizeOf92 Y Y Y Y (QR 0 isAgg92 Y Y Y Y Y ?_)))))))
   refine jn Y Y Y Y (fun w _ => kC hna0 (runUnderlying92 w) Y) (jn Y Y Y Y (fun _ _ => jab Y Y) (jL (ja ?_)))
   refine jz Y (fun h3 => ?_) (fun h3 => ?_)
   ·replace hm := ifD h3 hm
    refine qi none (.free 0 (.free 1 (.free 2 (.free 3 (.hoist 4 (.free 5 (.free 6 (.free 7 (.hoist 8 (.free 9 (.hoist 10 (.free 11 (.free 12 (.free 13 (.free 14 .done))))))))))))))) _ Y (by decide +kernel) (fun w k hh => hh.draw k) (fun w hh => hh) ?_
    refine yJ Y Y Y (yJ Y Y Y (jn Y Y Y Y (fun _ _ => kf Y) (K8 0 runUnderlying199 sizeOf92 Y Y Y Y (QR 0 isAgg92 Y Y Y Y Y (yJ Y Y Y (jn Y Y Y Y (fun _ _ => kf Y) (K8 1 runUnderlying199 sizeOf3 Y Y Y Y ?_)))))))
    refine QR 0 isAgg3 Y Y Y Y Y ?_
    obtain ⟨t29, h4, hm⟩ := bindO hm
    refine jn Y Y Y Y (fun w _ => yU h4 (runUnderlying92 w) (sizeOf5 w) Y Y hna0 hqa0) (jD Y Y Y Y (fun w hh => kK RU8 0 h4 (isAgg5 w) Y (hh.seg 0 Y) Y (Nat.add_zero _).symm) (jn Y Y Y Y (fun w _ => Z6 (runUnderlying5 w) (runUnderlying197 w) Y) (jn Y Y Y Y (fun _ _ => Zz Y Y) (jn Y Y Y Y (fun _ _ => ZB Y Y) (jn Y Y Y Y (fun _ _ => jE Y) (jL ?_))))))
    obtain rfl := sj hm
    exact jm () (trivial) (sE Y) (fun w hh => hh)
   replace hm := ifE h3 hm
   refine jx ?_
   obtain rfl := sj hm
   exact jm () (trivial) (sE Y) (fun w hh => hh)
  intro l hj
  replace hm := h2
  refine ja (jl ?_)
  obtain ⟨o_1, h5, h6⟩ := bindO hm
  refine jW (ι := Unit) (fun l_1 => True) (fun l_1 => [(3, .int .u32 o)]) (fun l_1 => [kc pb #[.slice qa0 na0 ca0, .int .i64 o_1.h0_1, .int .u32 o_1.h0_2] 199]) (fun l_1 => []) ?_ ?_
  ·replace hm := h5
   refine jw (jk Y Y (jc Y Y Y (fun _ _ => kf Y) (yy 1 runUnderlying199 Y sizeOf3 Y Y (qN 0 isAgg3 Y Y Y Y ?_))))
   obtain ⟨t38, h7, hm⟩ := bindO hm
   refine Kl h7 Y Y Y (jc Y Y Y (fun _ _ => kf Y) (yy 1 runUnderlying199 Y sizeOf3 Y Y (yv (cs' := #[_, _, _]) (S' := [_]) 0 (fun w => sizeOf3 w) Y Y Y Y Y Y Y (ju (jl ?_)))))
   refine qi none (.free 0 (.free 1 (.free 2 (.hoist 3 (.free 4 (.free 5 (.free 6 (.hoist 7 (.free 8 (.free 9 .done)))))))))) _ Y (by decide +kernel) (fun w k hh => hh.draw k) (fun w hh => hh) ?_
   refine yJ Y Y Y (jn Y Y Y Y (fun _ _ => kf Y) (K8 1 runUnderlying199 sizeOf3 Y Y Y Y (QR 0 isAgg3 Y Y Y Y Y (yJ Y Y Y (jn Y Y Y Y (fun _ _ => kf Y) (K8 0 runUnderlying199 sizeOf92 Y Y Y Y (QR 0 isAgg92 Y Y Y Y Y ?_)))))))
   refine jn Y Y Y Y (fun w _ => kC hna0 (runUnderlying92 w) Y) (jn Y Y Y Y (fun _ _ => Ya Y Y) (jL (ja ?_)))
   refine jz Y (fun h8 => ?_) (fun h8 => ?_)
   ·replace hm := ifD h8 hm
    refine jg (jk Y Y (jk Y Y (jk Y Y (jc Y Y Y (fun _ _ => kf Y) (yy 2 runUnderlying199 Y sizeOf197 Y Y (qN 0 isAgg197 Y Y Y Y (jc Y Y Y (fun _ _ => ZB Y Y) ?_)))))))
    refine jc Y Y Y (fun _ _ => kf Y) (yy 1 runUnderlying199 Y sizeOf3 Y Y (yv (cs' := #[_, _, _]) (S' := [_]) 0 (fun w => sizeOf3 w) Y Y Y Y Y Y Y (jc Y Y Y (fun _ _ => kf Y) (yy 2 runUnderlying199 Y sizeOf197 Y Y (yv (cs' := #[_, _, _]) (S' := [_]) 0 (fun w => sizeOf197 w) Y Y Y Y Y Y Y (jv ?_))))))
    obtain rfl := sj hm
    exact jm () (trivial) (sE Y) (fun w hh => hh)
   replace hm := ifE h8 hm
   refine jx ?_
   obtain rfl := sj hm
   exact jm () (trivial) (sE Y) (fun w hh => hh)
  intro l_1 hj
  replace hm := h6
  refine ja (jw (jk Y Y (jk Y Y (jc Y Y Y (fun _ _ => jaH Y Y (by decide)) (jc Y Y Y (fun _ _ => Z9 Y Y Y) (jc Y Y Y (fun _ _ => Z9 Y Y Y) (jc Y Y Y (fun w _ => Z6 (runUnderlying197 w) (runUnderlying3 w) Y) ?_)))))))
  refine jr Y Y (ju (jB ?_))
  obtain rfl := sj hm
  refine jq Y (fun w hh => (.tmp Y .nil)) (fun w hh => ⟨(), rfl, trivial, hh.se [0] [] 1 Y Y Y rfl⟩)
structure yX where
  r0 : Int
  h0_1 : Int
  h0_2 : Int
def j4 (h00 : (List Int)) (h01 : Int) (h02 : Int) (n1 : Int) : Option yX :=
 (Jk h00 h01 h02).bind fun t6 =>
 (addc n1 1).bind fun t8 =>
 (remc t6.r0 (max 1 t8)).bind fun t10 =>
 some (⟨t10, t6.h0_1, t6.h0_2⟩ : yX)
theorem kl (h00 : (List Int)) (h01 : Int) (h02 : Int) (n1 : Int) (pb : Nat) (qa0 : Option Addr) (na0 ca0 : Nat) (w : World) (hw : HV w (keys [kc pb #[.slice qa0 na0 ca0, .int .i64 h01, .int .u32 h02] 199] []) [kc pb #[.slice qa0 na0 ca0, .int .i64 h01, .int .u32 h02] 199] [] [(aB qa0, aO qa0, RU8.enc h00)] w) (hna0 : h00.length = na0) (hqa0 : AOK na0 qa0) (hla0 : na0 ≤ ca0) {res : yX} (hm : j4 h00 h01 h02 n1 = some res) :
    Calls Tryz.prog 146 #[ptr pb 0, .int .i64 n1] w (fun en w' => ∃ l : Unit, en = .returned (.int .i64 res.r0) ∧ (True) ∧ HV w (keys [kc pb #[.slice qa0 na0 ca0, .int .i64 h01, .int .u32 h02] 199] []) [kc pb #[.slice qa0 na0 ca0, .int .i64 res.h0_1, .int .u32 res.h0_2] 199] [] [] w') := by
  unfold j4 at hm
  refine yt func146 Y ntmps146 Y (e := [(0, _), (1, _)]) Y hw (jw (jr Y Y (ql (jk Y Y ?_))))
  obtain ⟨t6, h1, hm⟩ := bindO hm
  refine jd [_] [] Y Y Y Y Y Y Y call180 (fun w hh => Zu h00 h01 h02 pb qa0 na0 ca0 w (HV.callee (S0 := [_]) (vs0 := []) hh (roR hh 0 Y roN)) hna0 hqa0 hla0 h1) (fun l h2 => ?_)
  refine qc (S' := [_]) (vs' := []) [0] [] 0 Y Y Y Y (jk Y Y ?_)
  obtain ⟨t8, h3, hm⟩ := bindO hm
  refine Kl h3 Y Y Y (jc Y Y Y (fun _ _ => YL Y Y) ?_)
  obtain ⟨t10, h4, hm⟩ := bindO hm
  refine jc Y Y Y (fun _ _ => jbx h4 Y Y) (jr Y Y (ju (jB ?_)))
  obtain rfl := sj hm
  refine jq Y (fun w hh => (.tmp Y .nil)) (fun w hh => ⟨(), rfl, trivial, hh.se [0] [] 1 Y Y Y rfl⟩)
structure yj where
  r0 : Int
  h0_1 : Int
  h0_2 : Int
def yZ (h00 : (List Int)) (h01 : Int) (h02 : Int) (lo1 : Int) (hi2 : Int) : Option yj :=
 (subc hi2 lo1).bind fun t11 =>
 (j4 h00 h01 h02 t11).bind fun t12 =>
 (addc lo1 t12.r0).bind fun t13 =>
 some (⟨t13, t12.h0_1, t12.h0_2⟩ : yj)
theorem Qe (h00 : (List Int)) (h01 : Int) (h02 : Int) (lo1 : Int) (hi2 : Int) (pb : Nat) (qa0 : Option Addr) (na0 ca0 : Nat) (w : World) (hw : HV w (keys [kc pb #[.slice qa0 na0 ca0, .int .i64 h01, .int .u32 h02] 199] []) [kc pb #[.slice qa0 na0 ca0, .int .i64 h01, .int .u32 h02] 199] [] [(aB qa0, aO qa0, RU8.enc h00)] w) (hna0 : h00.length = na0) (hqa0 : AOK na0 qa0) (hla0 : na0 ≤ ca0) {res : yj} (hm : yZ h00 h01 h02 lo1 hi2 = some res) :
    Calls Tryz.prog 145 #[ptr pb 0, .int .i64 lo1, .int .i64 hi2] w (fun en w' => ∃ l : Unit, en = .returned (.int .i64 res.r0) ∧ (True) ∧ HV w (keys [kc pb #[.slice qa0 na0 ca0, .int .i64 h01, .int .u32 h02] 199] []) [kc pb #[.slice qa0 na0 ca0, .int .i64 res.h0_1, .int .u32 res.h0_2] 199] [] [] w') := by
  unfold yZ at hm
  refine yt func145 Y ntmps145 Y (e := [(0, _), (1, _), (2, _)]) Y hw (jw (jr Y Y (ql (jk Y Y (jk Y Y (jk Y Y (jk Y Y ?_)))))))
  obtain ⟨t11, h1, hm⟩ := bindO hm
  refine jc Y Y Y (fun _ _ => k3 h1 Y Y) ?_
  obtain ⟨t12, h2, hm⟩ := bindO hm
  refine jd [_] [] Y Y Y Y Y Y Y call146 (fun w hh => kl h00 h01 h02 t11 pb qa0 na0 ca0 w (HV.callee (S0 := [_]) (vs0 := []) hh (roR hh 0 Y roN)) hna0 hqa0 hla0 h2) (fun l h3 => ?_)
  refine qc (S' := [_]) (vs' := []) [0] [] 0 Y Y Y Y ?_
  obtain ⟨t13, h4, hm⟩ := bindO hm
  refine Kl h4 Y Y Y (jr Y Y (ju (jB ?_)))
  obtain rfl := sj hm
  refine jq Y (fun w hh => (.tmp Y .nil)) (fun w hh => ⟨(), rfl, trivial, hh.se [0] [] 1 Y Y Y rfl⟩)
structure KL where
  r0 : Bool
  h0_1 : Int
  h0_2 : Int
def zH (h00 : (List Int)) (h01 : Int) (h02 : Int) (n1 : Int) : Option KL :=
 (subc n1 1).bind fun t7 =>
 (j4 h00 h01 h02 t7).bind fun t8 =>
 some (⟨(decide (t8.r0 = 0)), t8.h0_1, t8.h0_2⟩ : KL)
theorem Yn (h00 : (List Int)) (h01 : Int) (h02 : Int) (n1 : Int) (pb : Nat) (qa0 : Option Addr) (na0 ca0 : Nat) (w : World) (hw : HV w (keys [kc pb #[.slice qa0 na0 ca0, .int .i64 h01, .int .u32 h02] 199] []) [kc pb #[.slice qa0 na0 ca0, .int .i64 h01, .int .u32 h02] 199] [] [(aB qa0, aO qa0, RU8.enc h00)] w) (hna0 : h00.length = na0) (hqa0 : AOK na0 qa0) (hla0 : na0 ≤ ca0) {res : KL} (hm : zH h00 h01 h02 n1 = some res) :
    Calls Tryz.prog 68 #[ptr pb 0, .int .i64 n1] w (fun en w' => ∃ l : Unit, en = .returned (.bool res.r0) ∧ (True) ∧ HV w (keys [kc pb #[.slice qa0 na0 ca0, .int .i64 h01, .int .u32 h02] 199] []) [kc pb #[.slice qa0 na0 ca0, .int .i64 res.h0_1, .int .u32 res.h0_2] 199] [] [] w') := by
  unfold zH at hm
  refine yt func68 Y ntmps68 Y (e := [(0, _), (1, _)]) Y hw (jw (jr Y Y (ql (jk Y Y (jk Y Y ?_)))))
  obtain ⟨t7, h1, hm⟩ := bindO hm
  refine jc Y Y Y (fun _ _ => k3 h1 Y Y) ?_
  obtain ⟨t8, h2, hm⟩ := bindO hm
  refine jd [_] [] Y Y Y Y Y Y Y call146 (fun w hh => kl h00 h01 h02 t7 pb qa0 na0 ca0 w (HV.callee (S0 := [_]) (vs0 := []) hh (roR hh 0 Y roN)) hna0 hqa0 hla0 h2) (fun l h3 => ?_)
  refine qc (S' := [_]) (vs' := []) [0] [] 0 Y Y Y Y (jc Y Y Y (fun _ _ => Je Y Y) (jr Y Y (ju (jB ?_))))
  obtain rfl := sj hm
  refine jq Y (fun w hh => (.tmp Y .nil)) (fun w hh => ⟨(), rfl, trivial, hh.se [0] [] 1 Y Y Y rfl⟩)
structure zq where
  h0_1 : Int
  h0_2 : Int
  r0 : (List Int)
structure Qg where
  h0_1 : Int
  h0_2 : Int
  out5 : (List Int)
structure zO where
  t9 : Int
  h0_1 : Int
  h0_2 : Int
  out5 : (List Int)
def y6 (n1 : Int) (h00 : (List Int)) (s : zO) : Option (zO ⊕ Qg) :=
 if s.t9 < (max 0 n1) then
 ((j4 h00 s.h0_1 s.h0_2 s.t9).bind fun t15 =>
 (Js s.out5 t15.r0 [s.t9]).bind fun t18 =>
 (addc s.t9 1).bind fun t19 =>
 some (.inl (⟨t19, t15.h0_1, t15.h0_2, t18⟩ : zO))) else
 (some (.inr (⟨s.h0_1, s.h0_2, s.out5⟩ : Qg)))
def zV (h00 : (List Int)) (h01 : Int) (h02 : Int) (n1 : Int) : Option zq :=
 (iterM FU (y6 n1 h00) (⟨0, h01, h02, []⟩ : zO)).bind fun o =>
 some (⟨o.h0_1, o.h0_2, o.out5⟩ : zq)
theorem Zl (h00 : (List Int)) (h01 : Int) (h02 : Int) (n1 : Int) (pb : Nat) (qa0 : Option Addr) (na0 ca0 : Nat) (w : World) (hw : HV w (keys [kc pb #[.slice qa0 na0 ca0, .int .i64 h01, .int .u32 h02] 199] []) [kc pb #[.slice qa0 na0 ca0, .int .i64 h01, .int .u32 h02] 199] [] [(aB qa0, aO qa0, RU8.enc h00)] w) (hna0 : h00.length = na0) (hqa0 : AOK na0 qa0) (hla0 : na0 ≤ ca0) {res : zq} (hm : zV h00 h01 h02 n1 = some res) :
    Calls Tryz.prog 69 #[ptr pb 0, .int .i64 n1] w (fun en w' => ∃ l : VL, en = .returned (sL l) ∧ (VOK 1 l.n l.cap (RI.enc res.r0) l.sp l.q) ∧ HV w (keys [kc pb #[.slice qa0 na0 ca0, .int .i64 h01, .int .u32 h02] 199] []) [kc pb #[.slice qa0 na0 ca0, .int .i64 res.h0_1, .int .u32 res.h0_2] 199] [vL 3 l (RI.enc res.r0)] [] w') := by
  unfold zV at hm
  refine yt func69 Y ntmps69 Y (e := [(0, _), (1, _)]) Y hw (jw (jc Y Y Y (fun _ _ => yO Y) (ql (jc Y Y Y (fun _ _ => yO Y) (ju (jl (jw ?_)))))))
  refine jk Y Y (jc Y Y Y (fun _ _ => YL Y Y) (jk Y Y (ju (Kj 3 ?_))))
  obtain ⟨o, h2, h3⟩ := bindO hm
  refine jW (ι := VL) (fun l => VOK 1 l.n l.cap (RI.enc o.out5) l.sp l.q) (fun l => [(5, sL l)]) (fun l => [kc pb #[.slice qa0 na0 ca0, .int .i64 o.h0_1, .int .u32 o.h0_2] 199]) (fun l => [vL 3 l (RI.enc o.out5)]) ?_ ?_
  ·replace hm := h2
   refine js ?_
   refine kb (ι := VL) hm (fun s l_1 => VOK 1 l_1.n l_1.cap (RI.enc s.out5) l_1.sp l_1.q) (fun s l_1 => [(0, ptr pb 0), (5, sL l_1), (8, .int .i64 (max 0 n1)), (9, .int .i64 s.t9)]) (fun s l_1 => [kc pb #[.slice qa0 na0 ca0, .int .i64 s.h0_1, .int .u32 s.h0_2] 199]) (fun s l_1 => [vL 3 l_1 (RI.enc s.out5)]) ⟨none, 0, 0, []⟩ (VOK.nil) (sE Y) (fun w hh => hh) (fun s l_1 r hpl hm h6 => ?_)
   have h5 := hpl
   unfold y6 at hm
   refine jw (KD Y Y Y (ju (jl ?_)))
   refine jz Y (fun h7 => ?_) (fun h7 => ?_)
   ·replace hm := ifD h7 hm
    refine jx (ja (jl (js (jw (jk Y Y (jr Y Y (ju ?_)))))))
    refine jg (jk Y Y (jk Y Y (jk Y Y ?_)))
    obtain ⟨t15, h8, hm⟩ := bindO hm
    refine jd [_] [] Y Y Y Y Y Y Y call146 (fun w hh => kl h00 s.h0_1 s.h0_2 s.t9 pb qa0 na0 ca0 w (HV.callee (S0 := [_]) (vs0 := []) hh (roR hh 0 Y roN)) hna0 hqa0 hla0 h8) (fun l_2 h9 => ?_)
    refine qc (S' := [_]) (vs' := [_]) [0] [0] 0 Y Y Y Y (jk Y Y ?_)
    refine qD RI [s.t9] (ps := [(0, _)]) (cells := [_]) (fun w => runUnderlying22 w) (fun w => sizeOf3 w) (fun w => zeroValue3 w) Y Y Y Y Y Y Y Y (fun L h10 => ?_)
    obtain ⟨t18, h11, hm⟩ := bindO hm
    refine qc (S' := [_]) (vs' := [_, _]) [0] [1, 0] 0 Y Y Y Y ?_
    refine jd [] [_, _] Y Y Y Y Y Y Y call149 (fun w hh => Zi s.out5 t15.r0 [s.t9] ⟨l_1.q, l_1.n, l_1.cap, l_1.sp⟩ ⟨L.q, L.n, L.cap, L.sp⟩ w (HV.callee (S0 := []) (vs0 := [_, _]) hh roN) h5 h10 h11) (fun l_3 h12 => ?_)
    have h13 := h12
    refine qc (S' := [_]) (vs' := [_, _]) [0] [0, 1] 0 Y Y Y Y (jr Y Y (jv (jA (ja (jg ?_)))))
    obtain ⟨t19, h14, hm⟩ := bindO hm
    refine Kl h14 Y Y Y (jk Y Y (jv ?_))
    obtain rfl := sj hm
    refine ja ?_
    exact jM _ l_3 Y (h13) (sE Y) (hsE [0] [0] 0 Y Y Y Y)
   replace hm := ifE h7 hm
   refine kz (jp (jp (jP ?_)))
   obtain rfl := sj hm
   have hbo := h6 _ Y
   subst hbo
   exact jm l_1 (h5) (sE Y) (fun w hh => hh)
  intro l hj
  have h4 := hj
  replace hm := h3
  refine ja (jw (jk Y Y (jr Y Y (ju (jB ?_)))))
  obtain rfl := sj hm
  refine jq Y (fun w hh => (.tmp Y .nil)) (fun w hh => ⟨l, rfl, h4, hh.se [0] [0] 1 Y Y Y rfl⟩)
structure yg where
  r5 : Int
  t11 : Int
def yd (c0 : Channel) (cell1 : Int) (s : yg) : Option (yg ⊕ Int) :=
 if s.t11 < (c0.sands.length : Int) then
 (((ix c0.sands s.t11).bind fun t13 =>
 (if t13.span.lo ≤ cell1 then
 (some (decide (cell1 ≤ t13.span.hi))) else
 (some false)).bind fun o_2 =>
 if o_2 = true then
 (some (max s.r5 t13.reach)) else
 (some s.r5)).bind fun o_1 =>
 (addc s.t11 1).bind fun t31 =>
 some (.inl (⟨o_1, t31⟩ : yg))) else
 (some (.inr s.r5))
def j5 (c0 : Channel) (cell1 : Int) : Option Int :=
 (iterM FU (yd c0 cell1) (⟨0, 0⟩ : yg)).bind fun o =>
 some o
theorem yl (c0 : Channel) (cell1 : Int) (qa0 : Option Addr) (na0 ca0 : Nat) (qa1 : Option Addr) (na1 ca1 : Nat) (qa2 : Option Addr) (na2 ca2 : Nat) (w : World) (hw : HV w (keys [] []) [] [] [(aB qa0, aO qa0, RI.enc c0.fords), (aB qa1, aO qa1, RSa.enc c0.sands), (aB qa2, aO qa2, RSi.enc c0.sights)] w) (hna0 : c0.fords.length = na0) (hqa0 : AOK na0 qa0) (hla0 : na0 ≤ ca0) (hna1 : c0.sands.length = na1) (hqa1 : AOK na1 qa1) (hla1 : na1 ≤ ca1) (hna2 : c0.sights.length = na2) (hqa2 : AOK na2 qa2) (hla2 : na2 ≤ ca2) {res : Int} (hm : j5 c0 cell1 = some res) :
    Calls Tryz.prog 63 #[.agg #[.int .i64 c0.cells, .int .i64 c0.tides, .slice qa0 na0 ca0, .slice qa1 na1 ca1, .slice qa2 na2 ca2], .int .i64 cell1] w (fun en w' => ∃ l : Unit, en = .returned (.int .i64 res) ∧ (True) ∧ HV w (keys [] []) [] [] [] w') := by
  unfold j5 at hm
  refine yt func63 Y ntmps63 Y (e := [(0, _), (1, _)]) Y hw (jw ?_)
  refine jS Y Y (fun b h1 => ?_)
  refine jr Y Y (ql (jr Y Y (ju (jl (jw (yy 3 runUnderlying26 Y sizeOf23 Y Y (qN 0 isAgg23 Y Y Y Y ?_)))))))
  refine jc Y Y Y (fun w _ => kC hna1 (runUnderlying23 w) Y) (jk Y Y (ju ?_))
  obtain ⟨o, h2, h3⟩ := bindO hm
  refine jW (ι := Unit) (fun l => True) (fun l => [(5, .int .i64 o)]) (fun l => [kc b #[.int .i64 c0.cells, .int .i64 c0.tides, .slice qa0 na0 ca0, .slice qa1 na1 ca1, .slice qa2 na2 ca2] 26]) (fun l => []) ?_ ?_
  ·replace hm := h2
   refine js ?_
   refine kb (ι := Unit) hm (fun s l_1 => True) (fun s l_1 => [(1, .int .i64 cell1), (5, .int .i64 s.r5), (9, .slice qa1 na1 ca1), (10, .int .i64 (c0.sands.length : Int)), (11, .int .i64 s.t11)]) (fun s l_1 => [kc b #[.int .i64 c0.cells, .int .i64 c0.tides, .slice qa0 na0 ca0, .slice qa1 na1 ca1, .slice qa2 na2 ca2] 26]) (fun s l_1 => []) () (trivial) (sE Y) (fun w hh => hh) (fun s l_1 r hpl hm h4 => ?_)
   unfold yd at hm
   refine jw (KD Y Y Y (ju (jl ?_)))
   refine jz Y (fun h5 => ?_) (fun h5 => ?_)
   ·replace hm := ifD h5 hm
    refine jx (ja (jl ?_))
    obtain ⟨o_1, h6, h7⟩ := bindO hm
    refine jW (ι := Unit) (fun l_2 => True) (fun l_2 => [(1, .int .i64 cell1), (5, .int .i64 o_1), (9, .slice qa1 na1 ca1), (10, .int .i64 (c0.sands.length : Int)), (11, .int .i64 s.t11)]) (fun l_2 => [kc b #[.int .i64 c0.cells, .int .i64 c0.tides, .slice qa0 na0 ca0, .slice qa1 na1 ca1, .slice qa2 na2 ca2] 26]) (fun l_2 => []) ?_ ?_
    ·replace hm := h6
     refine js (jw ?_)
     obtain ⟨t13, h8, hm⟩ := bindO hm
     refine jc Y Y Y (fun w _ => yU h8 (runUnderlying23 w) (sizeOf98 w) Y Y hna1 hqa1) ?_
     refine jc Y Y Y (fun w hh => JW RSa 0 [.int .i64 t13.span.lo, .int .i64 t13.span.hi, .int .i64 t13.reach] h8 (isAgg98 w) (sizeOf98 w) Y (hh.seg 1 Y) Y (Nat.add_zero _).symm) ?_
     refine jy (fun w => zeroValue98 w) Y (fun b_1 h9 => ?_)
     refine kd (us := #[_, _, _]) (cs' := [_, _, _]) (S' := [_, _]) 0 (fun w => sizeOf98 w) Y Y Y Y Y Y Y (ju (jl ?_))
     obtain ⟨o_2, h10, h11⟩ := bindO hm
     refine jW (ι := Unit) (fun l_3 => True) (fun l_3 => [(1, .int .i64 cell1), (5, .int .i64 s.r5), (7, ptr b_1 0), (9, .slice qa1 na1 ca1), (10, .int .i64 (c0.sands.length : Int)), (11, .int .i64 s.t11), (26, .bool o_2)]) (fun l_3 => [kc b_1 #[.int .i64 t13.span.lo, .int .i64 t13.span.hi, .int .i64 t13.reach] 98, kc b #[.int .i64 c0.cells, .int .i64 c0.tides, .slice qa0 na0 ca0, .slice qa1 na1 ca1, .slice qa2 na2 ca2] 26]) (fun l_3 => []) ?_ ?_
     ·replace hm := h10
      refine jg (yy 0 runUnderlying98 Y sizeOf50 Y Y (yy 0 runUnderlying50 Y sizeOf3 Y Y (qN 0 isAgg3 Y Y Y Y (jk Y Y (jc Y Y Y (fun _ _ => ZV Y Y) (jk Y Y ?_))))))
      refine jK 20 Y (fun h12 => ?_) (fun h12 => ?_)
      ·replace hm := ifD h12 hm
       refine jb Y Y (jk Y Y (jb Y Y (yy 0 runUnderlying98 Y sizeOf50 Y Y (jb Y Y (yy 1 runUnderlying50 Y sizeOf3 Y Y (jb Y Y (qN 0 isAgg3 Y Y Y Y ?_)))))))
       refine jb Y Y (jc Y Y Y (fun _ _ => ZV Y Y) (y8 Y Y Y (jv ?_)))
       obtain rfl := sj hm
       exact jm () (trivial) (sE Y) (fun w hh => hh)
      replace hm := ifE h12 hm
      refine g_k Y Y Y Y (g_k Y Y Y Y (g_k Y Y Y Y (g_k Y Y Y Y (g_k Y Y Y Y (yx Y Y Y (jv ?_))))))
      obtain rfl := sj hm
      exact jm () (trivial) (sE Y) (fun w hh => hh)
     intro l_3 hj
     replace hm := h11
     refine ja ?_
     refine jz Y (fun h13 => ?_) (fun h13 => ?_)
     ·replace hm := ifT (h13) hm
      refine jg (jk Y Y (yy 2 runUnderlying98 Y sizeOf3 Y Y (qN 0 isAgg3 Y Y Y Y (jc Y Y Y (fun _ _ => YL Y Y) (jr Y Y (jv (jA ?_)))))))
      obtain rfl := sj hm
      exact jm () (trivial) (sE Y) (hsE [1] [] 0 Y Y Y Y)
     replace hm := ifN h13 hm
     refine jx (jA ?_)
     obtain rfl := sj hm
     exact jm () (trivial) (sE Y) (hsE [1] [] 0 Y Y Y Y)
    intro l_2 hj
    replace hm := h7
    refine ja (jg ?_)
    obtain ⟨t31, h14, hm⟩ := bindO hm
    refine Kl h14 Y Y Y (jk Y Y (jv ?_))
    obtain rfl := sj hm
    refine ja ?_
    exact jM _ () Y (trivial) (sE Y) (fun w hh => hh)
   replace hm := ifE h5 hm
   refine kz (jp (jp (jP ?_)))
   obtain rfl := sj hm
   have hbo := h4 _ Y
   subst hbo
   exact jm () (trivial) (sE Y) (fun w hh => hh)
  intro l hj
  replace hm := h3
  refine ja (jw (jk Y Y (jr Y Y (ju (jB ?_)))))
  obtain rfl := sj hm
  refine jq Y (fun w hh => (.tmp Y .nil)) (fun w hh => ⟨(), rfl, trivial, hh.se [] [] 3 Y Y Y rfl⟩)
structure zI where
  b0_1 : Int
  b0_2 : Int
  r0 : (List (List Int))
structure JV where
  b0_1 : Int
  b0_2 : Int
  out5 : (List (List Int))
structure yn where
  t17 : Int
  b0_1 : Int
  b0_2 : Int
  out5 : (List (List Int))
structure JS where
  b0_1 : Int
  b0_2 : Int
  r0 : (List Int)
structure yo where
  t33 : Int
  b0_1 : Int
  b0_2 : Int
  r0 : (List Int)
structure JY where
  b0_1 : Int
  b0_2 : Int
  r0 : (List Int)
def qF (t31 : zq) (t27 : (List Int)) (c1 : Channel) (b00 : (List Int)) (s_1 : yo) : Option (yo ⊕ JS) :=
 if s_1.t33 < (t31.r0.length : Int) then
 (((ix t31.r0 s_1.t33).bind fun t35 =>
 (ix t27 t35).bind fun t39 =>
 (ix t27 t35).bind fun t45 =>
 (ix t27 t35).bind fun t52 =>
 (j5 c1 t45).bind fun t47 =>
 (negc t47).bind fun t48 =>
 (j5 c1 t52).bind fun t54 =>
 (yZ b00 s_1.b0_1 s_1.b0_2 t48 t54).bind fun t55 =>
 (addc t39 t55.r0).bind fun t56 =>
 (if 0 ≤ t56 then
 (if t56 < c1.cells then
 (if t35 = 0 then
 ((subc (s_1.r0.length : Int) 1).bind fun t82 =>
 if t35 = t82 then
 (some true) else
 ((addc t35 1).bind fun t88 =>
 (ix s_1.r0 t88).bind fun t89 =>
 some (decide (t56 < t89)))) else
 ((subc t35 1).bind fun t72 =>
 (ix s_1.r0 t72).bind fun t73 =>
 if t73 < t56 then
 ((subc (s_1.r0.length : Int) 1).bind fun t82_1 =>
 if t35 = t82_1 then
 (some true) else
 ((addc t35 1).bind fun t88_1 =>
 (ix s_1.r0 t88_1).bind fun t89_1 =>
 some (decide (t56 < t89_1)))) else
 (some false))) else
 (some false)) else
 (some false)).bind fun o_3 =>
 if o_3 = true then
 ((ix s_1.r0 t35).bind fun t97 =>
 (some (s_1.r0.set (Int.toNat t35) t56)).bind fun r0 =>
 some (⟨t55.h0_1, t55.h0_2, r0⟩ : JY)) else
 (some (⟨t55.h0_1, t55.h0_2, s_1.r0⟩ : JY))).bind fun o_2 =>
 (addc s_1.t33 1).bind fun t98 =>
 some (.inl (⟨t98, o_2.b0_1, o_2.b0_2, o_2.r0⟩ : yo))) else
 (some (.inr (⟨s_1.b0_1, s_1.b0_2, s_1.r0⟩ : JS)))
def qC (c1 : Channel) (b00 : (List Int)) (s : yn) : Option (yn ⊕ JV) :=
 if s.t17 < c1.tides then
 ((subc (s.out5.length : Int) 1).bind fun t22 =>
 (ix s.out5 t22).bind fun t23 =>
 (Ke t23).bind fun t25 =>
 (Ke t25).bind fun t27 =>
 (zV b00 s.b0_1 s.b0_2 (t25.length : Int)).bind fun t31 =>
 (iterM FU (qF t31 t27 c1 b00) (⟨0, t31.h0_1, t31.h0_2, t25⟩ : yo)).bind fun o_1 =>
 (appc 24 s.out5 [o_1.r0]).bind fun t102 =>
 (addc s.t17 1).bind fun t103 =>
 some (.inl (⟨t103, o_1.b0_1, o_1.b0_2, t102⟩ : yn))) else
 (some (.inr (⟨s.b0_1, s.b0_2, s.out5⟩ : JV)))
def kV (b00 : (List Int)) (b01 : Int) (b02 : Int) (c1 : Channel) : Option zI :=
 (Ke c1.fords).bind fun t13 =>
 (iterM FU (qC c1 b00) (⟨0, b01, b02, [t13]⟩ : yn)).bind fun o =>
 some (⟨o.b0_1, o.b0_2, o.out5⟩ : zI)
theorem KF (b00 : (List Int)) (b01 : Int) (b02 : Int) (c1 : Channel) (pb : Nat) (qa0 : Option Addr) (na0 ca0 : Nat) (qa1 : Option Addr) (na1 ca1 : Nat) (qa2 : Option Addr) (na2 ca2 : Nat) (qa3 : Option Addr) (na3 ca3 : Nat) (w : World) (hw : HV w (keys [kc pb #[.slice qa0 na0 ca0, .int .i64 b01, .int .u32 b02] 199] []) [kc pb #[.slice qa0 na0 ca0, .int .i64 b01, .int .u32 b02] 199] [] [(aB qa0, aO qa0, RU8.enc b00), (aB qa1, aO qa1, RI.enc c1.fords), (aB qa2, aO qa2, RSa.enc c1.sands), (aB qa3, aO qa3, RSi.enc c1.sights)] w) (hna0 : b00.length = na0) (hqa0 : AOK na0 qa0) (hla0 : na0 ≤ ca0) (hna1 : c1.fords.length = na1) (hqa1 : AOK na1 qa1) (hla1 : na1 ≤ ca1) (hna2 : c1.sands.length = na2) (hqa2 : AOK na2 qa2) (hla2 : na2 ≤ ca2) (hna3 : c1.sights.length = na3) (hqa3 : AOK na3 qa3) (hla3 : na3 ≤ ca3) {res : zI} (hm : kV b00 b01 b02 c1 = some res) :
    Calls Tryz.prog 78 #[ptr pb 0, .agg #[.int .i64 c1.cells, .int .i64 c1.tides, .slice qa1 na1 ca1, .slice qa2 na2 ca2, .slice qa3 na3 ca3]] w (fun en w' => ∃ l : DL, en = .returned (sL l.v) ∧ (VOK 1 l.v.n l.v.cap (RwH.enc l.rs) l.v.sp l.v.q ∧ DOK RI res.r0 l.rs) ∧ HV w (keys [kc pb #[.slice qa0 na0 ca0, .int .i64 b01, .int .u32 b02] 199] []) [kc pb #[.slice qa0 na0 ca0, .int .i64 res.b0_1, .int .u32 res.b0_2] 199] [⟨22, RwH.enc l.rs, l.v.sp, l.v.q, dbl 3 RI res.r0 l.rs⟩] [] w') := by
  unfold kV at hm
  refine yt func78 Y ntmps78 Y (e := [(0, _), (1, _)]) Y hw (jw ?_)
  refine jS Y Y (fun b h3 => ?_)
  refine jc Y Y Y (fun _ _ => yO Y) (ql (yy 2 runUnderlying26 Y sizeOf22 Y Y (qN 0 isAgg22 Y Y Y Y ?_)))
  obtain ⟨t13, h4, hm⟩ := bindO hm
  refine jd [] [] Y Y Y Y Y Y Y call46 (fun w hh => YP c1.fords qa1 na1 ca1 w (HV.callee (S0 := []) (vs0 := []) hh (roR hh 1 Y roN)) hna1 hqa1 hla1 h4) (fun l h5 => ?_)
  have h6 := h5
  refine qc (S' := [_, _]) (vs' := [_]) [0, 1] [0] 0 Y Y Y Y ?_
  refine qD RwH [(⟨l.q, l.n, l.cap, l.sp⟩ : VL)] (ps := [(0, _)]) (cells := [_]) (fun w => runUnderlying41 w) (fun w => sizeOf22 w) (fun w => zeroValue22 w) Y Y Y Y Y Y Y Y (fun L h7 => ?_)
  refine ZO (E2 := 3) RI 1 (Y : _ = ([[]] : List (List Int))) (fun h8 => ?_)
  refine qc (S' := [_, _]) (vs' := [_, _]) [0, 1] [0, 1] 0 Y Y Y Y ?_
  refine ZQ RI (l' := [t13]) 0 l.n l.cap h8 h6 Y Y (fun h9 => ?_)
  have h10 : DOK RI [t13] [(⟨l.q, l.n, l.cap, l.sp⟩ : VL)] := h9
  refine jaf (S' := [_, _]) (vs' := [⟨22, RwH.enc [(⟨l.q, l.n, l.cap, l.sp⟩ : VL)], L.sp, L.q, dbl 3 RI [t13] [(⟨l.q, l.n, l.cap, l.sp⟩ : VL)]⟩]) [0, 1] [0] 0 (by decide) (by decide) Y Y Y ?_
  refine jr Y Y (ju (jl (jw (yy 1 runUnderlying26 Y sizeOf3 Y Y (qN 0 isAgg3 Y Y Y Y (jk Y Y (ju ?_)))))))
  obtain ⟨o, h11, h12⟩ := bindO hm
  refine jW (ι := DL) (fun l_1 => VOK 1 l_1.v.n l_1.v.cap (RwH.enc l_1.rs) l_1.v.sp l_1.v.q ∧ DOK RI o.out5 l_1.rs) (fun l_1 => [(5, sL l_1.v)]) (fun l_1 => [kc b #[.int .i64 c1.cells, .int .i64 c1.tides, .slice qa1 na1 ca1, .slice qa2 na2 ca2, .slice qa3 na3 ca3] 26, kc pb #[.slice qa0 na0 ca0, .int .i64 o.b0_1, .int .u32 o.b0_2] 199]) (fun l_1 => [⟨22, RwH.enc l_1.rs, l_1.v.sp, l_1.v.q, dbl 3 RI o.out5 l_1.rs⟩]) ?_ ?_
  ·replace hm := h11
   refine js ?_
   refine kb (ι := DL) hm (fun s l_2 => VOK 1 l_2.v.n l_2.v.cap (RwH.enc l_2.rs) l_2.v.sp l_2.v.q ∧ DOK RI s.out5 l_2.rs) (fun s l_2 => [(0, ptr pb 0), (3, ptr b 0), (5, sL l_2.v), (16, .int .i64 c1.tides), (17, .int .i64 s.t17)]) (fun s l_2 => [kc b #[.int .i64 c1.cells, .int .i64 c1.tides, .slice qa1 na1 ca1, .slice qa2 na2 ca2, .slice qa3 na3 ca3] 26, kc pb #[.slice qa0 na0 ca0, .int .i64 s.b0_1, .int .u32 s.b0_2] 199]) (fun s l_2 => [⟨22, RwH.enc l_2.rs, l_2.v.sp, l_2.v.q, dbl 3 RI s.out5 l_2.rs⟩]) (⟨⟨L.q, L.n, L.cap, L.sp⟩, [(⟨l.q, l.n, l.cap, l.sp⟩ : VL)]⟩) (⟨h7, h10⟩) (sE Y) (fun w hh => hh) (fun s l_2 r hpl hm h17 => ?_)
   obtain ⟨h15, h16⟩ := hpl
   unfold qC at hm
   refine jw (KD Y Y Y (ju (jl ?_)))
   refine jz Y (fun h18 => ?_) (fun h18 => ?_)
   ·replace hm := ifD h18 hm
    refine jx (ja (jl (js (jw (jk Y Y (jk Y Y (jc Y Y Y (fun w _ => JZ (Eq.trans (h16).len (vlen RwH h15 Y)) (runUnderlying41 w) Y) ?_)))))))
    obtain ⟨t22, h19, hm⟩ := bindO hm
    refine jc Y Y Y (fun _ _ => k3 h19 Y Y) ?_
    obtain ⟨t23, h20, hm⟩ := bindO hm
    obtain ⟨L_1, h21, h22⟩ := (h16).row h20
    refine jc Y Y Y (fun w _ => yz h21 (runUnderlying41 w) (sizeOf22 w) Y Y (vlen RwH h15 Y) (vne h15)) (jc Y Y Y (fun w hh => kK RwH 0 h21 (isAgg22 w) Y (hh.vseg 0 Y h15) Y (Nat.add_zero _).symm) ?_)
    obtain ⟨t25, h23, hm⟩ := bindO hm
    refine jd [] [] Y Y Y Y Y Y Y call46 (fun w hh => YP t23 (qA L_1.q) L_1.n L_1.cap w (HV.callee (S0 := []) (vs0 := []) hh (roC (hh.dsepA (S0 := []) (vs0 := []) 0 Y h20 h21 h22) roN)) (vlen RI h22 Y) (AOK.q (vne h22)) (h22).hle h23) (fun l_3 h24 => ?_)
    have h25 := h24
    refine qc (S' := [_, _]) (vs' := [_, _]) [0, 1] [0, 1] 0 Y Y Y Y (jr Y Y (ql (jk Y Y ?_)))
    obtain ⟨t27, h26, hm⟩ := bindO hm
    refine jd [] [] Y Y Y Y Y Y Y call46 (fun w hh => YP t25 (qA l_3.q) l_3.n l_3.cap w (HV.callee (S0 := []) (vs0 := []) hh (roC (hh.vsepA 0 Y h25) roN)) (vlen RI h25 Y) (AOK.q (vne h25)) (h25).hle h26) (fun l_4 h27 => ?_)
    have h28 := h27
    refine qc (S' := [_, _]) (vs' := [_, _, _]) [0, 1] [0, 1, 2] 0 Y Y Y Y (jr Y Y (ju (jl (jw (jk Y Y (jk Y Y (jc Y Y Y (fun w _ => JZ (vlen RI h25 Y) (runUnderlying22 w) Y) ?_)))))))
    obtain ⟨t31, h29, hm⟩ := bindO hm
    refine qc (S' := [_, _]) (vs' := [_, _, _]) [1, 0] [0, 1, 2] 0 Y Y Y Y ?_
    refine jd [_] [] Y Y Y Y Y Y Y call69 (fun w hh => Zl b00 s.b0_1 s.b0_2 (t25.length : Int) pb qa0 na0 ca0 w (HV.callee (S0 := [_]) (vs0 := []) hh (roR hh 0 Y roN)) hna0 hqa0 hla0 h29) (fun l_5 h30 => ?_)
    have h31 := h30
    refine qc (S' := [_, _]) (vs' := [_, _, _, _]) [0, 1] [0, 1, 2, 3] 0 Y Y Y Y (jc Y Y Y (fun w _ => JZ (vlen RI h31 Y) (runUnderlying22 w) Y) (jk Y Y (ju ?_)))
    obtain ⟨o_1, h32, h33⟩ := bindO hm
    refine jW (ι := Unit) (fun l_6 => VOK 1 l_3.n l_3.cap (RI.enc o_1.r0) l_3.sp l_3.q) (fun l_6 => [(0, ptr pb 0), (3, ptr b 0), (5, sL l_2.v), (6, sL l_3), (16, .int .i64 c1.tides), (17, .int .i64 s.t17)]) (fun l_6 => [kc pb #[.slice qa0 na0 ca0, .int .i64 o_1.b0_1, .int .u32 o_1.b0_2] 199, kc b #[.int .i64 c1.cells, .int .i64 c1.tides, .slice qa1 na1 ca1, .slice qa2 na2 ca2, .slice qa3 na3 ca3] 26]) (fun l_6 => [⟨22, RwH.enc l_2.rs, l_2.v.sp, l_2.v.q, dbl 3 RI s.out5 l_2.rs⟩, vL 3 l_3 (RI.enc o_1.r0)]) ?_ ?_
    ·replace hm := h32
     refine js ?_
     refine kb (ι := Unit) hm (fun s_1 l_7 => VOK 1 l_3.n l_3.cap (RI.enc s_1.r0) l_3.sp l_3.q) (fun s_1 l_7 => [(0, ptr pb 0), (3, ptr b 0), (5, sL l_2.v), (6, sL l_3), (7, sL l_4), (16, .int .i64 c1.tides), (17, .int .i64 s.t17), (31, sL l_5), (32, .int .i64 (t31.r0.length : Int)), (33, .int .i64 s_1.t33)]) (fun s_1 l_7 => [kc pb #[.slice qa0 na0 ca0, .int .i64 s_1.b0_1, .int .u32 s_1.b0_2] 199, kc b #[.int .i64 c1.cells, .int .i64 c1.tides, .slice qa1 na1 ca1, .slice qa2 na2 ca2, .slice qa3 na3 ca3] 26]) (fun s_1 l_7 => [⟨22, RwH.enc l_2.rs, l_2.v.sp, l_2.v.q, dbl 3 RI s.out5 l_2.rs⟩, vL 3 l_3 (RI.enc s_1.r0), vL 3 l_4 (RI.enc t27), vL 3 l_5 (RI.enc t31.r0)]) () (h25) (sE Y) (hsE [0, 1] [3, 2, 1, 0] 0 Y Y Y Y) (fun s_1 l_7 r_1 hpl hm h36 => ?_)
     have h35 := hpl
     unfold qF at hm
     refine jw (KD Y Y Y (ju (jl ?_)))
     refine jz Y (fun h37 => ?_) (fun h37 => ?_)
     ·replace hm := ifD h37 hm
      refine jx (ja (jl ?_))
      obtain ⟨o_2, h38, h39⟩ := bindO hm
      refine jW (ι := Unit) (fun l_8 => VOK 1 l_3.n l_3.cap (RI.enc o_2.r0) l_3.sp l_3.q) (fun l_8 => [(0, ptr pb 0), (3, ptr b 0), (5, sL l_2.v), (6, sL l_3), (7, sL l_4), (16, .int .i64 c1.tides), (17, .int .i64 s.t17), (31, sL l_5), (32, .int .i64 (t31.r0.length : Int)), (33, .int .i64 s_1.t33)]) (fun l_8 => [kc pb #[.slice qa0 na0 ca0, .int .i64 o_2.b0_1, .int .u32 o_2.b0_2] 199, kc b #[.int .i64 c1.cells, .int .i64 c1.tides, .slice qa1 na1 ca1, .slice qa2 na2 ca2, .slice qa3 na3 ca3] 26]) (fun l_8 => [⟨22, RwH.enc l_2.rs, l_2.v.sp, l_2.v.q, dbl 3 RI s.out5 l_2.rs⟩, vL 3 l_3 (RI.enc o_2.r0), vL 3 l_4 (RI.enc t27), vL 3 l_5 (RI.enc t31.r0)]) ?_ ?_
      ·replace hm := h38
       refine js (jw ?_)
       obtain ⟨t35, h41, hm⟩ := bindO hm
       refine jc Y Y Y (fun w _ => yz h41 (runUnderlying22 w) (sizeOf3 w) Y Y (vlen RI h31 Y) (vne h31)) (jc Y Y Y (fun w hh => kK RI 0 h41 (isAgg3 w) Y (hh.vseg 3 Y h31) Y (Nat.add_zero _).symm) (jr Y Y (ju (jl ?_))))
       refine qi none (.free 0 (.free 1 (.free 2 (.hoist 3 (.free 4 (.hoist 5 (.free 6 (.free 7 (.free 8 (.hoist 9 (.hoist 12 (.free 13 (.free 14 (.free 15 (.hoist 16 (.one 10 (.free 11 (.one 17 (.one 18 (.free 19 (.free 20 .done))))))))))))))))))))) (HV _ _ [kc b #[.int .i64 c1.cells, .int .i64 c1.tides, .slice qa1 na1 ca1, .slice qa2 na2 ca2, .slice qa3 na3 ca3] 26] [⟨22, RwH.enc l_2.rs, l_2.v.sp, l_2.v.q, dbl 3 RI s.out5 l_2.rs⟩, vL 3 l_3 (RI.enc s_1.r0), vL 3 l_4 (RI.enc t27), vL 3 l_5 (RI.enc t31.r0)] _) Y (by decide +kernel) (fun w k hh => hh.draw k) (hsE [1] [0, 1, 2, 3] 0 Y Y Y Y) ?_
       refine yJ Y Y Y (yJ Y Y Y ?_)
       obtain ⟨t39, h42, hm⟩ := bindO hm
       refine jn Y Y Y Y (fun w _ => yz h42 (runUnderlying22 w) (sizeOf3 w) Y Y (vlen RI h28 Y) (vne h28)) (jD Y Y Y Y (fun w hh => kK RI 0 h42 (isAgg3 w) Y (hh.vseg 2 Y h28) Y (Nat.add_zero _).symm) (yJ Y Y Y (jD Y Y Y Y (fun w hh => jJ (vs := [_, _, _, _, _]) (isAgg26 w) (sizeOf26 w) Y (hh.cells 0 Y Y)) (yJ Y Y Y (yJ Y Y Y ?_)))))
       obtain ⟨t45, h43, hm⟩ := bindO hm
       refine jn Y Y Y Y (fun w _ => yz h43 (runUnderlying22 w) (sizeOf3 w) Y Y (vlen RI h28 Y) (vne h28)) (jD Y Y Y Y (fun w hh => kK RI 0 h43 (isAgg3 w) Y (hh.vseg 2 Y h28) Y (Nat.add_zero _).symm) (jD Y Y Y Y (fun w hh => jJ (vs := [_, _, _, _, _]) (isAgg26 w) (sizeOf26 w) Y (hh.cells 0 Y Y)) (yJ Y Y Y (yJ Y Y Y ?_))))
       obtain ⟨t52, h44, hm⟩ := bindO hm
       refine jn Y Y Y Y (fun w _ => yz h44 (runUnderlying22 w) (sizeOf3 w) Y Y (vlen RI h28 Y) (vne h28)) (jD Y Y Y Y (fun w hh => kK RI 0 h44 (isAgg3 w) Y (hh.vseg 2 Y h28) Y (Nat.add_zero _).symm) (jF Y ?_))
       obtain ⟨t47, h45, hm⟩ := bindO hm
       refine jd [] [] Y Y Y Y Y Y Y call63 (fun w hh => yl c1 t45 qa1 na1 ca1 qa2 na2 ca2 qa3 na3 ca3 w (HV.callee (S0 := []) (vs0 := []) hh (roR hh 1 Y (roR hh 2 Y (roR hh 3 Y roN)))) hna1 hqa1 hla1 hna2 hqa2 hla2 hna3 hqa3 hla3 h45) (fun l_9 h46 => ?_)
       refine jo (hsE [1] [0, 1, 2, 3] 0 Y Y Y Y) ?_
       obtain ⟨t48, h47, hm⟩ := bindO hm
       refine jn Y Y Y Y (fun _ _ => jbt h47 Y) (jF Y ?_)
       obtain ⟨t54, h48, hm⟩ := bindO hm
       refine jd [] [] Y Y Y Y Y Y Y call63 (fun w hh => yl c1 t52 qa1 na1 ca1 qa2 na2 ca2 qa3 na3 ca3 w (HV.callee (S0 := []) (vs0 := []) hh (roR hh 1 Y (roR hh 2 Y (roR hh 3 Y roN)))) hna1 hqa1 hla1 hna2 hqa2 hla2 hna3 hqa3 hla3 h48) (fun l_10 h49 => ?_)
       refine jo (hsE [1] [0, 1, 2, 3] 0 Y Y Y Y) (jF Y ?_)
       obtain ⟨t55, h50, hm⟩ := bindO hm
       refine jd [_] [] Y Y Y Y Y Y Y call145 (fun w hh => Qe b00 s_1.b0_1 s_1.b0_2 t48 t54 pb qa0 na0 ca0 w (HV.callee (S0 := [_]) (vs0 := []) hh (roR hh 0 Y roN)) hna0 hqa0 hla0 h50) (fun l_11 h51 => ?_)
       refine qc (S' := [_, _]) (vs' := [_, _, _, _]) [0, 1] [0, 1, 2, 3] 0 Y Y Y Y (jo (hsE [1] [0, 1, 2, 3] 0 Y Y Y Y) ?_)
       obtain ⟨t56, h52, hm⟩ := bindO hm
       refine jn Y Y Y Y (fun _ _ => Kw h52 Y Y) (jn Y Y Y Y (fun _ _ => jE Y) (jL (ja (jl ?_))))
       obtain ⟨o_3, h53, h54⟩ := bindO hm
       refine jW (ι := Unit) (fun l_12 => True) (fun l_12 => [(0, ptr pb 0), (3, ptr b 0), (5, sL l_2.v), (6, sL l_3), (7, sL l_4), (9, .int .i64 t35), (10, .int .i64 t56), (16, .int .i64 c1.tides), (17, .int .i64 s.t17), (31, sL l_5), (32, .int .i64 (t31.r0.length : Int)), (33, .int .i64 s_1.t33), (93, .bool o_3)]) (fun l_12 => [kc pb #[.slice qa0 na0 ca0, .int .i64 t55.h0_1, .int .u32 t55.h0_2] 199, kc b #[.int .i64 c1.cells, .int .i64 c1.tides, .slice qa1 na1 ca1, .slice qa2 na2 ca2, .slice qa3 na3 ca3] 26]) (fun l_12 => [⟨22, RwH.enc l_2.rs, l_2.v.sp, l_2.v.q, dbl 3 RI s.out5 l_2.rs⟩, vL 3 l_3 (RI.enc s_1.r0), vL 3 l_4 (RI.enc t27), vL 3 l_5 (RI.enc t31.r0)]) ?_ ?_
       ·replace hm := h53
        refine jg (jk Y Y (jc Y Y Y (fun _ _ => Ya Y Y) (jk Y Y ?_)))
        refine jK 59 Y (fun h55 => ?_) (fun h55 => ?_)
        ·replace hm := ifD h55 hm
         refine jb Y Y (jk Y Y (jb Y Y (yy 0 runUnderlying26 Y sizeOf3 Y Y (jb Y Y (qN 1 isAgg3 Y Y Y Y (jb Y Y (KD Y Y Y ?_)))))))
         refine y8 Y Y Y (jk Y Y ?_)
         refine jK 65 Y (fun h56 => ?_) (fun h56 => ?_)
         ·replace hm := ifD h56 hm
          refine jb Y Y (jk Y Y (jb Y Y (jc Y Y Y (fun _ _ => Je Y Y) (jb Y Y (jk Y Y ?_)))))
          refine jK 68 Y (fun h57 => ?_) (fun h57 => ?_)
          ·replace hm := ifD h57 hm
           refine g_k Y Y Y Y (g_k Y Y Y Y (g_k Y Y Y Y (g_k Y Y Y Y (g_k Y Y Y Y (g_k Y Y Y Y (g_k Y Y Y Y (jb Y Y ?_)))))))
           refine y8 Y Y Y (y8 Y Y Y (jk Y Y (jb Y Y (jk Y Y (jb Y Y (jk Y Y (jb Y Y ?_)))))))
           refine jc Y Y Y (fun w _ => JZ (vlen RI h35 Y) (runUnderlying22 w) Y) (jb Y Y ?_)
           obtain ⟨t82, h58, hm⟩ := bindO hm
           refine jc Y Y Y (fun _ _ => k3 h58 Y Y) (jb Y Y (jc Y Y Y (fun _ _ => Je Y Y) (jb Y Y (jk Y Y ?_))))
           refine jK 84 Y (fun h59 => ?_) (fun h59 => ?_)
           ·replace hm := ifD h59 hm
            refine g_k Y Y Y Y (g_k Y Y Y Y (g_k Y Y Y Y (g_k Y Y Y Y (g_k Y Y Y Y (g_k Y Y Y Y (g_k Y Y Y Y (jb Y Y ?_)))))))
            refine y8 Y Y Y (y8 Y Y Y (jv ?_))
            obtain rfl := sj hm
            exact jm () (trivial) (sE Y) (fun w hh => hh)
           replace hm := ifE h59 hm
           refine jb Y Y (jk Y Y (jb Y Y (jk Y Y (jb Y Y (jk Y Y (jb Y Y ?_))))))
           obtain ⟨t88, h60, hm⟩ := bindO hm
           refine Kl h60 Y Y Y (jb Y Y ?_)
           obtain ⟨t89, h61, hm⟩ := bindO hm
           refine jc Y Y Y (fun w _ => yz h61 (runUnderlying22 w) (sizeOf3 w) Y Y (vlen RI h35 Y) (vne h35)) (jb Y Y (jc Y Y Y (fun w hh => kK RI 0 h61 (isAgg3 w) Y (hh.vseg 1 Y h35) Y (Nat.add_zero _).symm) (jb Y Y (KD Y Y Y (jb Y Y (yx Y Y Y (y8 Y Y Y ?_)))))))
           refine jv ?_
           obtain rfl := sj hm
           exact jm () (trivial) (sE Y) (fun w hh => hh)
          replace hm := ifE h57 hm
          refine jb Y Y (jk Y Y (jb Y Y (jk Y Y (jb Y Y (jk Y Y (jb Y Y ?_))))))
          obtain ⟨t72, h62, hm⟩ := bindO hm
          refine jc Y Y Y (fun _ _ => k3 h62 Y Y) (jb Y Y ?_)
          obtain ⟨t73, h63, hm⟩ := bindO hm
          refine jc Y Y Y (fun w _ => yz h63 (runUnderlying22 w) (sizeOf3 w) Y Y (vlen RI h35 Y) (vne h35)) (jb Y Y (jc Y Y Y (fun w hh => kK RI 0 h63 (isAgg3 w) Y (hh.vseg 1 Y h35) Y (Nat.add_zero _).symm) (jb Y Y (jc Y Y Y (fun _ _ => QE Y Y) (jb Y Y (yx Y Y Y (y8 Y Y Y ?_)))))))
          refine jk Y Y ?_
          refine jK 78 Y (fun h64 => ?_) (fun h64 => ?_)
          ·replace hm := ifD h64 hm
           refine jb Y Y (jk Y Y (jb Y Y (jk Y Y (jb Y Y (jc Y Y Y (fun w _ => JZ (vlen RI h35 Y) (runUnderlying22 w) Y) (jb Y Y ?_))))))
           obtain ⟨t82_1, h65, hm⟩ := bindO hm
           refine jc Y Y Y (fun _ _ => k3 h65 Y Y) (jb Y Y (jc Y Y Y (fun _ _ => Je Y Y) (jb Y Y (jk Y Y ?_))))
           refine jK 84 Y (fun h66 => ?_) (fun h66 => ?_)
           ·replace hm := ifD h66 hm
            refine g_k Y Y Y Y (g_k Y Y Y Y (g_k Y Y Y Y (g_k Y Y Y Y (g_k Y Y Y Y (g_k Y Y Y Y (g_k Y Y Y Y (jb Y Y ?_)))))))
            refine y8 Y Y Y (y8 Y Y Y (jv ?_))
            obtain rfl := sj hm
            exact jm () (trivial) (sE Y) (fun w hh => hh)
           replace hm := ifE h66 hm
           refine jb Y Y (jk Y Y (jb Y Y (jk Y Y (jb Y Y (jk Y Y (jb Y Y ?_))))))
           obtain ⟨t88_1, h67, hm⟩ := bindO hm
           refine Kl h67 Y Y Y (jb Y Y ?_)
           obtain ⟨t89_1, h68, hm⟩ := bindO hm
           refine jc Y Y Y (fun w _ => yz h68 (runUnderlying22 w) (sizeOf3 w) Y Y (vlen RI h35 Y) (vne h35)) (jb Y Y (jc Y Y Y (fun w hh => kK RI 0 h68 (isAgg3 w) Y (hh.vseg 1 Y h35) Y (Nat.add_zero _).symm) (jb Y Y (KD Y Y Y (jb Y Y (yx Y Y Y (y8 Y Y Y ?_)))))))
           refine jv ?_
           obtain rfl := sj hm
           exact jm () (trivial) (sE Y) (fun w hh => hh)
          replace hm := ifE h64 hm
          refine g_k Y Y Y Y (g_k Y Y Y Y (g_k Y Y Y Y (g_k Y Y Y Y (g_k Y Y Y Y (g_k Y Y Y Y ?_)))))
          refine jC Y Y Y Y Y ?_
          refine jC Y Y Y Y Y ?_
          refine jC Y Y Y Y Y ?_
          refine jC Y Y Y Y Y ?_
          refine jC Y Y Y Y Y ?_
          refine jC Y Y Y Y Y ?_
          refine jC Y Y Y Y Y ?_
          refine g_k Y Y Y Y (yx Y Y Y (jv ?_))
          obtain rfl := sj hm
          exact jm () (trivial) (sE Y) (fun w hh => hh)
         replace hm := ifE h56 hm
         refine g_k Y Y Y Y (g_k Y Y Y Y (g_k Y Y Y Y ?_))
         refine jC Y Y Y Y Y ?_
         refine jC Y Y Y Y Y ?_
         refine jC Y Y Y Y Y ?_
         refine jC Y Y Y Y Y ?_
         refine jC Y Y Y Y Y ?_
         refine jC Y Y Y Y Y ?_
         refine jC Y Y Y Y Y ?_
         refine g_k Y Y Y Y (yx Y Y Y (jk Y Y (g_k Y Y Y Y (g_k Y Y Y Y (g_k Y Y Y Y (g_k Y Y Y Y (g_k Y Y Y Y ?_)))))))
         refine g_k Y Y Y Y ?_
         refine jC Y Y Y Y Y ?_
         refine jC Y Y Y Y Y ?_
         refine jC Y Y Y Y Y ?_
         refine jC Y Y Y Y Y ?_
         refine jC Y Y Y Y Y ?_
         refine jC Y Y Y Y Y ?_
         refine jC Y Y Y Y Y ?_
         refine g_k Y Y Y Y (yx Y Y Y (jv ?_))
         obtain rfl := sj hm
         exact jm () (trivial) (sE Y) (fun w hh => hh)
        replace hm := ifE h55 hm
        refine g_k Y Y Y Y (g_k Y Y Y Y (g_k Y Y Y Y (g_k Y Y Y Y (yx Y Y Y (jk Y Y (g_k Y Y Y Y (g_k Y Y Y Y ?_)))))))
        refine g_k Y Y Y Y ?_
        refine jC Y Y Y Y Y ?_
        refine jC Y Y Y Y Y ?_
        refine jC Y Y Y Y Y ?_
        refine jC Y Y Y Y Y ?_
        refine jC Y Y Y Y Y ?_
        refine jC Y Y Y Y Y ?_
        refine jC Y Y Y Y Y ?_
        refine g_k Y Y Y Y (yx Y Y Y (jk Y Y (g_k Y Y Y Y (g_k Y Y Y Y (g_k Y Y Y Y (g_k Y Y Y Y (g_k Y Y Y Y ?_)))))))
        refine g_k Y Y Y Y ?_
        refine jC Y Y Y Y Y ?_
        refine jC Y Y Y Y Y ?_
        refine jC Y Y Y Y Y ?_
        refine jC Y Y Y Y Y ?_
        refine jC Y Y Y Y Y ?_
        refine jC Y Y Y Y Y ?_
        refine jC Y Y Y Y Y ?_
        refine g_k Y Y Y Y (yx Y Y Y (jv ?_))
        obtain rfl := sj hm
        exact jm () (trivial) (sE Y) (fun w hh => hh)
       intro l_12 hj
       replace hm := h54
       refine ja ?_
       refine jz Y (fun h69 => ?_) (fun h69 => ?_)
       ·replace hm := ifT (h69) hm
        refine jg (jk Y Y (jk Y Y (jk Y Y ?_)))
        obtain ⟨t97, h70, hm⟩ := bindO hm
        refine jc Y Y Y (fun w _ => yz h70 (runUnderlying22 w) (sizeOf3 w) Y Y (vlen RI h35 Y) (vne h35)) ?_
        obtain ⟨r0, hr0, hm⟩ := bindO hm
        refine jbz RI 1 0 t56 (fun w => sizeOf3 w) Y Y Y Y h35 Y (Nat.add_zero _).symm Y h70 Y Y (Option.some.inj hr0) (fun h71 => ?_)
        refine qc (S' := [_, _]) (vs' := [_, _, _, _]) [0, 1] [0, 1, 2, 3] 0 Y Y Y Y (jv (jA ?_))
        obtain rfl := sj hm
        exact jm () (h71) (sE Y) (fun w hh => hh)
       replace hm := ifN h69 hm
       refine jx (jA ?_)
       obtain rfl := sj hm
       exact jm () (h35) (sE Y) (fun w hh => hh)
      intro l_8 hj
      have h40 := hj
      replace hm := h39
      refine ja (jg ?_)
      obtain ⟨t98, h72, hm⟩ := bindO hm
      refine Kl h72 Y Y Y (jk Y Y (jv ?_))
      obtain rfl := sj hm
      refine ja ?_
      exact jM _ () Y (h40) (sE Y) (fun w hh => hh)
     replace hm := ifE h37 hm
     refine kz (jp (jp (jP ?_)))
     obtain rfl := sj hm
     have hbo := h36 _ Y
     subst hbo
     exact jm () (h35) (sE Y) (hsE [0, 1] [0, 1] 0 Y Y Y Y)
    intro l_6 hj
    have h34 := hj
    replace hm := h33
    refine ja (jg (jk Y Y (jk Y Y ?_)))
    refine qD RwH [(⟨l_3.q, l_3.n, l_3.cap, l_3.sp⟩ : VL)] (ps := [(0, _)]) (cells := [_]) (fun w => runUnderlying41 w) (fun w => sizeOf22 w) (fun w => zeroValue22 w) Y Y Y Y Y Y Y Y (fun L_2 h73 => ?_)
    refine ZO (E2 := 3) RI 1 (Y : _ = ([[]] : List (List Int))) (fun h74 => ?_)
    refine qc (S' := [_, _]) (vs' := [_, _, _]) [0, 1] [0, 2, 1] 0 Y Y Y Y ?_
    refine ZQ RI (l' := [o_1.r0]) 0 l_3.n l_3.cap h74 h34 Y Y (fun h75 => ?_)
    have h76 : DOK RI [o_1.r0] [(⟨l_3.q, l_3.n, l_3.cap, l_3.sp⟩ : VL)] := h75
    refine jaf (S' := [_, _]) (vs' := [⟨22, RwH.enc [(⟨l_3.q, l_3.n, l_3.cap, l_3.sp⟩ : VL)], L_2.sp, L_2.q, dbl 3 RI [o_1.r0] [(⟨l_3.q, l_3.n, l_3.cap, l_3.sp⟩ : VL)]⟩, ⟨22, RwH.enc l_2.rs, l_2.v.sp, l_2.v.q, dbl 3 RI s.out5 l_2.rs⟩]) [0, 1] [0, 1] 0 (by decide) (by decide) Y Y Y ?_
    obtain ⟨t102, h77, hm⟩ := bindO hm
    refine Kh RwH 1 (appcL h77 (h16).len (h76).len) underlying41 jaL Y Y Y Y Y h15 Y Y (vlen RwH h73 Y) (AOK.q (vne h73)) (fun w hh => (hh.vsegA 0 Y h73)) Y (fun L_3 h78 _ => ?_)
    refine qc (S' := [_, _]) (vs' := [_, _]) [0, 1] [0, 1] 0 Y Y Y Y (qc (S' := [_, _]) (vs' := [_, _]) [0, 1] [1, 0] 0 Y Y Y Y ?_)
    refine jap RI h16 h76 (appcO h77).1.symm (fun h79 => ?_)
    refine jr Y Y (jv (jA (ja (jg ?_))))
    obtain ⟨t103, h80, hm⟩ := bindO hm
    refine Kl h80 Y Y Y (jk Y Y (jv ?_))
    obtain rfl := sj hm
    refine ja ?_
    exact jM _ (⟨⟨L_3.q, L_3.n, L_3.cap, L_3.sp⟩, (l_2.rs ++ [(⟨l_3.q, l_3.n, l_3.cap, l_3.sp⟩ : VL)])⟩) Y (⟨h78, h79⟩) (sE Y) (hsE [1, 0] [0] 0 Y Y Y Y)
   replace hm := ifE h18 hm
   refine kz (jp (jp (jP ?_)))
   obtain rfl := sj hm
   have hbo := h17 _ Y
   subst hbo
   exact jm l_2 (⟨h15, h16⟩) (sE Y) (fun w hh => hh)
  intro l_1 hj
  obtain ⟨h13, h14⟩ := hj
  replace hm := h12
  refine ja (jw (jk Y Y (jr Y Y (ju (jB ?_)))))
  obtain rfl := sj hm
  refine jq Y (fun w hh => (.tmp Y .nil)) (fun w hh => ⟨l_1, rfl, ⟨h13, h14⟩, hh.se [1] [0] 4 Y Y Y rfl⟩)
structure kr where
  r0 : Channel
  b0_1 : Int
  b0_2 : Int
  r1 : (List (List Int))
structure yS where
  b0_1 : Int
  b0_2 : Int
  c10_fords : (List Int)
structure kj where
  t22 : Int
  b0_1 : Int
  b0_2 : Int
  c10_fords : (List Int)
structure yP where
  b0_1 : Int
  b0_2 : Int
  c10_fords : (List Int)
structure yT where
  t46 : Bool
  b0_1 : Int
  b0_2 : Int
def qV (t15 : yj) (fords2 : Int) (b00 : (List Int)) (s : kj) : Option (kj ⊕ yS) :=
 if s.t22 < t15.r0 then
 (((if (s.c10_fords.length : Int) < fords2 then
 ((zH b00 s.b0_1 s.b0_2 3).bind fun t32 =>
 if t32.r0 = true then
 (some (⟨true, t32.h0_1, t32.h0_2⟩ : yT)) else
 ((subc t15.r0 1).bind fun t37 =>
 if s.t22 = t37 then
 (some (⟨(decide ((s.c10_fords.length : Int) = 0)), t32.h0_1, t32.h0_2⟩ : yT)) else
 (some (⟨false, t32.h0_1, t32.h0_2⟩ : yT)))) else
 (some (⟨false, s.b0_1, s.b0_2⟩ : yT))).bind fun o_2 =>
 if o_2.t46 = true then
 ((appc 8 s.c10_fords [s.t22]).bind fun t51 =>
 some (⟨o_2.b0_1, o_2.b0_2, t51⟩ : yP)) else
 (some (⟨o_2.b0_1, o_2.b0_2, s.c10_fords⟩ : yP))).bind fun o_1 =>
 (addc s.t22 1).bind fun t53 =>
 some (.inl (⟨t53, o_1.b0_1, o_1.b0_2, o_1.c10_fords⟩ : kj))) else
 (some (.inr (⟨s.b0_1, s.b0_2, s.c10_fords⟩ : yS)))
structure Kp where
  b0_1 : Int
  b0_2 : Int
  c10_sands : (List Sand)
structure yQ where
  t56 : Int
  b0_1 : Int
  b0_2 : Int
  c10_sands : (List Sand)
structure QT where
  b0_1 : Int
  b0_2 : Int
  c10_sands : (List Sand)
def qW (t55 : yX) (t15 : yj) (b00 : (List Int)) (s_1 : yQ) : Option (yQ ⊕ Kp) :=
 if s_1.t56 < t55.r0 then
 ((subc t15.r0 1).bind fun t61 =>
 (j4 b00 s_1.b0_1 s_1.b0_2 t61).bind fun t62 =>
 ((subc t15.r0 1).bind fun t68 =>
 (j4 b00 t62.h0_1 t62.h0_2 4).bind fun t71 =>
 (addc t62.r0 t71.r0).bind fun t72 =>
 (yZ b00 t71.h0_1 t71.h0_2 1 2).bind fun t76 =>
 (appc 24 s_1.c10_sands [(⟨(⟨t62.r0, (min t68 t72)⟩ : Span), t76.r0⟩ : Sand)]).bind fun t79 =>
 some (⟨t76.h0_1, t76.h0_2, t79⟩ : QT)).bind fun o_4 =>
 (addc s_1.t56 1).bind fun t81 =>
 some (.inl (⟨t81, o_4.b0_1, o_4.b0_2, o_4.c10_sands⟩ : yQ))) else
 (some (.inr (⟨s_1.b0_1, s_1.b0_2, s_1.c10_sands⟩ : Kp)))
def qZ (b00 : (List Int)) (b01 : Int) (b02 : Int) (cells1 : Int) (fords2 : Int) (tides3 : Int) : Option kr :=
 (yZ b00 b01 b02 3 cells1).bind fun t15 =>
 (j4 b00 t15.h0_1 t15.h0_2 tides3).bind fun t18 =>
 (iterM FU (qV t15 fords2 b00) (⟨0, t18.h0_1, t18.h0_2, []⟩ : kj)).bind fun o =>
 (j4 b00 o.b0_1 o.b0_2 4).bind fun t55 =>
 (iterM FU (qW t55 t15 b00) (⟨0, t55.h0_1, t55.h0_2, []⟩ : yQ)).bind fun o_3 =>
 (kV b00 o_3.b0_1 o_3.b0_2 (⟨t15.r0, t18.r0, o.c10_fords, o_3.c10_sands, []⟩ : Channel)).bind fun t85 =>
 some (⟨(⟨t15.r0, t18.r0, o.c10_fords, o_3.c10_sands, []⟩ : Channel), t85.b0_1, t85.b0_2, t85.r0⟩ : kr)
theorem YD (b00 : (List Int)) (b01 : Int) (b02 : Int) (cells1 : Int) (fords2 : Int) (tides3 : Int) (pb : Nat) (qa0 : Option Addr) (na0 ca0 : Nat) (w : World) (hw : HV w (keys [kc pb #[.slice qa0 na0 ca0, .int .i64 b01, .int .u32 b02] 199] []) [kc pb #[.slice qa0 na0 ca0, .int .i64 b01, .int .u32 b02] 199] [] [(aB qa0, aO qa0, RU8.enc b00)] w) (hna0 : b00.length = na0) (hqa0 : AOK na0 qa0) (hla0 : na0 ≤ ca0) {res : kr} (hm : qZ b00 b01 b02 cells1 fords2 tides3 = some res) :
    Calls Tryz.prog 61 #[ptr pb 0, .int .i64 cells1, .int .i64 fords2, .int .i64 tides3] w (fun en w' => ∃ l : VL × VL × VL × DL, en = .returned (.tuple #[.agg #[.int .i64 res.r0.cells, .int .i64 res.r0.tides, sL l.1, sL l.2.1, sL l.2.2.1], sL l.2.2.2.v]) ∧ (VOK 1 l.1.n l.1.cap (RI.enc res.r0.fords) l.1.sp l.1.q ∧ VOK 3 l.2.1.n l.2.1.cap (RSa.enc res.r0.sands) l.2.1.sp l.2.1.q ∧ VOK 3 l.2.2.1.n l.2.2.1.cap (RSi.enc res.r0.sights) l.2.2.1.sp l.2.2.1.q ∧ VOK 1 l.2.2.2.v.n l.2.2.2.v.cap (RwH.enc l.2.2.2.rs) l.2.2.2.v.sp l.2.2.2.v.q ∧ DOK RI res.r1 l.2.2.2.rs) ∧ HV w (keys [kc pb #[.slice qa0 na0 ca0, .int .i64 b01, .int .u32 b02] 199] []) [kc pb #[.slice qa0 na0 ca0, .int .i64 res.b0_1, .int .u32 res.b0_2] 199] [vL 3 l.1 (RI.enc res.r0.fords), vL 98 l.2.1 (RSa.enc res.r0.sands), vL 55 l.2.2.1 (RSi.enc res.r0.sights), ⟨22, RwH.enc l.2.2.2.rs, l.2.2.2.v.sp, l.2.2.2.v.q, dbl 3 RI res.r1 l.2.2.2.rs⟩] [] w') := by
  unfold qZ at hm
  refine yt func61 Y ntmps61 Y (e := [(0, _), (1, _), (2, _), (3, _)]) Y hw (jw ?_)
  refine jy (fun w => zeroValue26 w) Y (fun b h6 => ?_)
  refine jc Y Y Y (fun _ _ => yO Y) (ql (jk Y Y (jk Y Y ?_)))
  obtain ⟨t15, h7, hm⟩ := bindO hm
  refine qc (S' := [_, _]) (vs' := []) [1, 0] [] 0 Y Y Y Y ?_
  refine jd [_] [] Y Y Y Y Y Y Y call145 (fun w hh => Qe b00 b01 b02 3 cells1 pb qa0 na0 ca0 w (HV.callee (S0 := [_]) (vs0 := []) hh (roR hh 0 Y roN)) hna0 hqa0 hla0 h7) (fun l h8 => ?_)
  refine qc (S' := [_, _]) (vs' := []) [0, 1] [] 0 Y Y Y Y (jk Y Y (jk Y Y ?_))
  obtain ⟨t18, h9, hm⟩ := bindO hm
  refine jd [_] [] Y Y Y Y Y Y Y call146 (fun w hh => kl b00 t15.h0_1 t15.h0_2 tides3 pb qa0 na0 ca0 w (HV.callee (S0 := [_]) (vs0 := []) hh (roR hh 0 Y roN)) hna0 hqa0 hla0 h9) (fun l_1 h10 => ?_)
  refine qc (S' := [_, _]) (vs' := []) [0, 1] [] 0 Y Y Y Y (jc Y Y Y (fun _ _ => kQ (vs := [(0, _), (1, _)]) (cells := [_, _, _, _, _]) Y Y) ?_)
  refine jy (fun w => zeroValue26 w) Y (fun b_1 h11 => ?_)
  refine kd (us := #[_, _, _, _, _]) (cs' := [_, _, _, _, _]) (S' := [_, _, _]) 0 (fun w => sizeOf26 w) Y Y Y Y Y Y Y (ju (jl (jw (yy 0 runUnderlying26 Y sizeOf3 Y Y (qN 0 isAgg3 Y Y Y Y (jk Y Y (ju ?_)))))))
  refine Kj 3 ?_
  obtain ⟨o, h12, h13⟩ := bindO hm
  refine jW (ι := VL) (fun l_2 => VOK 1 l_2.n l_2.cap (RI.enc o.c10_fords) l_2.sp l_2.q) (fun l_2 => [(0, ptr pb 0), (8, ptr b 0), (10, ptr b_1 0)]) (fun l_2 => [kc b_1 #[.int .i64 t15.r0, .int .i64 t18.r0, sL l_2, slv none 0 0, slv none 0 0] 26, kc pb #[.slice qa0 na0 ca0, .int .i64 o.b0_1, .int .u32 o.b0_2] 199, kc b #[.int .i64 0, .int .i64 0, slv none 0 0, slv none 0 0, slv none 0 0] 26]) (fun l_2 => [vL 3 l_2 (RI.enc o.c10_fords)]) ?_ ?_
  ·replace hm := h12
   refine js ?_
   refine kb (ι := VL) hm (fun s l_3 => VOK 1 l_3.n l_3.cap (RI.enc s.c10_fords) l_3.sp l_3.q) (fun s l_3 => [(0, ptr pb 0), (2, .int .i64 fords2), (8, ptr b 0), (10, ptr b_1 0), (21, .int .i64 t15.r0), (22, .int .i64 s.t22)]) (fun s l_3 => [kc b_1 #[.int .i64 t15.r0, .int .i64 t18.r0, sL l_3, slv none 0 0, slv none 0 0] 26, kc pb #[.slice qa0 na0 ca0, .int .i64 s.b0_1, .int .u32 s.b0_2] 199, kc b #[.int .i64 0, .int .i64 0, slv none 0 0, slv none 0 0, slv none 0 0] 26]) (fun s l_3 => [vL 3 l_3 (RI.enc s.c10_fords)]) ⟨none, 0, 0, []⟩ (VOK.nil) (sE Y) (fun w hh => hh) (fun s l_3 r hpl hm h16 => ?_)
   have h15 := hpl
   unfold qV at hm
   refine jw (KD Y Y Y (ju (jl ?_)))
   refine jz Y (fun h17 => ?_) (fun h17 => ?_)
   ·replace hm := ifD h17 hm
    refine jx (ja (jl ?_))
    obtain ⟨o_1, h18, h19⟩ := bindO hm
    refine jW (ι := VL) (fun l_4 => VOK 1 l_4.n l_4.cap (RI.enc o_1.c10_fords) l_4.sp l_4.q) (fun l_4 => [(0, ptr pb 0), (2, .int .i64 fords2), (8, ptr b 0), (10, ptr b_1 0), (21, .int .i64 t15.r0), (22, .int .i64 s.t22)]) (fun l_4 => [kc b_1 #[.int .i64 t15.r0, .int .i64 t18.r0, sL l_4, slv none 0 0, slv none 0 0] 26, kc pb #[.slice qa0 na0 ca0, .int .i64 o_1.b0_1, .int .u32 o_1.b0_2] 199, kc b #[.int .i64 0, .int .i64 0, slv none 0 0, slv none 0 0, slv none 0 0] 26]) (fun l_4 => [vL 3 l_4 (RI.enc o_1.c10_fords)]) ?_ ?_
    ·replace hm := h18
     refine js (jw (jk Y Y (jr Y Y (ju (jl ?_)))))
     obtain ⟨o_2, h21, h22⟩ := bindO hm
     refine jW (ι := Unit) (fun l_5 => True) (fun l_5 => [(0, ptr pb 0), (2, .int .i64 fords2), (8, ptr b 0), (10, ptr b_1 0), (11, .int .i64 s.t22), (21, .int .i64 t15.r0), (22, .int .i64 s.t22), (46, .bool o_2.t46)]) (fun l_5 => [kc b_1 #[.int .i64 t15.r0, .int .i64 t18.r0, sL l_3, slv none 0 0, slv none 0 0] 26, kc pb #[.slice qa0 na0 ca0, .int .i64 o_2.b0_1, .int .u32 o_2.b0_2] 199, kc b #[.int .i64 0, .int .i64 0, slv none 0 0, slv none 0 0, slv none 0 0] 26]) (fun l_5 => [vL 3 l_3 (RI.enc s.c10_fords)]) ?_ ?_
     ·replace hm := h21
      refine jg (yy 2 runUnderlying26 Y sizeOf22 Y Y (qN 0 isAgg22 Y Y Y Y (jc Y Y Y (fun w _ => JZ (vlen RI h15 Y) (runUnderlying22 w) Y) (jk Y Y (KD Y Y Y (jk Y Y ?_))))))
      refine jK 30 Y (fun h23 => ?_) (fun h23 => ?_)
      ·replace hm := ifD h23 hm
       refine jb Y Y (jk Y Y (jb Y Y ?_))
       obtain ⟨t32, h24, hm⟩ := bindO hm
       refine qc (S' := [_, _, _]) (vs' := [_]) [1, 0, 2] [0] 0 Y Y Y Y ?_
       refine jd [_] [] Y Y Y Y Y Y Y call68 (fun w hh => Yn b00 s.b0_1 s.b0_2 3 pb qa0 na0 ca0 w (HV.callee (S0 := [_]) (vs0 := []) hh (roR hh 0 Y roN)) hna0 hqa0 hla0 h24) (fun l_6 h25 => ?_)
       refine qc (S' := [_, _, _]) (vs' := [_]) [0, 1, 2] [0] 0 Y Y Y Y (jb Y Y (jk Y Y ?_))
       refine jK 33 Y (fun h26 => ?_) (fun h26 => ?_)
       ·replace hm := ifT (h26) hm
        refine g_k Y Y Y Y (g_k Y Y Y Y (g_k Y Y Y Y (g_k Y Y Y Y (g_k Y Y Y Y (g_k Y Y Y Y ?_)))))
        refine jC Y Y Y Y Y ?_
        refine jC Y Y Y Y Y ?_
        refine jC Y Y Y Y Y ?_
        refine jC Y Y Y Y Y ?_
        refine g_k Y Y Y Y (jb Y Y (y8 Y Y Y (y8 Y Y Y (jv ?_))))
        obtain rfl := sj hm
        exact jm () (trivial) (sE Y) (hsE [1, 0, 2] [0] 0 Y Y Y Y)
       replace hm := ifN h26 hm
       refine jb Y Y (jk Y Y (jb Y Y (yy 0 runUnderlying26 Y sizeOf3 Y Y (jb Y Y (qN 1 isAgg3 Y Y Y Y (jb Y Y ?_))))))
       obtain ⟨t37, h27, hm⟩ := bindO hm
       refine jc Y Y Y (fun _ _ => k3 h27 Y Y) (jb Y Y (jc Y Y Y (fun _ _ => Je Y Y) (jb Y Y (jk Y Y ?_))))
       refine jK 39 Y (fun h28 => ?_) (fun h28 => ?_)
       ·replace hm := ifD h28 hm
        refine jb Y Y (yy 2 runUnderlying26 Y sizeOf22 Y Y (jb Y Y (qN 1 isAgg22 Y Y Y Y (jb Y Y (jc Y Y Y (fun w _ => JZ (vlen RI h15 Y) (runUnderlying22 w) Y) (jb Y Y (jc Y Y Y (fun _ _ => Je Y Y) ?_)))))))
        refine jb Y Y (y8 Y Y Y (jb Y Y (yx Y Y Y (y8 Y Y Y (jv ?_)))))
        obtain rfl := sj hm
        exact jm () (trivial) (sE Y) (hsE [1, 0, 2] [0] 0 Y Y Y Y)
       replace hm := ifE h28 hm
       refine g_k Y Y Y Y (g_k Y Y Y Y (g_k Y Y Y Y (g_k Y Y Y Y (jb Y Y (yx Y Y Y (jb Y Y (yx Y Y Y ?_)))))))
       refine y8 Y Y Y (jv ?_)
       obtain rfl := sj hm
       exact jm () (trivial) (sE Y) (hsE [1, 0, 2] [0] 0 Y Y Y Y)
      replace hm := ifE h23 hm
      refine g_k Y Y Y Y (g_k Y Y Y Y (g_k Y Y Y Y ?_))
      refine jC Y Y Y Y Y ?_
      refine jC Y Y Y Y Y ?_
      refine jC Y Y Y Y Y ?_
      refine jC Y Y Y Y Y ?_
      refine jC Y Y Y Y Y ?_
      refine jC Y Y Y Y Y ?_
      refine jC Y Y Y Y Y ?_
      refine jC Y Y Y Y Y ?_
      refine jC Y Y Y Y Y ?_
      refine jC Y Y Y Y Y ?_
      refine jC Y Y Y Y Y ?_
      refine g_k Y Y Y Y (yx Y Y Y (jv ?_))
      obtain rfl := sj hm
      exact jm () (trivial) (sE Y) (fun w hh => hh)
     intro l_5 hj
     replace hm := h22
     refine ja ?_
     refine jz Y (fun h29 => ?_) (fun h29 => ?_)
     ·replace hm := ifT (h29) hm
      refine jg (yy 2 runUnderlying26 Y sizeOf22 Y Y (qN 0 isAgg22 Y Y Y Y (jk Y Y ?_)))
      refine qD RI [s.t22] (ps := [(0, _)]) (cells := [_]) (fun w => runUnderlying22 w) (fun w => sizeOf3 w) (fun w => zeroValue3 w) Y Y Y Y Y Y Y Y (fun L h30 => ?_)
      obtain ⟨t51, h31, hm⟩ := bindO hm
      refine Kh RI 1 h31 underlying22 YI Y Y Y Y Y h15 Y Y (vlen RI h30 Y) (AOK.q (vne h30)) (fun w hh => (hh.vsegA 0 Y h30)) Y (fun L_1 h32 h32n => ?_)
      refine qc (S' := [_, _, _]) (vs' := [_, _]) [0, 1, 2] [0, 1] 0 Y Y Y Y (yy 2 runUnderlying26 Y sizeOf22 Y Y (yv (cs' := #[_, _, _, _, _]) (S' := [_, _, _]) 0 (fun w => sizeOf22 w) Y Y Y Y Y Y Y (jv (jA ?_))))
      obtain rfl := sj hm
      exact jm L_1 (h32) (sE Y) (hsE [0, 1, 2] [1] 0 Y Y Y Y)
     replace hm := ifN h29 hm
     refine jx (jA ?_)
     obtain rfl := sj hm
     exact jm l_3 (h15) (sE Y) (fun w hh => hh)
    intro l_4 hj
    have h20 := hj
    replace hm := h19
    refine ja (jg ?_)
    obtain ⟨t53, h33, hm⟩ := bindO hm
    refine Kl h33 Y Y Y (jk Y Y (jv ?_))
    obtain rfl := sj hm
    refine ja ?_
    exact jM _ l_4 Y (h20) (sE Y) (fun w hh => hh)
   replace hm := ifE h17 hm
   refine kz (jp (jp (jP ?_)))
   obtain rfl := sj hm
   have hbo := h16 _ Y
   subst hbo
   exact jm l_3 (h15) (sE Y) (fun w hh => hh)
  intro l_2 hj
  have h14 := hj
  replace hm := h13
  refine ja (jl (jw (jk Y Y ?_)))
  obtain ⟨t55, h34, hm⟩ := bindO hm
  refine qc (S' := [_, _, _]) (vs' := [_]) [1, 0, 2] [0] 0 Y Y Y Y ?_
  refine jd [_] [] Y Y Y Y Y Y Y call146 (fun w hh => kl b00 o.b0_1 o.b0_2 4 pb qa0 na0 ca0 w (HV.callee (S0 := [_]) (vs0 := []) hh (roR hh 0 Y roN)) hna0 hqa0 hla0 h34) (fun l_7 h35 => ?_)
  refine qc (S' := [_, _, _]) (vs' := [_]) [0, 1, 2] [0] 0 Y Y Y Y (jk Y Y (ju (Kj 98 ?_)))
  obtain ⟨o_3, h36, h37⟩ := bindO hm
  refine jW (ι := VL) (fun l_8 => VOK 3 l_8.n l_8.cap (RSa.enc o_3.c10_sands) l_8.sp l_8.q) (fun l_8 => [(0, ptr pb 0), (8, ptr b 0), (10, ptr b_1 0)]) (fun l_8 => [kc pb #[.slice qa0 na0 ca0, .int .i64 o_3.b0_1, .int .u32 o_3.b0_2] 199, kc b_1 #[.int .i64 t15.r0, .int .i64 t18.r0, sL l_2, sL l_8, slv none 0 0] 26, kc b #[.int .i64 0, .int .i64 0, slv none 0 0, slv none 0 0, slv none 0 0] 26]) (fun l_8 => [vL 3 l_2 (RI.enc o.c10_fords), vL 98 l_8 (RSa.enc o_3.c10_sands)]) ?_ ?_
  ·replace hm := h36
   refine js ?_
   refine kb (ι := VL) hm (fun s_1 l_9 => VOK 3 l_9.n l_9.cap (RSa.enc s_1.c10_sands) l_9.sp l_9.q) (fun s_1 l_9 => [(0, ptr pb 0), (8, ptr b 0), (10, ptr b_1 0), (55, .int .i64 t55.r0), (56, .int .i64 s_1.t56)]) (fun s_1 l_9 => [kc pb #[.slice qa0 na0 ca0, .int .i64 s_1.b0_1, .int .u32 s_1.b0_2] 199, kc b_1 #[.int .i64 t15.r0, .int .i64 t18.r0, sL l_2, sL l_9, slv none 0 0] 26, kc b #[.int .i64 0, .int .i64 0, slv none 0 0, slv none 0 0, slv none 0 0] 26]) (fun s_1 l_9 => [vL 3 l_2 (RI.enc o.c10_fords), vL 98 l_9 (RSa.enc s_1.c10_sands)]) ⟨none, 0, 0, []⟩ (VOK.nil) (sE Y) (hsE [0, 1, 2] [1, 0] 0 Y Y Y Y) (fun s_1 l_9 r_1 hpl hm h40 => ?_)
   have h39 := hpl
   unfold qW at hm
   refine jw (KD Y Y Y (ju (jl ?_)))
   refine jz Y (fun h41 => ?_) (fun h41 => ?_)
   ·replace hm := ifD h41 hm
    refine jx (ja (jl (js (jw (jk Y Y (yy 0 runUnderlying26 Y sizeOf3 Y Y (qN 1 isAgg3 Y Y Y Y ?_)))))))
    obtain ⟨t61, h42, hm⟩ := bindO hm
    refine jc Y Y Y (fun _ _ => k3 h42 Y Y) ?_
    obtain ⟨t62, h43, hm⟩ := bindO hm
    refine jd [_] [] Y Y Y Y Y Y Y call146 (fun w hh => kl b00 s_1.b0_1 s_1.b0_2 t61 pb qa0 na0 ca0 w (HV.callee (S0 := [_]) (vs0 := []) hh (roR hh 0 Y roN)) hna0 hqa0 hla0 h43) (fun l_10 h44 => ?_)
    refine qc (S' := [_, _, _]) (vs' := [_, _]) [0, 1, 2] [0, 1] 0 Y Y Y Y (jr Y Y (ju ?_))
    obtain ⟨o_4, h45, h46⟩ := bindO hm
    refine jW (ι := VL) (fun l_11 => VOK 3 l_11.n l_11.cap (RSa.enc o_4.c10_sands) l_11.sp l_11.q) (fun l_11 => [(0, ptr pb 0), (8, ptr b 0), (10, ptr b_1 0), (55, .int .i64 t55.r0), (56, .int .i64 s_1.t56)]) (fun l_11 => [kc pb #[.slice qa0 na0 ca0, .int .i64 o_4.b0_1, .int .u32 o_4.b0_2] 199, kc b_1 #[.int .i64 t15.r0, .int .i64 t18.r0, sL l_2, sL l_11, slv none 0 0] 26, kc b #[.int .i64 0, .int .i64 0, slv none 0 0, slv none 0 0, slv none 0 0] 26]) (fun l_11 => [vL 3 l_2 (RI.enc o.c10_fords), vL 98 l_11 (RSa.enc o_4.c10_sands)]) ?_ ?_
    ·replace hm := h45
     refine qi (some 18) (.free 0 (.hoist 1 (.free 2 (.free 3 (.hoist 4 (.free 5 (.free 6 (.free 7 (.free 12 (.one 8 (.free 9 (.free 10 (.free 11 (.one 13 (.free 14 (.one 15 (.one 16 (.free 17 (.last 18 .done))))))))))))))))))) (HV _ _ [kc b_1 #[.int .i64 t15.r0, .int .i64 t18.r0, sL l_2, sL l_9, slv none 0 0] 26, kc b #[.int .i64 0, .int .i64 0, slv none 0 0, slv none 0 0, slv none 0 0] 26] [vL 3 l_2 (RI.enc o.c10_fords)] _) Y (by decide +kernel) (fun w k hh => hh.draw k) (hsE [1, 2] [0] 0 Y Y Y Y) ?_
     refine K8 3 runUnderlying26 sizeOf23 Y Y Y Y (QR 0 isAgg23 Y Y Y Y Y (yJ Y Y Y (K8 0 runUnderlying26 sizeOf3 Y Y Y Y (QR 0 isAgg3 Y Y Y Y Y ?_))))
     obtain ⟨t68, h48, hm⟩ := bindO hm
     refine jn Y Y Y Y (fun _ _ => k3 h48 Y Y) (yJ Y Y Y (yJ Y Y Y (yJ Y Y Y (jF Y ?_))))
     obtain ⟨t71, h49, hm⟩ := bindO hm
     refine jd [_] [] Y Y Y Y Y Y Y call146 (fun w hh => kl b00 t62.h0_1 t62.h0_2 4 pb qa0 na0 ca0 w (HV.callee (S0 := [_]) (vs0 := []) hh (roR hh 0 Y roN)) hna0 hqa0 hla0 h49) (fun l_12 h50 => ?_)
     refine qc (S' := [_, _, _]) (vs' := [_, _]) [0, 1, 2] [0, 1] 0 Y Y Y Y (jo (hsE [1, 2] [0] 0 Y Y Y Y) ?_)
     obtain ⟨t72, h51, hm⟩ := bindO hm
     refine jn Y Y Y Y (fun _ _ => Kw h51 Y Y) (jn Y Y Y Y (fun _ _ => jbB Y Y) (jn Y Y Y Y (fun _ _ => kQ (vs := [(0, _), (1, _)]) (cells := [_, _]) Y Y) (jF Y ?_)))
     obtain ⟨t76, h52, hm⟩ := bindO hm
     refine jd [_] [] Y Y Y Y Y Y Y call145 (fun w hh => Qe b00 t71.h0_1 t71.h0_2 1 2 pb qa0 na0 ca0 w (HV.callee (S0 := [_]) (vs0 := []) hh (roR hh 0 Y roN)) hna0 hqa0 hla0 h52) (fun l_13 h53 => ?_)
     refine qc (S' := [_, _, _]) (vs' := [_, _]) [0, 1, 2] [0, 1] 0 Y Y Y Y (jo (hsE [1, 2] [0] 0 Y Y Y Y) (jn Y Y Y Y (fun _ _ => kQ (vs := [(0, _), (1, _)]) (cells := [_, _, _]) Y Y) (jF Y ?_)))
     refine qD RSa [(⟨(⟨t62.r0, (min t68 t72)⟩ : Span), t76.r0⟩ : Sand)] (ps := [(0, _)]) (cells := [_, _, _]) (fun w => runUnderlying23 w) (fun w => sizeOf98 w) (fun w => zeroValue98 w) Y Y Y Y Y Y Y Y (fun L_2 h54 => ?_)
     refine jo (hsE [1, 2] [1] 0 Y Y Y Y) (jF Y ?_)
     obtain ⟨t79, h55, hm⟩ := bindO hm
     refine Kh RSa 2 h55 underlying23 jaV Y Y Y Y Y h39 Y Y (vlen RSa h54 Y) (AOK.q (vne h54)) (fun w hh => (hh.vsegA 0 Y h54)) Y (fun L_3 h56 h56n => ?_)
     refine qc (S' := [_, _, _]) (vs' := [_, _, _]) [0, 1, 2] [0, 1, 2] 0 Y Y Y Y (jo (hsE [1, 2] [1] 0 Y Y Y Y) (K8 3 runUnderlying26 sizeOf23 Y Y Y Y (ZM Y (yv (cs' := #[_, _, _, _, _]) (S' := [_, _, _]) 1 (fun w => sizeOf23 w) Y Y Y Y Y Y Y (Y4 (jL ?_))))))
     obtain rfl := sj hm
     exact jm L_3 (h56) (sE Y) (hsE [0, 1, 2] [1, 2] 0 Y Y Y Y)
    intro l_11 hj
    have h47 := hj
    replace hm := h46
    refine jA (ja (jg ?_))
    obtain ⟨t81, h57, hm⟩ := bindO hm
    refine Kl h57 Y Y Y (jk Y Y (jv ?_))
    obtain rfl := sj hm
    refine ja ?_
    exact jM _ l_11 Y (h47) (sE Y) (fun w hh => hh)
   replace hm := ifE h41 hm
   refine kz (jp (jp (jP ?_)))
   obtain rfl := sj hm
   have hbo := h40 _ Y
   subst hbo
   exact jm l_9 (h39) (sE Y) (fun w hh => hh)
  intro l_8 hj
  have h38 := hj
  replace hm := h37
  refine ja (jl ?_)
  refine qi none (.hoist 0 (.free 1 (.hoist 2 (.one 3 (.one 4 (.free 5 .done)))))) (HV _ _ [kc b_1 #[.int .i64 t15.r0, .int .i64 t18.r0, sL l_2, sL l_8, slv none 0 0] 26] [vL 3 l_2 (RI.enc o.c10_fords), vL 98 l_8 (RSa.enc o_3.c10_sands)] _) Y (by decide +kernel) (fun w k hh => hh.draw k) (hsE [1] [0, 1] 0 Y Y Y Y) ?_
  refine jD Y Y Y Y (fun w hh => jJ (vs := [_, _, _, _, _]) (isAgg26 w) (sizeOf26 w) Y (hh.cells 0 Y Y)) (yJ Y Y Y (jD Y Y Y Y (fun w hh => jJ (vs := [_, _, _, _, _]) (isAgg26 w) (sizeOf26 w) Y (hh.cells 0 Y Y)) (jF Y ?_)))
  obtain ⟨t85, h58, hm⟩ := bindO hm
  refine jd [_] [] Y Y Y Y Y Y Y call78 (fun w hh => KF b00 o_3.b0_1 o_3.b0_2 (⟨t15.r0, t18.r0, o.c10_fords, o_3.c10_sands, []⟩ : Channel) pb qa0 na0 ca0 (qA l_2.q) l_2.n l_2.cap (qA l_8.q) l_8.n l_8.cap none 0 0 w (HV.callee (S0 := [_]) (vs0 := []) hh (roR hh 0 Y (roC (hh.vsepA 0 Y h14) (roC (hh.vsepA 1 Y h38) (roC ⟨segOK.nil, fun hx => absurd Y hx⟩ roN))))) hna0 hqa0 hla0 (vlen RI h14 Y) (AOK.q (vne h14)) (h14).hle (vlen RSa h38 Y) (AOK.q (vne h38)) (h38).hle Y AOK.nil (Nat.le_refl 0) h58) (fun l_14 h59 => ?_)
  obtain ⟨h60, h61⟩ := h59
  refine qc (S' := [_, _, _]) (vs' := [_, _, _]) [0, 1, 2] [0, 1, 2] 0 Y Y Y Y (jo (hsE [1] [1, 2] 0 Y Y Y Y) (jF Y (kd (us := #[_, _, _, _, _]) (cs' := [_, _, _, _, _]) (S' := [_, _, _]) 2 (fun w => sizeOf26 w) Y Y Y Y Y Y Y (jo (hsE [1] [1, 2] 0 Y Y Y Y) (jn Y Y Y Y (fun _ _ => jE Y) (jL (ja ?_)))))))
  refine jB (Kj 55 ?_)
  obtain rfl := sj hm
  refine jq Y (fun w hh => (.cell Y (loadVar_agg (vs := [_, _, _, _, _]) (isAgg26 _) (sizeOf26 _) (hh.cells 2 Y Y)) (.tmp Y .nil))) (fun w hh => ⟨(l_2, l_8, ⟨none, 0, 0, []⟩, l_14), rfl, ⟨h14, h38, VOK.nil, h60, h61⟩, hh.se [0] [2, 3, 0, 1] 1 Y Y Y rfl⟩)
structure ks where
  b0_1 : Int
  b0_2 : Int
  r0 : (List Sight)
structure zN where
  b0_1 : Int
  b0_2 : Int
  out9 : (List Sight)
structure qp where
  t14 : Int
  b0_1 : Int
  b0_2 : Int
  out9 : (List Sight)
structure QU where
  s10 : Sight
  b0_1 : Int
  b0_2 : Int
structure KC where
  b0_1 : Int
  b0_2 : Int
  s10_cell : Int
def qR (t13 : yX) (c1 : Channel) (b00 : (List Int)) (course2 : (List (List Int))) (s : qp) : Option (qp ⊕ zN) :=
 if s.t14 < t13.r0 then
 (((subc c1.cells 1).bind fun t23 =>
 (j4 b00 s.b0_1 s.b0_2 c1.tides).bind fun t19 =>
 (j4 b00 t19.h0_1 t19.h0_2 t23).bind fun t24 =>
 some (⟨(⟨t19.r0, t24.r0, false⟩ : Sight), t24.h0_1, t24.h0_2⟩ : QU)).bind fun o_1 =>
 ((zH b00 o_1.b0_1 o_1.b0_2 2).bind fun t27 =>
 if t27.r0 = true then
 ((ix course2 o_1.s10.after).bind fun t31 =>
 (subc (c1.fords.length : Int) 1).bind fun t37 =>
 (j4 b00 t27.h0_1 t27.h0_2 t37).bind fun t38 =>
 (ix t31 t38.r0).bind fun t39 =>
 some (⟨t38.h0_1, t38.h0_2, t39⟩ : KC)) else
 (some (⟨t27.h0_1, t27.h0_2, o_1.s10.cell⟩ : KC))).bind fun o_2 =>
 (ix course2 o_1.s10.after).bind fun t45 =>
 (j6 t45 o_2.s10_cell).bind fun t49 =>
 (appc 24 s.out9 [(⟨o_1.s10.after, o_2.s10_cell, t49⟩ : Sight)]).bind fun t54 =>
 (addc s.t14 1).bind fun t55 =>
 some (.inl (⟨t55, o_2.b0_1, o_2.b0_2, t54⟩ : qp))) else
 (some (.inr (⟨s.b0_1, s.b0_2, s.out9⟩ : zN)))
def q4 (b00 : (List Int)) (b01 : Int) (b02 : Int) (c1 : Channel) (course2 : (List (List Int))) (most3 : Int) : Option ks :=
 (j4 b00 b01 b02 most3).bind fun t13 =>
 (iterM FU (qR t13 c1 b00 course2) (⟨0, t13.h0_1, t13.h0_2, []⟩ : qp)).bind fun o =>
 some (⟨o.b0_1, o.b0_2, o.out9⟩ : ks)
theorem Yx (b00 : (List Int)) (b01 : Int) (b02 : Int) (c1 : Channel) (course2 : (List (List Int))) (most3 : Int) (pb : Nat) (qa0 : Option Addr) (na0 ca0 : Nat) (qa1 : Option Addr) (na1 ca1 : Nat) (qa2 : Option Addr) (na2 ca2 : Nat) (qa3 : Option Addr) (na3 ca3 : Nat) (qa4 : Option Addr) (na4 ca4 : Nat) (ar4 : List AL) (w : World) (hw : HV w (keys [kc pb #[.slice qa0 na0 ca0, .int .i64 b01, .int .u32 b02] 199] []) [kc pb #[.slice qa0 na0 ca0, .int .i64 b01, .int .u32 b02] 199] [] [(aB qa0, aO qa0, RU8.enc b00), (aB qa1, aO qa1, RI.enc c1.fords), (aB qa2, aO qa2, RSa.enc c1.sands), (aB qa3, aO qa3, RSi.enc c1.sights), (aB qa4, aO qa4, RwA.enc ar4)] w) (hna0 : b00.length = na0) (hqa0 : AOK na0 qa0) (hla0 : na0 ≤ ca0) (hna1 : c1.fords.length = na1) (hqa1 : AOK na1 qa1) (hla1 : na1 ≤ ca1) (hna2 : c1.sands.length = na2) (hqa2 : AOK na2 qa2) (hla2 : na2 ≤ ca2) (hna3 : c1.sights.length = na3) (hqa3 : AOK na3 qa3) (hla3 : na3 ≤ ca3) (hna4 : course2.length = na4) (hqa4 : AOK na4 qa4) (hla4 : na4 ≤ ca4) (hda4 : DRO course2 ar4) (hTa4 : ∀ t, t ∈ rsg RI course2 ar4 → segOK w t ∧ (t.2.2 ≠ [] → t.1 ∉ keys [kc pb #[.slice qa0 na0 ca0, .int .i64 b01, .int .u32 b02] 199] [])) {res : ks} (hm : q4 b00 b01 b02 c1 course2 most3 = some res) :
    Calls Tryz.prog 67 #[ptr pb 0, .agg #[.int .i64 c1.cells, .int .i64 c1.tides, .slice qa1 na1 ca1, .slice qa2 na2 ca2, .slice qa3 na3 ca3], .slice qa4 na4 ca4, .int .i64 most3] w (fun en w' => ∃ l : VL, en = .returned (sL l) ∧ (VOK 3 l.n l.cap (RSi.enc res.r0) l.sp l.q) ∧ HV w (keys [kc pb #[.slice qa0 na0 ca0, .int .i64 b01, .int .u32 b02] 199] []) [kc pb #[.slice qa0 na0 ca0, .int .i64 res.b0_1, .int .u32 res.b0_2] 199] [vL 55 l (RSi.enc res.r0)] [] w') := by
  unfold q4 at hm
  refine yt func67 Y ntmps67 Y (e := [(0, _), (1, _), (2, _), (3, _)]) Y hw (jw ?_)
  refine jS Y Y (fun b h2 => ?_)
  refine jc Y Y Y (fun _ _ => yO Y) (ql (jc Y Y Y (fun _ _ => yO Y) (ju (jl (jw (jk Y Y (jk Y Y ?_)))))))
  obtain ⟨t13, h3, hm⟩ := bindO hm
  refine qc (S' := [_, _]) (vs' := []) [1, 0] [] 0 Y Y Y Y ?_
  refine jd [_] [] Y Y Y Y Y Y Y call146 (fun w hh => kl b00 b01 b02 most3 pb qa0 na0 ca0 w (HV.callee (S0 := [_]) (vs0 := []) hh (roR hh 0 Y roN)) hna0 hqa0 hla0 h3) (fun l h4 => ?_)
  refine qc (S' := [_, _]) (vs' := []) [0, 1] [] 0 Y Y Y Y (jk Y Y (ju (Kj 55 ?_)))
  obtain ⟨o, h5, h6⟩ := bindO hm
  refine jW (ι := VL) (fun l_1 => VOK 3 l_1.n l_1.cap (RSi.enc o.out9) l_1.sp l_1.q) (fun l_1 => [(9, sL l_1)]) (fun l_1 => [kc pb #[.slice qa0 na0 ca0, .int .i64 o.b0_1, .int .u32 o.b0_2] 199, kc b #[.int .i64 c1.cells, .int .i64 c1.tides, .slice qa1 na1 ca1, .slice qa2 na2 ca2, .slice qa3 na3 ca3] 26]) (fun l_1 => [vL 55 l_1 (RSi.enc o.out9)]) ?_ ?_
  ·replace hm := h5
   refine js ?_
   refine kb (ι := VL) hm (fun s l_2 => VOK 3 l_2.n l_2.cap (RSi.enc s.out9) l_2.sp l_2.q) (fun s l_2 => [(0, ptr pb 0), (2, .slice qa4 na4 ca4), (5, ptr b 0), (9, sL l_2), (13, .int .i64 t13.r0), (14, .int .i64 s.t14)]) (fun s l_2 => [kc pb #[.slice qa0 na0 ca0, .int .i64 s.b0_1, .int .u32 s.b0_2] 199, kc b #[.int .i64 c1.cells, .int .i64 c1.tides, .slice qa1 na1 ca1, .slice qa2 na2 ca2, .slice qa3 na3 ca3] 26]) (fun s l_2 => [vL 55 l_2 (RSi.enc s.out9)]) ⟨none, 0, 0, []⟩ (VOK.nil) (sE Y) (fun w hh => hh) (fun s l_2 r hpl hm h9 => ?_)
   have h8 := hpl
   unfold qR at hm
   refine jw (KD Y Y Y (ju (jl ?_)))
   refine jz Y (fun h10 => ?_) (fun h10 => ?_)
   ·replace hm := ifD h10 hm
    refine jx (ja (jl (js (jl ?_))))
    obtain ⟨o_1, h11, h12⟩ := bindO hm
    refine jW (ι := Nat) (fun l_3 => True) (fun l_3 => [(0, ptr pb 0), (2, .slice qa4 na4 ca4), (5, ptr b 0), (9, sL l_2), (10, ptr l_3 0), (13, .int .i64 t13.r0), (14, .int .i64 s.t14)]) (fun l_3 => [kc pb #[.slice qa0 na0 ca0, .int .i64 o_1.b0_1, .int .u32 o_1.b0_2] 199, kc b #[.int .i64 c1.cells, .int .i64 c1.tides, .slice qa1 na1 ca1, .slice qa2 na2 ca2, .slice qa3 na3 ca3] 26, kc l_3 #[.int .i64 o_1.s10.after, .int .i64 o_1.s10.cell, .bool o_1.s10.upright] 55]) (fun l_3 => [vL 55 l_2 (RSi.enc s.out9)]) ?_ ?_
    ·replace hm := h11
     obtain ⟨t23, h13, hm⟩ := bindO hm
     obtain ⟨t19, h14, hm⟩ := bindO hm
     obtain ⟨t24, h15, hm⟩ := bindO hm
     refine qi none (.free 0 (.free 1 (.hoist 2 (.free 4 (.free 5 (.hoist 6 (.free 7 (.br (.alt 3 (.br (.alt 8 (.free 9 (.one 10 (.one 11 .done))) (.alt 10 (.one 8 (.free 9 (.one 11 .done))) .nil))) (.alt 10 (.one 3 (.one 8 (.free 9 (.one 11 .done)))) .nil)))))))))) (HV _ _ [kc b #[.int .i64 c1.cells, .int .i64 c1.tides, .slice qa1 na1 ca1, .slice qa2 na2 ca2, .slice qa3 na3 ca3] 26] [vL 55 l_2 (RSi.enc s.out9)] _) Y (by decide +kernel) (fun w k hh => hh.draw k) (hsE [1] [0] 0 Y Y Y Y) ?_
     refine yJ Y Y Y (K8 1 runUnderlying26 sizeOf3 Y Y Y Y (QR 0 isAgg3 Y Y Y Y Y (yJ Y Y Y (K8 0 runUnderlying26 sizeOf3 Y Y Y Y (QR 0 isAgg3 Y Y Y Y Y (jn Y Y Y Y (fun _ _ => k3 h13 Y Y) (Y3 ?_)))))))
     refine qO Y ?_ ?_
     ·refine jd [_] [] Y Y Y Y Y Y Y call146 (fun w hh => kl b00 s.b0_1 s.b0_2 c1.tides pb qa0 na0 ca0 w (HV.callee (S0 := [_]) (vs0 := []) hh (roR hh 0 Y roN)) hna0 hqa0 hla0 h14) (fun l_4 h16 => ?_)
      refine qc (S' := [_, _]) (vs' := [_]) [0, 1] [0] 0 Y Y Y Y (jo (hsE [1] [0] 0 Y Y Y Y) (Y3 ?_))
      refine qO Y ?_ ?_
      ·refine jd [_] [] Y Y Y Y Y Y Y call146 (fun w hh => kl b00 t19.h0_1 t19.h0_2 t23 pb qa0 na0 ca0 w (HV.callee (S0 := [_]) (vs0 := []) hh (roR hh 0 Y roN)) hna0 hqa0 hla0 h15) (fun l_5 h17 => ?_)
       refine qc (S' := [_, _]) (vs' := [_]) [0, 1] [0] 0 Y Y Y Y (jo (hsE [1] [0] 0 Y Y Y Y) (jn Y Y Y Y (fun _ _ => kQ (vs := [(0, _), (1, _)]) (cells := [_, _, _]) Y Y) (jF Y ?_)))
       refine jy (fun w => zeroValue55 w) Y (fun b_1 h18 => ?_)
       refine jo (hsE [2] [0] 0 Y Y Y Y) (jF Y (kd (us := #[_, _, _]) (cs' := [_, _, _]) (S' := [_, _, _]) 0 (fun w => sizeOf55 w) Y Y Y Y Y Y Y (jo (hsE [2] [0] 0 Y Y Y Y) (jL ?_))))
       obtain rfl := sj hm
       exact jm b_1 (trivial) (sE Y) (hsE [1, 2, 0] [0] 0 Y Y Y Y)
      refine qO Y ?_ ?_
      refine jy (fun w => zeroValue55 w) Y (fun b_2 h19 => ?_)
      refine jo (hsE [2] [0] 0 Y Y Y Y) (jF Y (qc (S' := [_, _, _]) (vs' := [_]) [1, 0, 2] [0] 0 Y Y Y Y ?_))
      refine jd [_] [] Y Y Y Y Y Y Y call146 (fun w hh => kl b00 t19.h0_1 t19.h0_2 t23 pb qa0 na0 ca0 w (HV.callee (S0 := [_]) (vs0 := []) hh (roR hh 0 Y roN)) hna0 hqa0 hla0 h15) (fun l_6 h20 => ?_)
      refine qc (S' := [_, _, _]) (vs' := [_]) [0, 1, 2] [0] 0 Y Y Y Y (jo (hsE [2] [0] 0 Y Y Y Y) (jn Y Y Y Y (fun _ _ => kQ (vs := [(0, _), (1, _)]) (cells := [_, _, _]) Y Y) (jF Y (kd (us := #[_, _, _]) (cs' := [_, _, _]) (S' := [_, _, _]) 1 (fun w => sizeOf55 w) Y Y Y Y Y Y Y (jo (hsE [2] [0] 0 Y Y Y Y) (jL ?_))))))
      obtain rfl := sj hm
      exact jm b_2 (trivial) (sE Y) (hsE [0, 2, 1] [0] 0 Y Y Y Y)
      exact KE
     refine qO Y ?_ ?_
     refine jy (fun w => zeroValue55 w) Y (fun b_3 h21 => ?_)
     refine jo (hsE [2] [0] 0 Y Y Y Y) (jF Y (qc (S' := [_, _, _]) (vs' := [_]) [1, 0, 2] [0] 0 Y Y Y Y ?_))
     refine jd [_] [] Y Y Y Y Y Y Y call146 (fun w hh => kl b00 s.b0_1 s.b0_2 c1.tides pb qa0 na0 ca0 w (HV.callee (S0 := [_]) (vs0 := []) hh (roR hh 0 Y roN)) hna0 hqa0 hla0 h14) (fun l_7 h22 => ?_)
     refine qc (S' := [_, _, _]) (vs' := [_]) [0, 1, 2] [0] 0 Y Y Y Y (jo (hsE [2] [0] 0 Y Y Y Y) (jF Y ?_))
     refine jd [_] [] Y Y Y Y Y Y Y call146 (fun w hh => kl b00 t19.h0_1 t19.h0_2 t23 pb qa0 na0 ca0 w (HV.callee (S0 := [_]) (vs0 := []) hh (roR hh 0 Y roN)) hna0 hqa0 hla0 h15) (fun l_8 h23 => ?_)
     refine qc (S' := [_, _, _]) (vs' := [_]) [0, 1, 2] [0] 0 Y Y Y Y (jo (hsE [2] [0] 0 Y Y Y Y) (jn Y Y Y Y (fun _ _ => kQ (vs := [(0, _), (1, _)]) (cells := [_, _, _]) Y Y) (jF Y (kd (us := #[_, _, _]) (cs' := [_, _, _]) (S' := [_, _, _]) 1 (fun w => sizeOf55 w) Y Y Y Y Y Y Y (jo (hsE [2] [0] 0 Y Y Y Y) (jL ?_))))))
     obtain rfl := sj hm
     exact jm b_3 (trivial) (sE Y) (hsE [0, 2, 1] [0] 0 Y Y Y Y)
     exact KE
    intro l_3 hj
    replace hm := h12
    refine ja (jl ?_)
    obtain ⟨o_2, h24, h25⟩ := bindO hm
    refine jW (ι := Unit) (fun l_9 => True) (fun l_9 => [(0, ptr pb 0), (2, .slice qa4 na4 ca4), (5, ptr b 0), (9, sL l_2), (10, ptr l_3 0), (13, .int .i64 t13.r0), (14, .int .i64 s.t14)]) (fun l_9 => [kc pb #[.slice qa0 na0 ca0, .int .i64 o_2.b0_1, .int .u32 o_2.b0_2] 199, kc b #[.int .i64 c1.cells, .int .i64 c1.tides, .slice qa1 na1 ca1, .slice qa2 na2 ca2, .slice qa3 na3 ca3] 26, kc l_3 #[.int .i64 o_1.s10.after, .int .i64 o_2.s10_cell, .bool o_1.s10.upright] 55]) (fun l_9 => [vL 55 l_2 (RSi.enc s.out9)]) ?_ ?_
    ·replace hm := h24
     refine jw (jk Y Y ?_)
     obtain ⟨t27, h26, hm⟩ := bindO hm
     refine jd [_] [] Y Y Y Y Y Y Y call68 (fun w hh => Yn b00 o_1.b0_1 o_1.b0_2 2 pb qa0 na0 ca0 w (HV.callee (S0 := [_]) (vs0 := []) hh (roR hh 0 Y roN)) hna0 hqa0 hla0 h26) (fun l_10 h27 => ?_)
     refine qc (S' := [_, _, _]) (vs' := [_]) [0, 1, 2] [0] 0 Y Y Y Y (ju ?_)
     refine jz Y (fun h28 => ?_) (fun h28 => ?_)
     ·replace hm := ifT (h28) hm
      refine qi (some 14) (.free 0 (.free 1 (.hoist 2 (.free 3 (.hoist 4 (.free 5 (.free 6 (.hoist 7 (.free 8 (.free 9 (.one 10 (.free 11 (.hoist 12 (.free 13 (.last 14 .done))))))))))))))) (HV _ _ [kc b #[.int .i64 c1.cells, .int .i64 c1.tides, .slice qa1 na1 ca1, .slice qa2 na2 ca2, .slice qa3 na3 ca3] 26, kc l_3 #[.int .i64 o_1.s10.after, .int .i64 o_1.s10.cell, .bool o_1.s10.upright] 55] [vL 55 l_2 (RSi.enc s.out9)] _) Y (by decide +kernel) (fun w k hh => hh.draw k) (hsE [1, 2] [0] 0 Y Y Y Y) ?_
      refine yJ Y Y Y (K8 0 runUnderlying55 sizeOf3 Y Y Y Y (QR 1 isAgg3 Y Y Y Y Y ?_))
      obtain ⟨t31, h29, hm⟩ := bindO hm
      obtain ⟨A, h30, h31, h32, h33⟩ := (hda4).row h29
      refine jn Y Y Y Y (fun w _ => yU h30 (runUnderlying41 w) (sizeOf22 w) Y Y (Eq.trans (hda4).len.symm hna4) hqa4) (jD Y Y Y Y (fun w hh => kK RwA 0 h30 (isAgg22 w) Y (hh.seg 4 Y) Y (Nat.add_zero _).symm) (yJ Y Y Y (K8 2 runUnderlying26 sizeOf22 Y Y Y Y (QR 0 isAgg22 Y Y Y Y Y (jn Y Y Y Y (fun w _ => kC hna1 (runUnderlying22 w) Y) ?_)))))
      obtain ⟨t37, h34, hm⟩ := bindO hm
      refine jn Y Y Y Y (fun _ _ => k3 h34 Y Y) (jF Y ?_)
      obtain ⟨t38, h35, hm⟩ := bindO hm
      refine jd [_] [] Y Y Y Y Y Y Y call146 (fun w hh => kl b00 t27.h0_1 t27.h0_2 t37 pb qa0 na0 ca0 w (HV.callee (S0 := [_]) (vs0 := []) hh (roR hh 0 Y roN)) hna0 hqa0 hla0 h35) (fun l_11 h36 => ?_)
      refine qc (S' := [_, _, _]) (vs' := [_]) [0, 1, 2] [0] 0 Y Y Y Y (jo (hsE [1, 2] [0] 0 Y Y Y Y) ?_)
      obtain ⟨t39, h37, hm⟩ := bindO hm
      refine jn Y Y Y Y (fun w _ => yU h37 (runUnderlying22 w) (sizeOf3 w) Y Y h31 h32) (jD Y Y Y Y (fun w hh => kK RI 0 h37 (isAgg3 w) Y (hh.oldseg (hTa4 _ (rsg_ix h29 h30))) Y (Nat.add_zero _).symm) (K8 1 runUnderlying55 sizeOf3 Y Y Y Y (ZM Y (yv (cs' := #[_, _, _]) (S' := [_, _, _]) 2 (fun w => sizeOf3 w) Y Y Y Y Y Y Y (Y4 (jL ?_))))))
      obtain rfl := sj hm
      exact jm () (trivial) (sE Y) (fun w hh => hh)
     replace hm := ifN h28 hm
     refine jx ?_
     obtain rfl := sj hm
     exact jm () (trivial) (sE Y) (fun w hh => hh)
    intro l_9 hj
    replace hm := h25
    refine ja (jl ?_)
    refine qi (some 9) (.free 0 (.free 1 (.hoist 2 (.free 3 (.hoist 4 (.free 5 (.hoist 6 (.one 7 (.free 8 (.last 9 .done)))))))))) _ Y (by decide +kernel) (fun w k hh => hh.draw k) (fun w hh => hh) ?_
    refine yJ Y Y Y (K8 0 runUnderlying55 sizeOf3 Y Y Y Y (QR 2 isAgg3 Y Y Y Y Y ?_))
    obtain ⟨t45, h38, hm⟩ := bindO hm
    obtain ⟨A_1, h39, h40, h41, h42⟩ := (hda4).row h38
    refine jn Y Y Y Y (fun w _ => yU h39 (runUnderlying41 w) (sizeOf22 w) Y Y (Eq.trans (hda4).len.symm hna4) hqa4) (jD Y Y Y Y (fun w hh => kK RwA 0 h39 (isAgg22 w) Y (hh.seg 4 Y) Y (Nat.add_zero _).symm) (K8 1 runUnderlying55 sizeOf3 Y Y Y Y (QR 2 isAgg3 Y Y Y Y Y (jF Y ?_))))
    obtain ⟨t49, h43, hm⟩ := bindO hm
    refine jd [] [] Y Y Y Y Y Y Y call64 (fun w hh => yN t45 o_2.s10_cell A_1.a A_1.n A_1.cap w (HV.callee (S0 := []) (vs0 := []) hh (roC (hh.oldsep (S0 := []) (vs0 := []) (hTa4 _ (rsg_ix h38 h39))) roN)) h40 h41 h42 h43) (fun l_12 h44 => ?_)
    refine jo (fun w hh => hh) (K8 2 runUnderlying55 sizeOf4 Y Y Y Y (ZM Y (yv (cs' := #[_, _, _]) (S' := [_, _, _]) 2 (fun w => sizeOf4 w) Y Y Y Y Y Y Y (Y4 (jL (ja (jg ?_)))))))
    refine jk Y Y (Jh [_, _, _] 2 isAgg55 sizeOf55 Y Y Y Y ?_)
    refine qD RSi [(⟨o_1.s10.after, o_2.s10_cell, t49⟩ : Sight)] (ps := [(0, _)]) (cells := [_, _, _]) (fun w => runUnderlying24 w) (fun w => sizeOf55 w) (fun w => zeroValue55 w) Y Y Y Y Y Y Y Y (fun L h45 => ?_)
    obtain ⟨t54, h46, hm⟩ := bindO hm
    refine Kh RSi 1 h46 underlying24 jak Y Y Y Y Y h8 Y Y (vlen RSi h45 Y) (AOK.q (vne h45)) (fun w hh => (hh.vsegA 0 Y h45)) Y (fun L_1 h47 h47n => ?_)
    refine qc (S' := [_, _, _]) (vs' := [_, _]) [0, 1, 2] [0, 1] 0 Y Y Y Y (jr Y Y (jv (jA (ja (jg ?_)))))
    obtain ⟨t55, h48, hm⟩ := bindO hm
    refine Kl h48 Y Y Y (jk Y Y (jv ?_))
    obtain rfl := sj hm
    refine ja ?_
    exact jM _ L_1 Y (h47) (sE Y) (hsE [0, 1] [1] 0 Y Y Y Y)
   replace hm := ifE h10 hm
   refine kz (jp (jp (jP ?_)))
   obtain rfl := sj hm
   have hbo := h9 _ Y
   subst hbo
   exact jm l_2 (h8) (sE Y) (fun w hh => hh)
  intro l_1 hj
  have h7 := hj
  replace hm := h6
  refine ja (jw (jk Y Y (jr Y Y (ju (jB ?_)))))
  obtain rfl := sj hm
  refine jq Y (fun w hh => (.tmp Y .nil)) (fun w hh => ⟨l_1, rfl, h7, hh.se [0] [0] 5 Y Y Y rfl⟩)
end Go.Proofs.Wb

namespace Go.Proofs.Wb
open Go Go.Fw Go.Gx Go.Sb
set_option linter.unusedVariables false
set_option maxRecDepth 100000
theorem canB_self {c : Channel} (r : Right c) (l : List Int) : canB c.sands l l = true := by
  unfold canB
  rw [List.all_eq_true]
  intro i _
  rw [inb_iff]
  have := rchC_bounds (x := l.getD i (-1)) r.reach
  omega
end Go.Proofs.Wb

